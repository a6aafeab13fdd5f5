-- printed by a program of the session (wip/hyb/mkprint.py)
import Derived.Test.YtipdhjdlfdbkiaaPHistAheadx0
import Derived.Test.YtipdhjdlfdbkiaaPHistAheadx1
import Derived.Test.YtipdhjdlfdbkiaaPHistAheadx2
namespace Go.Proofs.Ytipdhjdlfdbkiaa.PHistAhead
open Go.RowKit Go.Proofs.YtipdhjdlfdbkiaaW.PrintWords Go.Proofs.YtipdhjdlfdbkiaaW.PrintLast Go.Proofs.YtipdhjdlfdbkiaaW.PrintMore
attribute [local go_sem] max2_int min2_int max_two min_two max_three min_three max_four min_four   -- for this text's walks alone
set_option linter.unusedVariables false
set_option linter.unusedSimpArgs false

end Go.Proofs.Ytipdhjdlfdbkiaa.PHistAhead
