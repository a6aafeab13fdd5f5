-- printed by a program of the session (wip/hyb/mkprint.py)
import Derived.Test.YtipdhjdlfdbkiaaPPairSeeksx0
import Derived.Test.YtipdhjdlfdbkiaaPPairSeeksx1
import Derived.Test.YtipdhjdlfdbkiaaPPairSeeksx2
import Derived.Test.YtipdhjdlfdbkiaaPPairSeeksx3
import Derived.Test.YtipdhjdlfdbkiaaPPairSeeksx4
import Derived.Test.YtipdhjdlfdbkiaaPPairSeeksx5
import Derived.Test.YtipdhjdlfdbkiaaPPairSeeksx6
namespace Go.Proofs.Ytipdhjdlfdbkiaa.PPairSeeks
open Go.RowKit Go.Proofs.YtipdhjdlfdbkiaaW.PrintWords Go.Proofs.YtipdhjdlfdbkiaaW.PrintLast Go.Proofs.YtipdhjdlfdbkiaaW.PrintMore
attribute [local go_sem] max2_int min2_int max_two min_two max_three min_three max_four min_four   -- for this text's walks alone
set_option linter.unusedVariables false
set_option linter.unusedSimpArgs false

end Go.Proofs.Ytipdhjdlfdbkiaa.PPairSeeks
