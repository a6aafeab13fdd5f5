-- printed by a program of the session (wip/hyb/mkprint.py)
import Derived.Test.YtipdhjdlfdbkiaaPPairMakesx0
import Derived.Test.YtipdhjdlfdbkiaaPPairMakesx1
import Derived.Test.YtipdhjdlfdbkiaaPPairMakesx2
import Derived.Test.YtipdhjdlfdbkiaaPPairMakesx3
import Derived.Test.YtipdhjdlfdbkiaaPPairMakesx4
import Derived.Test.YtipdhjdlfdbkiaaPPairMakesx5
import Derived.Test.YtipdhjdlfdbkiaaPPairMakesx6
namespace Go.Proofs.Ytipdhjdlfdbkiaa.PPairMakes
open Go.RowKit Go.Proofs.YtipdhjdlfdbkiaaW.PrintWords Go.Proofs.YtipdhjdlfdbkiaaW.PrintLast Go.Proofs.YtipdhjdlfdbkiaaW.PrintMore
attribute [local go_sem] max2_int min2_int max_two min_two max_three min_three max_four min_four   -- for this text's walks alone
set_option linter.unusedVariables false
set_option linter.unusedSimpArgs false

end Go.Proofs.Ytipdhjdlfdbkiaa.PPairMakes
