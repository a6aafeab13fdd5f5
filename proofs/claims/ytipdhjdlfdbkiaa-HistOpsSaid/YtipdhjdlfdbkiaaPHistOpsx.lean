-- printed by a program of the session (wip/hyb/mkprint.py)
import Derived.Test.YtipdhjdlfdbkiaaPHistOpsx0
import Derived.Test.YtipdhjdlfdbkiaaPHistOpsx1
import Derived.Test.YtipdhjdlfdbkiaaPHistOpsx2
import Derived.Test.YtipdhjdlfdbkiaaPHistOpsx3
import Derived.Test.YtipdhjdlfdbkiaaPHistOpsx4
import Derived.Test.YtipdhjdlfdbkiaaPHistOpsx5
import Derived.Test.YtipdhjdlfdbkiaaPHistOpsx6
import Derived.Test.YtipdhjdlfdbkiaaPHistOpsx7
import Derived.Test.YtipdhjdlfdbkiaaPHistOpsx8
namespace Go.Proofs.Ytipdhjdlfdbkiaa.PHistOps
open Go.RowKit Go.Proofs.YtipdhjdlfdbkiaaW.PrintWords Go.Proofs.YtipdhjdlfdbkiaaW.PrintLast Go.Proofs.YtipdhjdlfdbkiaaW.PrintMore
attribute [local go_sem] max2_int min2_int max_two min_two max_three min_three max_four min_four   -- for this text's walks alone
set_option linter.unusedVariables false
set_option linter.unusedSimpArgs false

end Go.Proofs.Ytipdhjdlfdbkiaa.PHistOps
