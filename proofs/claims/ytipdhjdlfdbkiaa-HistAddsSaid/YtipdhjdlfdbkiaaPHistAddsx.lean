-- printed by a program of the session (wip/hyb/mkprint.py)
import Derived.Test.YtipdhjdlfdbkiaaPHistAddsx0
import Derived.Test.YtipdhjdlfdbkiaaPHistAddsx1
import Derived.Test.YtipdhjdlfdbkiaaPHistAddsx2
import Derived.Test.YtipdhjdlfdbkiaaPHistAddsx3
import Derived.Test.YtipdhjdlfdbkiaaPHistAddsx4
import Derived.Test.YtipdhjdlfdbkiaaPHistAddsx5
import Derived.Test.YtipdhjdlfdbkiaaPHistAddsx6
import Derived.Test.YtipdhjdlfdbkiaaPHistAddsx7
import Derived.Test.YtipdhjdlfdbkiaaPHistAddsx8
import Derived.Test.YtipdhjdlfdbkiaaPHistAddsx9
import Derived.Test.YtipdhjdlfdbkiaaPHistAddsx10
import Derived.Test.YtipdhjdlfdbkiaaPHistAddsx11
import Derived.Test.YtipdhjdlfdbkiaaPHistAddsx12
namespace Go.Proofs.Ytipdhjdlfdbkiaa.PHistAdds
open Go.RowKit Go.Proofs.YtipdhjdlfdbkiaaW.PrintWords Go.Proofs.YtipdhjdlfdbkiaaW.PrintLast Go.Proofs.YtipdhjdlfdbkiaaW.PrintMore
attribute [local go_sem] max2_int min2_int max_two min_two max_three min_three max_four min_four   -- for this text's walks alone
set_option linter.unusedVariables false
set_option linter.unusedSimpArgs false

end Go.Proofs.Ytipdhjdlfdbkiaa.PHistAdds
