-- printed by a program of the session (wip/hyb/mkprint.py)
import Derived.Test.YthnococjdeafhaaDoorPModelSamex0
import Derived.Test.YthnococjdeafhaaDoorPModelSamex1
import Derived.Test.YthnococjdeafhaaDoorPModelSamex2
import Derived.Test.YthnococjdeafhaaDoorPModelSamex3
import Derived.Test.YthnococjdeafhaaDoorPModelSamex4
import Derived.Test.YthnococjdeafhaaDoorPModelSamex5
import Derived.Test.YthnococjdeafhaaDoorPModelSamex6
import Derived.Test.YthnococjdeafhaaDoorPModelSamex7
import Derived.Test.YthnococjdeafhaaDoorPModelSamex8
import Derived.Test.YthnococjdeafhaaDoorPModelSamex9
import Derived.Test.YthnococjdeafhaaDoorPModelSamex10
import Derived.Test.YthnococjdeafhaaDoorPModelSamex11
import Derived.Test.YthnococjdeafhaaDoorPModelSamex12
namespace Go.Proofs.YthnococjdeafhaaDoor.PModelSame
open Go.RowKit Go.Proofs.YthnococjdeafhaaDoorW.PrintWords Go.Proofs.YthnococjdeafhaaDoorW.PrintLast Go.Proofs.YthnococjdeafhaaDoorW.PrintMore
attribute [local go_sem] max2_int min2_int max_two min_two max_three min_three max_four min_four   -- for this text's walks alone
set_option linter.unusedVariables false
set_option linter.unusedSimpArgs false

end Go.Proofs.YthnococjdeafhaaDoor.PModelSame
