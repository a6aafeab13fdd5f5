-- PRINTED BY print.sh 35421559b90ae4d0a3588c463048766b98c2df88dd9212a6774a882060cdf62d: not written by this session
import Derived.Test.YtipdhjdlfdbkiaaProg
import Derived.Below
import Derived.Deep.Draws
import Derived.Deep.AppendLies
import Derived.Maps.AppendAt
import Derived.OwnWalk
import Derived.Laws.BytesArg
import Derived.Laws.MakeOwn
import Derived.Laws.OwnMore
import Derived.Deep.OwnRows
import Derived.Tactics
import Derived.Lib.ConvBytes
import Derived.Laws.Slices
import Derived.WalkKit
import Derived.KernelRfl
import Derived.RowKit3
import Derived.Deep.LoopGhost
import Derived.Deep.QuietTactic
import Derived.BigQuiet
import Derived.WideLaws
import Derived.Deep.DeepCutAuto
import Derived.Deep.CutBlock
import Derived.Deep.RegionHeld3
import Derived.Laws.Rows
import Derived.Lib.AppendStr
import Derived.ArgAppend
import Derived.Laws.IdiomCopy
import Derived.OrdersHeld
import Derived.Laws.BitsLemmas
import Derived.RowKit
import Derived.Test.YtipdhjdlfdbkiaaWWords
import Derived.Test.YtipdhjdlfdbkiaaWLast
import Derived.Test.YtipdhjdlfdbkiaaWTab
import Derived.Test.YtipdhjdlfdbkiaaWFour
import Derived.Test.YtipdhjdlfdbkiaaWQPut
import Derived.Test.YtipdhjdlfdbkiaaWApart
import Derived.Test.YtipdhjdlfdbkiaaWArr
import Derived.Test.YtipdhjdlfdbkiaaWZeros
import Derived.Test.YtipdhjdlfdbkiaaWFoot
import Derived.Test.YtipdhjdlfdbkiaaWKept
import Derived.Test.YtipdhjdlfdbkiaaWShare
import Derived.Test.YtipdhjdlfdbkiaaWN
import Derived.Test.YtipdhjdlfdbkiaaWFootNe
import Derived.Test.YtipdhjdlfdbkiaaWAt
import Derived.Test.YtipdhjdlfdbkiaaWEqStruct
import Derived.Test.YtipdhjdlfdbkiaaWRepsOne
import Derived.Test.YtipdhjdlfdbkiaaWInv
import Derived.Test.YtipdhjdlfdbkiaaWInvWords
import Derived.Test.YtipdhjdlfdbkiaaWGuard
import Derived.Test.YtipdhjdlfdbkiaaWNEv
import Derived.Test.YtipdhjdlfdbkiaaWMore
namespace Go.Proofs.Ytipdhjdlfdbkiaa.PTrapAll
open Go.RowKit Go.Proofs.YtipdhjdlfdbkiaaW.PrintWords Go.Proofs.YtipdhjdlfdbkiaaW.PrintLast Go.Proofs.YtipdhjdlfdbkiaaW.PrintMore
attribute [local go_sem] max2_int min2_int max_two min_two max_three min_three max_four min_four   -- for this text's walks alone
set_option linter.unusedVariables false
set_option linter.unusedSimpArgs false



def errW : Option Int → Value
  | none => .nilIface
  | some c => .iface 0 (.int .i64 c)
theorem errW_none : errW none = .nilIface := rfl
theorem errW_some (c : Int) : errW (some c) = .iface 0 (.int .i64 c) := rfl

theorem info3 : (Try.prog.info? 3).map (fun i => (i.zero, i.size, i.bytes)) = some (some (.int .i64 0), 1, 8) := by kernel_rfl
theorem info30 : (Try.prog.info? 30).map (fun i => (i.zero, i.size, i.bytes)) = some (some (.int .i64 0), 1, 8) := by kernel_rfl
-- the values' own types

end Go.Proofs.Ytipdhjdlfdbkiaa.PTrapAll
