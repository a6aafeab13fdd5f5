/-
  No cell of these rows narrows 'for every input' (looked for: loops, veiled, ifaces, maps, wideKeys, modest, calm, conditions, laid).
  DERIVED. THE GIVEN ROWS OF THIS SEAT. 3 by the template 'for every input the law returns true; each argument reads behind the call as it read before'; 0 by the template 'total and deterministic' (their statements: YtgpegohoninbfaaGreatTotals.lean).
  GIVEN WITH THE SEED: the statements are not yours to turn. If you find one false, say at which input.
  Laid BY PROGRAM, IN A SANDBOX (cutbox-rows.mjs): the forced cells as the released guide's own fill.sh prints them over the translation 870f543bbfc4a21e… (all of the seat's roots in one cut). By AI agents, Wed Nov 11 2026. No macro, syntax, notation, axiom, sorry.
-/
import Derived.Test.YtgpegohoninbfaaGreatChecked
import GoSem.Claim
import GoSem.ClaimJoined
import GoSem.ClaimMapViews
import Derived.JoinedTies
import Derived.KernelRfl
namespace Go.Proofs.YtgpegohoninbfaaGreat
/- THE CELL 'sum', in the pinned program and in every row, IS THE sha256 OF THE DUMP (.gsa) THAT YtgpegohoninbfaaGreatProg.lean LOADS. Nothing in Lean hashes anything: it is a label: what it is worth is what the hold of that sum in a sandbox is worth. -/
noncomputable def Tryz.pinned : Pinned := { name := "ytgpegohoninbfaagreat", sum := "870f543bbfc4a21eeb0307044b321d2d8a6870a3866e770e527ecb9ecefd2819", checked := Tryz.checked }
namespace Rows
def none {H : Type} : Left H := { results := [], args := [] }

/-- 'boscagelaw34.GroundNone': WHATEVER THE INPUT: true; the input reads as it did. -/
def groundNoneSpec : ChangeSpec := { name := "groundNone", fn := fun _ => fun
  | [d] => { results := [.lit (.bool true)], args := [d] }
  | _ => none }
def groundNoneRow : OpenClaim := { program := "ytgpegohoninbfaagreat", sum := "870f543bbfc4a21eeb0307044b321d2d8a6870a3866e770e527ecb9ecefd2819", func := "boscage/boscagelaw34.GroundNone", spec := "groundNone", inPlace := ["slices.overlaps[boscage/api.Pair]"], unfollowed := true, recurses := true, apart := false }
def GroundNoneSaid : Prop := groundNoneRow.holds Tryz.pinned (OpenSpec.ofChange groundNoneSpec)

/-- ITS FALSE NEIGHBOUR: 'it returns false'. Refute it at one input. -/
def groundNoneWrong : ChangeSpec := { name := "groundNone", fn := fun _ => fun
  | [d] => { results := [.lit (.bool false)], args := [d] }
  | _ => none }
def GroundNoneWrongFalsely : Prop := groundNoneRow.holds Tryz.pinned (OpenSpec.ofChange groundNoneWrong)

/-- 'boscagelaw34.GroundNew': WHATEVER THE INPUT: true; the input reads as it did. -/
def groundNewSpec : ChangeSpec := { name := "groundNew", fn := fun _ => fun
  | [d] => { results := [.lit (.bool true)], args := [d] }
  | _ => none }
def groundNewRow : OpenClaim := { program := "ytgpegohoninbfaagreat", sum := "870f543bbfc4a21eeb0307044b321d2d8a6870a3866e770e527ecb9ecefd2819", func := "boscage/boscagelaw34.GroundNew", spec := "groundNew", inPlace := ["slices.overlaps[boscage/api.Pair]"], unfollowed := true, recurses := true, apart := false }
def GroundNewSaid : Prop := groundNewRow.holds Tryz.pinned (OpenSpec.ofChange groundNewSpec)

/-- ITS FALSE NEIGHBOUR: 'it returns false'. Refute it at one input. -/
def groundNewWrong : ChangeSpec := { name := "groundNew", fn := fun _ => fun
  | [d] => { results := [.lit (.bool false)], args := [d] }
  | _ => none }
def GroundNewWrongFalsely : Prop := groundNewRow.holds Tryz.pinned (OpenSpec.ofChange groundNewWrong)

/-- 'boscagelaw34.GroundReach': WHATEVER THE INPUT: true; the input reads as it did. -/
def groundReachSpec : ChangeSpec := { name := "groundReach", fn := fun _ => fun
  | [d] => { results := [.lit (.bool true)], args := [d] }
  | _ => none }
def groundReachRow : OpenClaim := { program := "ytgpegohoninbfaagreat", sum := "870f543bbfc4a21eeb0307044b321d2d8a6870a3866e770e527ecb9ecefd2819", func := "boscage/boscagelaw34.GroundReach", spec := "groundReach", inPlace := ["slices.overlaps[boscage/api.Pair]"], unfollowed := true, recurses := true, apart := false }
def GroundReachSaid : Prop := groundReachRow.holds Tryz.pinned (OpenSpec.ofChange groundReachSpec)

/-- ITS FALSE NEIGHBOUR: 'it returns false'. Refute it at one input. -/
def groundReachWrong : ChangeSpec := { name := "groundReach", fn := fun _ => fun
  | [d] => { results := [.lit (.bool false)], args := [d] }
  | _ => none }
def GroundReachWrongFalsely : Prop := groundReachRow.holds Tryz.pinned (OpenSpec.ofChange groundReachWrong)

/- THE SECOND FORM. 'bulk': how many values and letters a reading holds, each counted each time it is reached (what is shared counts as often as it is met; a slice's spare places count too). A statement '..UptoSaid' is the law's where the arguments, and the package variables that the reading takes, are together of bulk at most 1048576: NARROWER than '..Said'. Prove '..Said' where nothing that the law and all that it calls make is longer than what came in: it says more and counts as full. Else prove '..UptoSaid'. A law counts once. -/
mutual
def uptoBulk {H : Type} : DataW H → Nat
  | .lit (.string bytes) => bytes.length + 1
  | .lit _ => 1
  | .nil => 1
  | .ptr d => uptoBulk d + 1
  | .slice elems spare => uptoBulkAll elems + uptoBulkAll spare + 1
  | .agg parts => uptoBulkAll parts + 1
  | .iface _ d => uptoBulk d + 1
  | .map entries => uptoBulkEntries entries + 1
  | .held _ => 1
def uptoBulkAll {H : Type} : List (DataW H) → Nat
  | [] => 0
  | d :: r => uptoBulk d + uptoBulkAll r
def uptoBulkEntries {H : Type} : List (Lit × DataW H) → Nat
  | [] => 0
  | x :: r => uptoBulkEntry x + uptoBulkEntries r
def uptoBulkEntry {H : Type} : Lit × DataW H → Nat
  | (.string bytes, d) => bytes.length + uptoBulk d + 1
  | (_, d) => uptoBulk d + 1
 end
def uptoSmall : (H : Type) → List (DataW H) → Bool := fun _ ds => decide (uptoBulkAll ds ≤ 1048576)
def OpenSpec.upto (s : _root_.Go.ChangeSpec) : _root_.Go.OpenSpec := { _root_.Go.OpenSpec.ofChange s with cond := some uptoSmall }

/-- 'boscagelaw34.GroundNone', WHERE WHAT IT READS IS OF BULK AT MOST 1048576: true; the input reads as it did. -/
def groundNoneUptoRow : OpenClaim := { program := "ytgpegohoninbfaagreat", sum := "870f543bbfc4a21eeb0307044b321d2d8a6870a3866e770e527ecb9ecefd2819", func := "boscage/boscagelaw34.GroundNone", spec := "groundNone", inPlace := ["slices.overlaps[boscage/api.Pair]"], unfollowed := true, recurses := true, apart := false, narrowed := true }
def GroundNoneUptoSaid : Prop := groundNoneUptoRow.holds Tryz.pinned (OpenSpec.upto groundNoneSpec)

/-- 'boscagelaw34.GroundNew', WHERE WHAT IT READS IS OF BULK AT MOST 1048576: true; the input reads as it did. -/
def groundNewUptoRow : OpenClaim := { program := "ytgpegohoninbfaagreat", sum := "870f543bbfc4a21eeb0307044b321d2d8a6870a3866e770e527ecb9ecefd2819", func := "boscage/boscagelaw34.GroundNew", spec := "groundNew", inPlace := ["slices.overlaps[boscage/api.Pair]"], unfollowed := true, recurses := true, apart := false, narrowed := true }
def GroundNewUptoSaid : Prop := groundNewUptoRow.holds Tryz.pinned (OpenSpec.upto groundNewSpec)

/-- 'boscagelaw34.GroundReach', WHERE WHAT IT READS IS OF BULK AT MOST 1048576: true; the input reads as it did. -/
def groundReachUptoRow : OpenClaim := { program := "ytgpegohoninbfaagreat", sum := "870f543bbfc4a21eeb0307044b321d2d8a6870a3866e770e527ecb9ecefd2819", func := "boscage/boscagelaw34.GroundReach", spec := "groundReach", inPlace := ["slices.overlaps[boscage/api.Pair]"], unfollowed := true, recurses := true, apart := false, narrowed := true }
def GroundReachUptoSaid : Prop := groundReachUptoRow.holds Tryz.pinned (OpenSpec.upto groundReachSpec)

end Rows
end Go.Proofs.YtgpegohoninbfaaGreat
