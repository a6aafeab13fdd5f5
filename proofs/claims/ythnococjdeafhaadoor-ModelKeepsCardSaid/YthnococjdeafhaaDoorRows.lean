/-
  NARROWER THAN 'FOR EVERY INPUT', by the rows' own cells (each row's printed sentence says how): ModelAnswers: laid · ModelSteps: laid · ModelSame: laid · ModelKeeps: laid.
  DERIVED. THE GIVEN ROWS OF THIS SEAT. 4 by the template 'for every input the law returns true; each argument reads behind the call as it read before'; 0 by the template 'total and deterministic' (their statements: YthnococjdeafhaaDoorTotals.lean).
  GIVEN WITH THE SEED: the statements are not yours to turn. If you find one false, say at which input.
  Laid BY PROGRAM, IN A SANDBOX (cutbox-rows.mjs): the forced cells as the released guide's own fill.sh prints them over the translation 90c7e9d2c9c44cab… (all of the seat's roots in one cut). By AI agents, Wed Nov 11 2026. No macro, syntax, notation, axiom, sorry.
-/
import Derived.Test.YthnococjdeafhaaDoorChecked
import GoSem.Claim
import GoSem.ClaimJoined
import GoSem.ClaimMapViews
import Derived.JoinedTies
import Derived.KernelRfl
namespace Go.Proofs.YthnococjdeafhaaDoor
/- THE CELL 'sum', in the pinned program and in every row, IS THE sha256 OF THE DUMP (.gsa) THAT YthnococjdeafhaaDoorProg.lean LOADS. Nothing in Lean hashes anything: it is a label: what it is worth is what the hold of that sum in a sandbox is worth. -/
noncomputable def Tryd.pinned : Pinned := { name := "ythnococjdeafhaadoor", sum := "90c7e9d2c9c44cab21669f92f2ef839c20b493fa2a61283dc0bb665d8743cbee", checked := Tryd.checked }
namespace Rows
def none {H : Type} : Left H := { results := [], args := [] }

/- WHAT THE LISTED PACKAGE-LEVEL VARIABLES READ AS WHEN THE CALL BEGINS. Each datum BY PROGRAM (the guide's laid-datum.mjs) off the statement by which the dump's own 'gosem.cut.vars' lays the variable. In a bare row this is a premise. The card (YthnococjdeafhaaDoorCards.lean) ties it to the program's text. -/
def laid_boscage_call_used {H : Type} : DataW H := .agg [.agg [.lit (.bool false), .lit (.bool false), .lit (.bool false), .lit (.bool false)], .agg [.lit (.bool true), .lit (.bool false), .lit (.bool false), .lit (.bool false)], .agg [.lit (.bool true), .lit (.bool true), .lit (.bool false), .lit (.bool false)], .agg [.lit (.bool true), .lit (.bool true), .lit (.bool false), .lit (.bool false)], .agg [.lit (.bool true), .lit (.bool true), .lit (.bool true), .lit (.bool false)], .agg [.lit (.bool true), .lit (.bool false), .lit (.bool false), .lit (.bool false)], .agg [.lit (.bool true), .lit (.bool false), .lit (.bool false), .lit (.bool false)], .agg [.lit (.bool false), .lit (.bool false), .lit (.bool false), .lit (.bool false)], .agg [.lit (.bool false), .lit (.bool false), .lit (.bool false), .lit (.bool true)], .agg [.lit (.bool true), .lit (.bool false), .lit (.bool false), .lit (.bool true)], .agg [.lit (.bool false), .lit (.bool false), .lit (.bool false), .lit (.bool true)], .agg [.lit (.bool true), .lit (.bool false), .lit (.bool false), .lit (.bool true)], .agg [.lit (.bool false), .lit (.bool false), .lit (.bool false), .lit (.bool true)], .agg [.lit (.bool false), .lit (.bool false), .lit (.bool false), .lit (.bool false)]]

/-- 'boscagelaw31.ModelAnswers': WHATEVER THE INPUT: true; the input reads as it did. -/
def modelAnswersSpec : ChangeSpec := { name := "modelAnswers", fn := fun _ => fun
  | [d1, d2, d3] => { results := [.lit (.bool true)], args := [d1, d2, d3] }
  | _ => none }
def modelAnswersRow : OpenClaim := { program := "ythnococjdeafhaadoor", sum := "90c7e9d2c9c44cab21669f92f2ef839c20b493fa2a61283dc0bb665d8743cbee", func := "boscage/boscagelaw31.ModelAnswers", spec := "modelAnswers", inPlace := ["slices.overlaps[boscage/api.Pair]"], unfollowed := true, recurses := true, named := ["boscage/call.used"], apart := false, laid := [("boscage/call.used", laid_boscage_call_used)] }
def ModelAnswersSaid : Prop := modelAnswersRow.holds Tryd.pinned (OpenSpec.ofChange modelAnswersSpec)

/-- ITS FALSE NEIGHBOUR: 'it returns false'. Refute it at one input. -/
def modelAnswersWrong : ChangeSpec := { name := "modelAnswers", fn := fun _ => fun
  | [d1, d2, d3] => { results := [.lit (.bool false)], args := [d1, d2, d3] }
  | _ => none }
def ModelAnswersWrongFalsely : Prop := modelAnswersRow.holds Tryd.pinned (OpenSpec.ofChange modelAnswersWrong)

/-- 'boscagelaw31.ModelSteps': WHATEVER THE INPUT: true; the input reads as it did. -/
def modelStepsSpec : ChangeSpec := { name := "modelSteps", fn := fun _ => fun
  | [d1, d2, d3, d4] => { results := [.lit (.bool true)], args := [d1, d2, d3, d4] }
  | _ => none }
def modelStepsRow : OpenClaim := { program := "ythnococjdeafhaadoor", sum := "90c7e9d2c9c44cab21669f92f2ef839c20b493fa2a61283dc0bb665d8743cbee", func := "boscage/boscagelaw31.ModelSteps", spec := "modelSteps", inPlace := ["slices.overlaps[boscage/api.Pair]"], unfollowed := true, recurses := true, named := ["boscage/call.used"], apart := false, laid := [("boscage/call.used", laid_boscage_call_used)] }
def ModelStepsSaid : Prop := modelStepsRow.holds Tryd.pinned (OpenSpec.ofChange modelStepsSpec)

/-- ITS FALSE NEIGHBOUR: 'it returns false'. Refute it at one input. -/
def modelStepsWrong : ChangeSpec := { name := "modelSteps", fn := fun _ => fun
  | [d1, d2, d3, d4] => { results := [.lit (.bool false)], args := [d1, d2, d3, d4] }
  | _ => none }
def ModelStepsWrongFalsely : Prop := modelStepsRow.holds Tryd.pinned (OpenSpec.ofChange modelStepsWrong)

/-- 'boscagelaw31.ModelSame': WHATEVER THE INPUT: true; the input reads as it did. -/
def modelSameSpec : ChangeSpec := { name := "modelSame", fn := fun _ => fun
  | [d1, d2] => { results := [.lit (.bool true)], args := [d1, d2] }
  | _ => none }
def modelSameRow : OpenClaim := { program := "ythnococjdeafhaadoor", sum := "90c7e9d2c9c44cab21669f92f2ef839c20b493fa2a61283dc0bb665d8743cbee", func := "boscage/boscagelaw31.ModelSame", spec := "modelSame", inPlace := ["slices.overlaps[boscage/api.Pair]"], unfollowed := true, recurses := true, named := ["boscage/call.used"], apart := false, laid := [("boscage/call.used", laid_boscage_call_used)] }
def ModelSameSaid : Prop := modelSameRow.holds Tryd.pinned (OpenSpec.ofChange modelSameSpec)

/-- ITS FALSE NEIGHBOUR: 'it returns false'. Refute it at one input. -/
def modelSameWrong : ChangeSpec := { name := "modelSame", fn := fun _ => fun
  | [d1, d2] => { results := [.lit (.bool false)], args := [d1, d2] }
  | _ => none }
def ModelSameWrongFalsely : Prop := modelSameRow.holds Tryd.pinned (OpenSpec.ofChange modelSameWrong)

/-- 'boscagelaw31.ModelKeeps': WHATEVER THE INPUT: true; the input reads as it did. -/
def modelKeepsSpec : ChangeSpec := { name := "modelKeeps", fn := fun _ => fun
  | [d1, d2, d3, d4] => { results := [.lit (.bool true)], args := [d1, d2, d3, d4] }
  | _ => none }
def modelKeepsRow : OpenClaim := { program := "ythnococjdeafhaadoor", sum := "90c7e9d2c9c44cab21669f92f2ef839c20b493fa2a61283dc0bb665d8743cbee", func := "boscage/boscagelaw31.ModelKeeps", spec := "modelKeeps", inPlace := ["slices.overlaps[boscage/api.Pair]"], unfollowed := true, recurses := true, named := ["boscage/call.used"], apart := false, laid := [("boscage/call.used", laid_boscage_call_used)] }
def ModelKeepsSaid : Prop := modelKeepsRow.holds Tryd.pinned (OpenSpec.ofChange modelKeepsSpec)

/-- ITS FALSE NEIGHBOUR: 'it returns false'. Refute it at one input. -/
def modelKeepsWrong : ChangeSpec := { name := "modelKeeps", fn := fun _ => fun
  | [d1, d2, d3, d4] => { results := [.lit (.bool false)], args := [d1, d2, d3, d4] }
  | _ => none }
def ModelKeepsWrongFalsely : Prop := modelKeepsRow.holds Tryd.pinned (OpenSpec.ofChange modelKeepsWrong)

/- THE SECOND FORM. 'bulk': how many values and letters a reading holds, each counted each time it is reached (what is shared counts as often as it is met; a slice's spare places count too). A statement '..UptoSaid' is the law's where the arguments, and the package variables that the reading takes, are together of bulk at most 1048576: NARROWER than '..Said'. Prove '..Said' where nothing that the law and all that it calls make is longer than what came in: it says more and counts as full. Else prove '..UptoSaid'. A law counts once. -/
mutual
def uptoBulk {H : Type} : DataW H → Nat
  | .lit (.string bytes) => bytes.length + 1
  | .lit _ => 1
  | .nil => 1
  | .ptr d => uptoBulk d + 1
  | .slice elems spare => uptoBulkAll elems + uptoBulkAll spare + 1
  | .agg parts => uptoBulkAll parts + 1
  | .iface _ d => uptoBulk d + 1
  | .map entries => uptoBulkEntries entries + 1
  | .held _ => 1
def uptoBulkAll {H : Type} : List (DataW H) → Nat
  | [] => 0
  | d :: r => uptoBulk d + uptoBulkAll r
def uptoBulkEntries {H : Type} : List (Lit × DataW H) → Nat
  | [] => 0
  | x :: r => uptoBulkEntry x + uptoBulkEntries r
def uptoBulkEntry {H : Type} : Lit × DataW H → Nat
  | (.string bytes, d) => bytes.length + uptoBulk d + 1
  | (_, d) => uptoBulk d + 1
 end
def uptoSmall : (H : Type) → List (DataW H) → Bool := fun _ ds => decide (uptoBulkAll ds ≤ 1048576)
def OpenSpec.upto (s : _root_.Go.ChangeSpec) : _root_.Go.OpenSpec := { _root_.Go.OpenSpec.ofChange s with cond := some uptoSmall }

/-- 'boscagelaw31.ModelAnswers', WHERE WHAT IT READS IS OF BULK AT MOST 1048576: true; the input reads as it did. -/
def modelAnswersUptoRow : OpenClaim := { program := "ythnococjdeafhaadoor", sum := "90c7e9d2c9c44cab21669f92f2ef839c20b493fa2a61283dc0bb665d8743cbee", func := "boscage/boscagelaw31.ModelAnswers", spec := "modelAnswers", inPlace := ["slices.overlaps[boscage/api.Pair]"], unfollowed := true, recurses := true, named := ["boscage/call.used"], apart := false, laid := [("boscage/call.used", laid_boscage_call_used)], narrowed := true }
def ModelAnswersUptoSaid : Prop := modelAnswersUptoRow.holds Tryd.pinned (OpenSpec.upto modelAnswersSpec)

/-- 'boscagelaw31.ModelSteps', WHERE WHAT IT READS IS OF BULK AT MOST 1048576: true; the input reads as it did. -/
def modelStepsUptoRow : OpenClaim := { program := "ythnococjdeafhaadoor", sum := "90c7e9d2c9c44cab21669f92f2ef839c20b493fa2a61283dc0bb665d8743cbee", func := "boscage/boscagelaw31.ModelSteps", spec := "modelSteps", inPlace := ["slices.overlaps[boscage/api.Pair]"], unfollowed := true, recurses := true, named := ["boscage/call.used"], apart := false, laid := [("boscage/call.used", laid_boscage_call_used)], narrowed := true }
def ModelStepsUptoSaid : Prop := modelStepsUptoRow.holds Tryd.pinned (OpenSpec.upto modelStepsSpec)

/-- 'boscagelaw31.ModelSame', WHERE WHAT IT READS IS OF BULK AT MOST 1048576: true; the input reads as it did. -/
def modelSameUptoRow : OpenClaim := { program := "ythnococjdeafhaadoor", sum := "90c7e9d2c9c44cab21669f92f2ef839c20b493fa2a61283dc0bb665d8743cbee", func := "boscage/boscagelaw31.ModelSame", spec := "modelSame", inPlace := ["slices.overlaps[boscage/api.Pair]"], unfollowed := true, recurses := true, named := ["boscage/call.used"], apart := false, laid := [("boscage/call.used", laid_boscage_call_used)], narrowed := true }
def ModelSameUptoSaid : Prop := modelSameUptoRow.holds Tryd.pinned (OpenSpec.upto modelSameSpec)

/-- 'boscagelaw31.ModelKeeps', WHERE WHAT IT READS IS OF BULK AT MOST 1048576: true; the input reads as it did. -/
def modelKeepsUptoRow : OpenClaim := { program := "ythnococjdeafhaadoor", sum := "90c7e9d2c9c44cab21669f92f2ef839c20b493fa2a61283dc0bb665d8743cbee", func := "boscage/boscagelaw31.ModelKeeps", spec := "modelKeeps", inPlace := ["slices.overlaps[boscage/api.Pair]"], unfollowed := true, recurses := true, named := ["boscage/call.used"], apart := false, laid := [("boscage/call.used", laid_boscage_call_used)], narrowed := true }
def ModelKeepsUptoSaid : Prop := modelKeepsUptoRow.holds Tryd.pinned (OpenSpec.upto modelKeepsSpec)

end Rows
end Go.Proofs.YthnococjdeafhaaDoor
