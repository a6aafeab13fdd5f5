/- The mill, part Bf: a law that is known whole. -/
import Derived.Test.YtgpegohoninbfaaGreatEvBe
namespace Go.Ev
set_option linter.unusedVariables false
set_option linter.unusedSimpArgs false
open Go.RowKit

def isTrue (v : AV) (_ : AHeap) : Bool :=
  match v with
  | .g (.c (.bool b)) => b
  | _ => false
abbrev noA : Nat → Nat → Prop := fun _ _ => False
theorem inv_nil (w : World) : Inv noA [] [] w := ⟨rfl, fun id x b h => by simp at h, fun i j x y b h => by simp at h, fun _ _ h => h.elim⟩

/-- What a law's call leaves, where nothing was owned. -/
theorem law_of_call {T : Tab} {f : Nat} {xs : List AV} (h : CallC T f xs [] (fun v H' _ => isTrue v H' = true)) (w : World) (vs : List Value) (hl : Laid T (ctx noA [] [] w)) (hx : RVs (ctx noA [] [] w) xs vs) :
    Calls T.P f vs.toArray w fun e w' => e = .returned (.bool true) ∧ Below w.heap.size w w' := by
  refine (h.out noA [] w vs (inv_nil w) hl hx).mono ?_
  rintro e w' ⟨v, x, H', X, r', rfl, hk, hs, hv⟩
  refine ⟨?_, hs.le.os, hs.le.tape, hs.le.output, hs.le.heap, fun k hk' => hs.le.frame k hk' (by rintro ⟨id, y, h1, _⟩; simp at h1)⟩
  unfold isTrue at hk
  split at hk
  · subst hk
    simp only [RV, RG] at hv
    rw [hv]
  · cases hk
theorem walk_of {T : Tab} (hT : T.OK) {pt : PTab} (hpt : PTab.OK T pt) (n : Nat) {f : Nat} {xs : List AV} (h : callFB T (runB T pt n) f xs [] isTrue = true) (w : World) (vs : List Value) (hl : Laid T (ctx noA [] [] w)) (hx : RVs (ctx noA [] [] w) xs vs) :
    Calls T.P f vs.toArray w fun e w' => e = .returned (.bool true) ∧ Below w.heap.size w w' :=
  law_of_call (callB_ok hT hpt n f xs [] isTrue h) w vs hl hx
end Go.Ev
