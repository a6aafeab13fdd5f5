
/- The reference's arena: At of a slot that is free. -/
import Derived.Test.YtipdhjdlfdbkiaaDoorRefArena
namespace Go.Proofs.YtipdhjdlfdbkiaaDoor.RefArena
set_option linter.unusedSimpArgs false
set_option linter.unusedVariables false
open Go.RowKit Go.Proofs Go.Proofs.YtipdhjdlfdbkiaaDoor.Heap Go.Proofs.YtipdhjdlfdbkiaaDoor.Refs Go.Proofs.YtipdhjdlfdbkiaaDoor.ArenaM Go.Proofs.YtipdhjdlfdbkiaaDoor.ArenaInt
section
variable {w : World} {q bv bi bs n b : Nat} {x v0 : Int} {fv : Value} {r : Int} (hw : -9223372036854775808 ≤ r ∧ r ≤ 9223372036854775807)
include hw
set_option maxHeartbeats 1000000 in
theorem rat_free {s : Nat} (hs : slotI r = (s : Int) + 1) (hsn : s < n) (hs2 : s < 1000) (c2 : w.cell? ⟨q, 2, none⟩ = some (.slice (some ⟨bs, 0, none⟩) n n)) (s2 : w.cell? ⟨bs, s, none⟩ = some (.bool false)) : AtIs w q r (-1) := by
  have HS := Lib.hid hs
  clear hs
  have d1 : decide ((s : Int) < 0) = false := by simp
  have d2 : decide ((n : Int) ≤ (s : Int)) = false := by simp; omega
  have d2n : decide (n ≤ s) = false := by simp; omega
  have d3 : (s : Int) < (n : Int) := by omega
  unfold AtIs
  go_enter Tryd.func5, Tryd.ntmps5
  go_wp2_with (go_at_call 19; refine (rslot_at HS.out hw).mono ?_; rintro e w' ⟨rfl, rfl⟩)
  go_quiet (fail)
  go_wp2
  go_ret
  exact ⟨rfl, _, rfl⟩
end
end Go.Proofs.YtipdhjdlfdbkiaaDoor.RefArena
