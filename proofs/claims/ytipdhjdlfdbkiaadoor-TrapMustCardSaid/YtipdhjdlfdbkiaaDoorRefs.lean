
/- Contracts of package ref (layer 8) and of its reference: what Make, Slot and Inc answer. -/
import Derived.Test.YtipdhjdlfdbkiaaDoorProg
import Derived.Test.YtipdhjdlfdbkiaaDoorHeap
import Derived.WalkKit
import Derived.KernelRfl
import Derived.Below
import Derived.Outline
import Derived.BigQuiet
import Derived.Deep.QuietTactic
import Derived.Lib.Hide
namespace Go.Proofs.YtipdhjdlfdbkiaaDoor.Refs
open Go.RowKit Go.Proofs

/-- A reference that is Old. -/
def validB (r : Int) : Bool := decide (0 < r ∧ 1 ≤ r % 1024 ∧ r % 1024 ≤ 1000 ∧ 1 ≤ r / 1024 ∧ r / 1024 ≤ 4503599627370496)
def slotI (r : Int) : Int := if validB r then r % 1024 else 0
def incI (r : Int) : Int := if validB r then r / 1024 else 0

theorem slotI_nonneg (r : Int) : 0 ≤ slotI r ∧ slotI r ≤ 1000 := by
  unfold slotI
  split
  · rename_i h; have := of_decide_eq_true h; omega
  · omega
theorem incI_nonneg (r : Int) : 0 ≤ incI r ∧ incI r ≤ 4503599627370496 := by
  unfold incI
  split
  · rename_i h; have := of_decide_eq_true h; omega
  · omega
theorem valid_made (i : Nat) (c : Nat) (hi : i < 1000) (hc : 1 ≤ c) (hc2 : c ≤ 4503599627370496) : validB (c * 1024 + (i + 1)) = true := by
  unfold validB; apply decide_eq_true; omega
theorem slot_made (i : Nat) (c : Nat) (hi : i < 1000) (hc : 1 ≤ c) (hc2 : c ≤ 4503599627370496) : slotI (c * 1024 + (i + 1)) = i + 1 := by
  unfold slotI; rw [valid_made i c hi hc hc2, if_pos rfl]; omega
theorem inc_made (i : Nat) (c : Nat) (hi : i < 1000) (hc : 1 ≤ c) (hc2 : c ≤ 4503599627370496) : incI (c * 1024 + (i + 1)) = c := by
  unfold incI; rw [valid_made i c hi hc hc2, if_pos rfl]; omega

/-- What Make answers. -/
def makeR (s c : Int) : Int × Int := if s < 1 ∨ 1000 < s then (0, 2) else if c < 1 ∨ 4503599627370496 < c then (0, 8) else (c * 1024 + s, 0)
set_option maxHeartbeats 1000000 in
theorem make_calls (s c : Int) (w : World) (hs : -1024 ≤ s ∧ s ≤ 1024) (hc : -9223372036854775808 ≤ c ∧ c ≤ 9223372036854775807) :
    Calls Tryd.prog 28 #[.int .i64 s, .int .i64 c] w fun e w' => e = .returned (.tuple #[.int .i64 (makeR s c).1, .int .i64 (makeR s c).2]) ∧ w' = w := by
  by_cases h1 : s < 1
  · have hm : makeR s c = (0, 2) := by unfold makeR; rw [if_pos (by omega)]
    have HM := Lib.hid hm
    clear hm
    go_enter Tryd.func28, Tryd.ntmps28
    go_wp2
    go_ret2
    rw [HM.out]; exact ⟨rfl, rfl⟩
  by_cases h2 : 1000 < s
  · have hm : makeR s c = (0, 2) := by unfold makeR; rw [if_pos (by omega)]
    have HM := Lib.hid hm
    clear hm
    go_enter Tryd.func28, Tryd.ntmps28
    go_wp2
    go_ret2
    rw [HM.out]; exact ⟨rfl, rfl⟩
  by_cases h3 : c < 1
  · have hm : makeR s c = (0, 8) := by unfold makeR; rw [if_neg (by omega), if_pos (by omega)]
    have HM := Lib.hid hm
    clear hm
    go_enter Tryd.func28, Tryd.ntmps28
    go_wp2
    go_ret2
    rw [HM.out]; exact ⟨rfl, rfl⟩
  by_cases h4 : 4503599627370496 < c
  · have hm : makeR s c = (0, 8) := by unfold makeR; rw [if_neg (by omega), if_pos (by omega)]
    have HM := Lib.hid hm
    clear hm
    go_enter Tryd.func28, Tryd.ntmps28
    go_wp2
    go_ret2
    rw [HM.out]; exact ⟨rfl, rfl⟩
  have hm : makeR s c = (c * 1024 + s, 0) := by unfold makeR; rw [if_neg (by omega), if_neg (by omega)]
  have HM := Lib.hid hm
  clear hm
  go_enter Tryd.func28, Tryd.ntmps28
  go_wp2
  go_ret2
  rw [HM.out]; exact ⟨rfl, rfl⟩
def kindI (r : Int) : Int := if r = 0 then 0 else if r < 0 then 2 else if validB r then 1 else 3
set_option maxHeartbeats 2000000 in
theorem kind_calls (r : Int) (w : World) (hw : -9223372036854775808 ≤ r ∧ r ≤ 9223372036854775807) :
    Calls Tryd.prog 42 #[.int .i64 r] w fun e w' => e = .returned (.int .i64 (kindI r)) ∧ w' = w := by
  by_cases h0 : r = 0
  · subst h0
    have hm : kindI 0 = 0 := by decide +kernel
    have HM := Lib.hid hm
    clear hm
    go_enter Tryd.func42, Tryd.ntmps42
    go_wp2
    go_ret
    rw [HM.out]; exact ⟨rfl, rfl⟩
  have h0b : (r == 0) = false := beq_eq_false_iff_ne.2 h0
  by_cases h1 : r < 0
  · have hv : validB r = false := by unfold validB; apply decide_eq_false; omega
    have hm : kindI r = 2 := by unfold kindI; first | (rw [hv]; rfl) | (rw [if_neg (by omega), if_pos (by omega)])
    have HM := Lib.hid hm
    clear hm
    go_enter Tryd.func42, Tryd.ntmps42
    go_wp2
    go_ret
    rw [HM.out]; exact ⟨rfl, rfl⟩
  by_cases h2 : r % 1024 < 1
  · have hv : validB r = false := by unfold validB; apply decide_eq_false; omega
    have hm : kindI r = 3 := by unfold kindI; first | (rw [hv]; rfl) | (rw [if_neg (by omega), if_neg (by omega), hv]; rfl)
    have HM := Lib.hid hm
    clear hm
    go_enter Tryd.func42, Tryd.ntmps42
    go_wp2
    go_ret
    rw [HM.out]; exact ⟨rfl, rfl⟩
  by_cases h3 : 1000 < r % 1024
  · have hv : validB r = false := by unfold validB; apply decide_eq_false; omega
    have hm : kindI r = 3 := by unfold kindI; first | (rw [hv]; rfl) | (rw [if_neg (by omega), if_neg (by omega), hv]; rfl)
    have HM := Lib.hid hm
    clear hm
    go_enter Tryd.func42, Tryd.ntmps42
    go_wp2
    go_ret
    rw [HM.out]; exact ⟨rfl, rfl⟩
  by_cases h4 : r / 1024 < 1
  · have hv : validB r = false := by unfold validB; apply decide_eq_false; omega
    have hm : kindI r = 3 := by unfold kindI; first | (rw [hv]; rfl) | (rw [if_neg (by omega), if_neg (by omega), hv]; rfl)
    have HM := Lib.hid hm
    clear hm
    go_enter Tryd.func42, Tryd.ntmps42
    go_wp2
    go_ret
    rw [HM.out]; exact ⟨rfl, rfl⟩
  by_cases h5 : 4503599627370496 < r / 1024
  · have hv : validB r = false := by unfold validB; apply decide_eq_false; omega
    have hm : kindI r = 3 := by unfold kindI; first | (rw [hv]; rfl) | (rw [if_neg (by omega), if_neg (by omega), hv]; rfl)
    have HM := Lib.hid hm
    clear hm
    go_enter Tryd.func42, Tryd.ntmps42
    go_wp2
    go_ret
    rw [HM.out]; exact ⟨rfl, rfl⟩
  have hv : validB r = true := by unfold validB; apply decide_eq_true; omega
  have hm : kindI r = 1 := by unfold kindI; first | (rw [hv]; rfl) | (rw [if_neg (by omega), if_neg (by omega), hv]; rfl)
  have HM := Lib.hid hm
  clear hm
  go_enter Tryd.func42, Tryd.ntmps42
  go_wp2
  go_ret
  rw [HM.out]; exact ⟨rfl, rfl⟩
set_option maxHeartbeats 2000000 in
theorem slot_calls (r : Int) (w : World) (hw : -9223372036854775808 ≤ r ∧ r ≤ 9223372036854775807) :
    Calls Tryd.prog 34 #[.int .i64 r] w fun e w' => e = .returned (.int .i64 (slotI r)) ∧ w' = w := by
  by_cases h0 : r = 0
  · subst h0
    have hm : slotI 0 = 0 := by decide +kernel
    have HM := Lib.hid hm
    clear hm
    go_enter Tryd.func34, Tryd.ntmps34
    go_wp2
    go_ret
    rw [HM.out]; exact ⟨rfl, rfl⟩
  have h0b : (r == 0) = false := beq_eq_false_iff_ne.2 h0
  by_cases h1 : r < 0
  · have hv : validB r = false := by unfold validB; apply decide_eq_false; omega
    have hm : slotI r = 0 := by unfold slotI; first | (rw [hv]; rfl) | (rw [if_neg (by omega), if_pos (by omega)])
    have HM := Lib.hid hm
    clear hm
    go_enter Tryd.func34, Tryd.ntmps34
    go_wp2
    go_ret
    rw [HM.out]; exact ⟨rfl, rfl⟩
  by_cases h2 : r % 1024 < 1
  · have hv : validB r = false := by unfold validB; apply decide_eq_false; omega
    have hm : slotI r = 0 := by unfold slotI; first | (rw [hv]; rfl) | (rw [if_neg (by omega), if_neg (by omega), hv]; rfl)
    have HM := Lib.hid hm
    clear hm
    go_enter Tryd.func34, Tryd.ntmps34
    go_wp2
    go_ret
    rw [HM.out]; exact ⟨rfl, rfl⟩
  by_cases h3 : 1000 < r % 1024
  · have hv : validB r = false := by unfold validB; apply decide_eq_false; omega
    have hm : slotI r = 0 := by unfold slotI; first | (rw [hv]; rfl) | (rw [if_neg (by omega), if_neg (by omega), hv]; rfl)
    have HM := Lib.hid hm
    clear hm
    go_enter Tryd.func34, Tryd.ntmps34
    go_wp2
    go_ret
    rw [HM.out]; exact ⟨rfl, rfl⟩
  by_cases h4 : r / 1024 < 1
  · have hv : validB r = false := by unfold validB; apply decide_eq_false; omega
    have hm : slotI r = 0 := by unfold slotI; first | (rw [hv]; rfl) | (rw [if_neg (by omega), if_neg (by omega), hv]; rfl)
    have HM := Lib.hid hm
    clear hm
    go_enter Tryd.func34, Tryd.ntmps34
    go_wp2
    go_ret
    rw [HM.out]; exact ⟨rfl, rfl⟩
  by_cases h5 : 4503599627370496 < r / 1024
  · have hv : validB r = false := by unfold validB; apply decide_eq_false; omega
    have hm : slotI r = 0 := by unfold slotI; first | (rw [hv]; rfl) | (rw [if_neg (by omega), if_neg (by omega), hv]; rfl)
    have HM := Lib.hid hm
    clear hm
    go_enter Tryd.func34, Tryd.ntmps34
    go_wp2
    go_ret
    rw [HM.out]; exact ⟨rfl, rfl⟩
  have hv : validB r = true := by unfold validB; apply decide_eq_true; omega
  have hm : slotI r = r % 1024 := by unfold slotI; first | (rw [hv]; rfl) | (rw [if_neg (by omega), if_neg (by omega), hv]; rfl)
  have HM := Lib.hid hm
  clear hm
  go_enter Tryd.func34, Tryd.ntmps34
  go_wp2
  go_ret
  rw [HM.out]; exact ⟨rfl, rfl⟩
set_option maxHeartbeats 2000000 in
theorem inc_calls (r : Int) (w : World) (hw : -9223372036854775808 ≤ r ∧ r ≤ 9223372036854775807) :
    Calls Tryd.prog 46 #[.int .i64 r] w fun e w' => e = .returned (.int .i64 (incI r)) ∧ w' = w := by
  by_cases h0 : r = 0
  · subst h0
    have hm : incI 0 = 0 := by decide +kernel
    have HM := Lib.hid hm
    clear hm
    go_enter Tryd.func46, Tryd.ntmps46
    go_wp2
    go_ret
    rw [HM.out]; exact ⟨rfl, rfl⟩
  have h0b : (r == 0) = false := beq_eq_false_iff_ne.2 h0
  by_cases h1 : r < 0
  · have hv : validB r = false := by unfold validB; apply decide_eq_false; omega
    have hm : incI r = 0 := by unfold incI; first | (rw [hv]; rfl) | (rw [if_neg (by omega), if_pos (by omega)])
    have HM := Lib.hid hm
    clear hm
    go_enter Tryd.func46, Tryd.ntmps46
    go_wp2
    go_ret
    rw [HM.out]; exact ⟨rfl, rfl⟩
  by_cases h2 : r % 1024 < 1
  · have hv : validB r = false := by unfold validB; apply decide_eq_false; omega
    have hm : incI r = 0 := by unfold incI; first | (rw [hv]; rfl) | (rw [if_neg (by omega), if_neg (by omega), hv]; rfl)
    have HM := Lib.hid hm
    clear hm
    go_enter Tryd.func46, Tryd.ntmps46
    go_wp2
    go_ret
    rw [HM.out]; exact ⟨rfl, rfl⟩
  by_cases h3 : 1000 < r % 1024
  · have hv : validB r = false := by unfold validB; apply decide_eq_false; omega
    have hm : incI r = 0 := by unfold incI; first | (rw [hv]; rfl) | (rw [if_neg (by omega), if_neg (by omega), hv]; rfl)
    have HM := Lib.hid hm
    clear hm
    go_enter Tryd.func46, Tryd.ntmps46
    go_wp2
    go_ret
    rw [HM.out]; exact ⟨rfl, rfl⟩
  by_cases h4 : r / 1024 < 1
  · have hv : validB r = false := by unfold validB; apply decide_eq_false; omega
    have hm : incI r = 0 := by unfold incI; first | (rw [hv]; rfl) | (rw [if_neg (by omega), if_neg (by omega), hv]; rfl)
    have HM := Lib.hid hm
    clear hm
    go_enter Tryd.func46, Tryd.ntmps46
    go_wp2
    go_ret
    rw [HM.out]; exact ⟨rfl, rfl⟩
  by_cases h5 : 4503599627370496 < r / 1024
  · have hv : validB r = false := by unfold validB; apply decide_eq_false; omega
    have hm : incI r = 0 := by unfold incI; first | (rw [hv]; rfl) | (rw [if_neg (by omega), if_neg (by omega), hv]; rfl)
    have HM := Lib.hid hm
    clear hm
    go_enter Tryd.func46, Tryd.ntmps46
    go_wp2
    go_ret
    rw [HM.out]; exact ⟨rfl, rfl⟩
  have hv : validB r = true := by unfold validB; apply decide_eq_true; omega
  have hm : incI r = r / 1024 := by unfold incI; first | (rw [hv]; rfl) | (rw [if_neg (by omega), if_neg (by omega), hv]; rfl)
  have HM := Lib.hid hm
  clear hm
  go_enter Tryd.func46, Tryd.ntmps46
  go_wp2
  go_ret
  rw [HM.out]; exact ⟨rfl, rfl⟩
set_option maxHeartbeats 1000000 in
theorem rmake_calls (s c : Int) (w : World) (hs : -1024 ≤ s ∧ s ≤ 1024) (hc : -9223372036854775808 ≤ c ∧ c ≤ 9223372036854775807) :
    Calls Tryd.prog 32 #[.int .i64 s, .int .i64 c] w fun e w' => e = .returned (.tuple #[.int .i64 (makeR s c).1, .int .i64 (makeR s c).2]) ∧ w' = w := by
  by_cases h1 : s < 1
  · have hm : makeR s c = (0, 2) := by unfold makeR; rw [if_pos (by omega)]
    have HM := Lib.hid hm
    clear hm
    go_enter Tryd.func32, Tryd.ntmps32
    go_wp2
    go_ret2
    rw [HM.out]; exact ⟨rfl, rfl⟩
  by_cases h2 : 1000 < s
  · have hm : makeR s c = (0, 2) := by unfold makeR; rw [if_pos (by omega)]
    have HM := Lib.hid hm
    clear hm
    go_enter Tryd.func32, Tryd.ntmps32
    go_wp2
    go_ret2
    rw [HM.out]; exact ⟨rfl, rfl⟩
  by_cases h3 : c < 1
  · have hm : makeR s c = (0, 8) := by unfold makeR; rw [if_neg (by omega), if_pos (by omega)]
    have HM := Lib.hid hm
    clear hm
    go_enter Tryd.func32, Tryd.ntmps32
    go_wp2
    go_ret2
    rw [HM.out]; exact ⟨rfl, rfl⟩
  by_cases h4 : 4503599627370496 < c
  · have hm : makeR s c = (0, 8) := by unfold makeR; rw [if_neg (by omega), if_pos (by omega)]
    have HM := Lib.hid hm
    clear hm
    go_enter Tryd.func32, Tryd.ntmps32
    go_wp2
    go_ret2
    rw [HM.out]; exact ⟨rfl, rfl⟩
  have hm : makeR s c = (c * 1024 + s, 0) := by unfold makeR; rw [if_neg (by omega), if_neg (by omega)]
  have HM := Lib.hid hm
  clear hm
  go_enter Tryd.func32, Tryd.ntmps32
  go_wp2
  go_ret2
  rw [HM.out, Int.mul_comm c 1024]; exact ⟨rfl, rfl⟩
set_option maxHeartbeats 1000000 in
theorem parts_ok (r : Int) (w : World) (hw : r ≤ 9223372036854775807) (hv : validB r = true) :
    Calls Tryd.prog 36 #[.int .i64 r] w fun e w' => e = .returned (.tuple #[.int .i64 (r % 1024), .int .i64 (r / 1024), .bool true]) ∧ w' = w := by
  have hv' := of_decide_eq_true hv
  have hm : (makeR (r % 1024) (r / 1024)).2 = 0 := by unfold makeR; rw [if_neg (by omega), if_neg (by omega)]
  have hp : 0 < r := hv'.1
  have h0 : 0 ≤ r := by omega
  have hb : ((makeR (r % 1024) (r / 1024)).2 == 0) = true := beq_iff_eq.2 hm
  clear hm hv'
  go_enter Tryd.func36, Tryd.ntmps36
  go_wp2_with (go_at_call 32; refine (rmake_calls _ _ _ (by omega) (by omega)).mono ?_; rintro e w' ⟨rfl, rfl⟩)
  go_ret3
  exact ⟨rfl, rfl⟩
set_option maxHeartbeats 1000000 in
theorem parts_neg (r : Int) (w : World) (hw : -9223372036854775808 ≤ r) (hn : r ≤ 0) :
    Calls Tryd.prog 36 #[.int .i64 r] w fun e w' => (∃ s c : Int, e = .returned (.tuple #[.int .i64 s, .int .i64 c, .bool false])) ∧ w' = w := by
  have h1 : -1024 ≤ Int.tmod r 1024 ∧ Int.tmod r 1024 ≤ 1024 := by
    have a := Int.tmod_lt_of_pos r (show (0 : Int) < 1024 by omega)
    have b := Int.lt_tmod_of_pos r (show (0 : Int) < 1024 by omega)
    omega
  have h2 : -9223372036854775808 ≤ Int.tdiv r 1024 ∧ Int.tdiv r 1024 ≤ 9223372036854775807 := by
    have a : Int.tdiv r 1024 = -((-r) / 1024) := by
      rw [← Int.tdiv_eq_ediv_of_nonneg (show 0 ≤ -r by omega), Int.neg_tdiv, Int.neg_neg]
    omega
  go_enter Tryd.func36, Tryd.ntmps36
  go_wp2_with (go_at_call 32; refine (rmake_calls _ _ _ (by omega) (by omega)).mono ?_; rintro e w' ⟨rfl, rfl⟩)
  go_ret3
  exact ⟨⟨_, _, rfl⟩, rfl⟩
set_option maxHeartbeats 1000000 in
theorem parts_bad (r : Int) (w : World) (hw : r ≤ 9223372036854775807) (hp : 0 < r) (hv : validB r = false) :
    Calls Tryd.prog 36 #[.int .i64 r] w fun e w' => (∃ s c : Int, e = .returned (.tuple #[.int .i64 s, .int .i64 c, .bool false])) ∧ w' = w := by
  have hv' := of_decide_eq_false hv
  have hm : (makeR (r % 1024) (r / 1024)).2 ≠ 0 := by
    unfold makeR
    by_cases a : r % 1024 < 1 ∨ 1000 < r % 1024
    · rw [if_pos a]; decide
    · rw [if_neg a, if_pos (by omega)]; decide
  have h0 : 0 ≤ r := by omega
  have hb : ((makeR (r % 1024) (r / 1024)).2 == 0) = false := beq_eq_false_iff_ne.2 hm
  clear hm hv'
  go_enter Tryd.func36, Tryd.ntmps36
  go_wp2_with (go_at_call 32; refine (rmake_calls _ _ _ (by omega) (by omega)).mono ?_; rintro e w' ⟨rfl, rfl⟩)
  go_ret3
  exact ⟨⟨_, _, rfl⟩, rfl⟩
set_option maxHeartbeats 1000000 in
theorem rslot_calls (r : Int) (w : World) (hw : -9223372036854775808 ≤ r ∧ r ≤ 9223372036854775807) :
    Calls Tryd.prog 19 #[.int .i64 r] w fun e w' => e = .returned (.int .i64 (slotI r)) ∧ w' = w := by
  by_cases h0 : r ≤ 0
  · have hm : slotI r = 0 := by unfold slotI; rw [if_neg]; intro h; have := (of_decide_eq_true h).1; omega
    have HM := Lib.hid hm
    clear hm
    go_enter Tryd.func19, Tryd.ntmps19
    go_wp2_with (go_at_call 36; refine (parts_neg r _ hw.1 h0).mono ?_; rintro e w' ⟨⟨s, c, rfl⟩, rfl⟩)
    go_ret
    rw [HM.out]; exact ⟨rfl, rfl⟩
  have hp : 0 < r := by omega
  cases hv : validB r with
  | false =>
    have hm : slotI r = 0 := by unfold slotI; rw [hv]; rfl
    have HM := Lib.hid hm
    have HV := Lib.hid hv
    clear hm hv
    go_enter Tryd.func19, Tryd.ntmps19
    go_wp2_with (go_at_call 36; refine (parts_bad r _ hw.2 hp HV.out).mono ?_; rintro e w' ⟨⟨s, c, rfl⟩, rfl⟩)
    go_ret
    rw [HM.out]; exact ⟨rfl, rfl⟩
  | true =>
    have hm : slotI r = r % 1024 := by unfold slotI; rw [hv]; rfl
    have HM := Lib.hid hm
    have HV := Lib.hid hv
    clear hm hv
    go_enter Tryd.func19, Tryd.ntmps19
    go_wp2_with (go_at_call 36; refine (parts_ok r _ hw.2 HV.out).mono ?_; rintro e w' ⟨rfl, rfl⟩)
    go_ret
    rw [HM.out]; exact ⟨rfl, rfl⟩
set_option maxHeartbeats 1000000 in
theorem rinc_calls (r : Int) (w : World) (hw : -9223372036854775808 ≤ r ∧ r ≤ 9223372036854775807) :
    Calls Tryd.prog 20 #[.int .i64 r] w fun e w' => e = .returned (.int .i64 (incI r)) ∧ w' = w := by
  by_cases h0 : r ≤ 0
  · have hm : incI r = 0 := by unfold incI; rw [if_neg]; intro h; have := (of_decide_eq_true h).1; omega
    have HM := Lib.hid hm
    clear hm
    go_enter Tryd.func20, Tryd.ntmps20
    go_wp2_with (go_at_call 36; refine (parts_neg r _ hw.1 h0).mono ?_; rintro e w' ⟨⟨s, c, rfl⟩, rfl⟩)
    go_ret
    rw [HM.out]; exact ⟨rfl, rfl⟩
  have hp : 0 < r := by omega
  cases hv : validB r with
  | false =>
    have hm : incI r = 0 := by unfold incI; rw [hv]; rfl
    have HM := Lib.hid hm
    have HV := Lib.hid hv
    clear hm hv
    go_enter Tryd.func20, Tryd.ntmps20
    go_wp2_with (go_at_call 36; refine (parts_bad r _ hw.2 hp HV.out).mono ?_; rintro e w' ⟨⟨s, c, rfl⟩, rfl⟩)
    go_ret
    rw [HM.out]; exact ⟨rfl, rfl⟩
  | true =>
    have hm : incI r = r / 1024 := by unfold incI; rw [hv]; rfl
    have HM := Lib.hid hm
    have HV := Lib.hid hv
    clear hm hv
    go_enter Tryd.func20, Tryd.ntmps20
    go_wp2_with (go_at_call 36; refine (parts_ok r _ hw.2 HV.out).mono ?_; rintro e w' ⟨rfl, rfl⟩)
    go_ret
    rw [HM.out]; exact ⟨rfl, rfl⟩
end Go.Proofs.YtipdhjdlfdbkiaaDoor.Refs
