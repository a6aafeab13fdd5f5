-- printed by a program of the session (wip/hyb/mkprint.py)
import Derived.Test.YthnococjdeafhaaDoorPModelKeepsx0
import Derived.Test.YthnococjdeafhaaDoorPModelKeepsx1
import Derived.Test.YthnococjdeafhaaDoorPModelKeepsx2
import Derived.Test.YthnococjdeafhaaDoorPModelKeepsx9
namespace Go.Proofs.YthnococjdeafhaaDoor.PModelKeeps
open Go.RowKit Go.Proofs.YthnococjdeafhaaDoorW.PrintWords Go.Proofs.YthnococjdeafhaaDoorW.PrintLast Go.Proofs.YthnococjdeafhaaDoorW.PrintMore
attribute [local go_sem] max2_int min2_int max_two min_two max_three min_three max_four min_four   -- for this text's walks alone
set_option linter.unusedVariables false
set_option linter.unusedSimpArgs false

attribute [local go_sem high] eqA34 eqA65
/-! ### boscagelaw31_works: function 18 -/
-- FULL boscage/boscagelaw31.works
-- NEEDS boscage/pair.Get boscage/pair.Put boscage/pair.Make
-- KIND rounds=0 making=1 laid=1 eq=34
def boscagelaw31_works.f : Option Bool := some true

theorem wheap2_0 {w : World} {a b : Obj} : ((w.alloc a).alloc b).heap[w.heap.size]? = some a := by
  rw [Below.heap_alloc _ _ _ (by simp)]; exact alloc_at
theorem wheap2_1 {w : World} {a b : Obj} : ((w.alloc a).alloc b).heap[w.heap.size + 1]? = some b := by
  have := alloc_at (w := w.alloc a) (o := b)
  rwa [show (w.alloc a).heap.size = w.heap.size + 1 by simp] at this
theorem wis_1 (w : World) : Calls Tryd.prog 59 #[.int .i64 1] w fun e w' => e = .returned (.bool true) ∧ w = w' := by
  go_enter Tryd.func59, Tryd.ntmps59
  go_wp2
  go_ret
  exact ⟨rfl, rfl⟩
set_option maxHeartbeats 4000000 in
theorem wplain_1 (w : World) (hL : LaidU w) :
    Calls Tryd.prog 79 #[.agg #[.int .i64 1, .string ⟨#[97]⟩, .string ⟨#[]⟩, .string ⟨#[]⟩, .int .i64 0]] w fun e w' => e = .returned (.agg #[.int .i64 1, .string ⟨#[97]⟩, .string ⟨#[]⟩, .string ⟨#[]⟩, .int .i64 0]) ∧ Below w.heap.size w w' := by
  have c0 : w.cell? ⟨0, 4, none⟩ = some (.bool true) := hL 4 (by decide)
  have c1 : w.cell? ⟨0, 5, none⟩ = some (.bool false) := hL 5 (by decide)
  have c2 : w.cell? ⟨0, 6, none⟩ = some (.bool false) := hL 6 (by decide)
  have c3 : w.cell? ⟨0, 7, none⟩ = some (.bool false) := hL 7 (by decide)
  have hsz : 0 < w.heap.size := zB w _ (hL 0 (by decide))
  have hne : w.heap.size ≠ 0 := by omega
  have hne1 : 0 ≠ w.heap.size := by omega
  clear hL
  have C := zX (fun (W : World) => wis_1 W)
  go_enter Tryd.func79, Tryd.ntmps79
  go_wp2_with (go_at_call 59; refine (C.out _).mono ?_; rintro e w1 ⟨rfl, rfl⟩)
  refine bodyPost_ret (v := .agg #[.int .i64 1, .string ⟨#[97]⟩, .string ⟨#[]⟩, .string ⟨#[]⟩, .int .i64 0]) (by simp [results, Tryd.results79, go_sem]) rfl ⟨rfl, ?_⟩
  repeat (first | exact zi _ _ | (refine Below.setCell ?_ (by simp) _) | (refine zF ?_ _) | apply zE | apply zG)
set_option maxHeartbeats 4000000 in
theorem wcfits_1 (w : World) (hL : LaidU w) :
    Calls Tryd.prog 55 #[.agg #[.int .i64 2, .int .i64 9, .int .i64 1, .int .i64 1, .int .i64 4], .agg #[.int .i64 1, .string ⟨#[97]⟩, .string ⟨#[]⟩, .string ⟨#[]⟩, .int .i64 0]] w fun e w' => e = .returned (.int .i64 0) ∧ Below w.heap.size w w' := by
  have C := zX (fun (W : World) => wis_1 W)
  have HP := Lib.hid (fun (W : World) (hb : Below w.heap.size w W) => wplain_1 W (laidU_below hL hb))
  clear hL
  go_enter Tryd.func55, Tryd.ntmps55
  go_wp2_with fail
  refine (HP.out _ (by repeat (first | exact zi _ _ | apply zF))).mono ?_
  rintro e w1 ⟨rfl, hb⟩
  have hc0 := (hb.block _ (by simp <;> omega)).trans (wheap2_0 (w := w))
  have hc1 := (hb.block _ (by simp <;> omega)).trans (wheap2_1 (w := w))
  have p0 : w1.cell? ⟨w.heap.size, 0, none⟩ = some (.int .i64 2) := (cell_row hc0).trans rfl
  have p1 : w1.cell? ⟨w.heap.size + 1, 0, none⟩ = some (.int .i64 1) := (cell_row hc1).trans rfl
  have l1 := (Array.getElem?_eq_some_iff.1 hc1).1
  have HB := zX (show Below w.heap.size w w1 from zT (by repeat (first | exact zi _ _ | apply zF)) hb)
  clear hb hc0 hc1
  go_wp2_with (go_at_call 59; refine (C.out _).mono ?_; rintro e w2 ⟨rfl, rfl⟩)
  go_ret
  exact ⟨rfl, zF HB.out _⟩
theorem wis_2 (w : World) : Calls Tryd.prog 59 #[.int .i64 2] w fun e w' => e = .returned (.bool true) ∧ w = w' := by
  go_enter Tryd.func59, Tryd.ntmps59
  go_wp2
  go_ret
  exact ⟨rfl, rfl⟩
set_option maxHeartbeats 4000000 in
theorem wplain_2 (w : World) (hL : LaidU w) :
    Calls Tryd.prog 79 #[.agg #[.int .i64 2, .string ⟨#[97]⟩, .string ⟨#[49]⟩, .string ⟨#[]⟩, .int .i64 0]] w fun e w' => e = .returned (.agg #[.int .i64 2, .string ⟨#[97]⟩, .string ⟨#[49]⟩, .string ⟨#[]⟩, .int .i64 0]) ∧ Below w.heap.size w w' := by
  have c0 : w.cell? ⟨0, 8, none⟩ = some (.bool true) := hL 8 (by decide)
  have c1 : w.cell? ⟨0, 9, none⟩ = some (.bool true) := hL 9 (by decide)
  have c2 : w.cell? ⟨0, 10, none⟩ = some (.bool false) := hL 10 (by decide)
  have c3 : w.cell? ⟨0, 11, none⟩ = some (.bool false) := hL 11 (by decide)
  have hsz : 0 < w.heap.size := zB w _ (hL 0 (by decide))
  have hne : w.heap.size ≠ 0 := by omega
  have hne1 : 0 ≠ w.heap.size := by omega
  clear hL
  have C := zX (fun (W : World) => wis_2 W)
  go_enter Tryd.func79, Tryd.ntmps79
  go_wp2_with (go_at_call 59; refine (C.out _).mono ?_; rintro e w1 ⟨rfl, rfl⟩)
  refine bodyPost_ret (v := .agg #[.int .i64 2, .string ⟨#[97]⟩, .string ⟨#[49]⟩, .string ⟨#[]⟩, .int .i64 0]) (by simp [results, Tryd.results79, go_sem]) rfl ⟨rfl, ?_⟩
  repeat (first | exact zi _ _ | (refine Below.setCell ?_ (by simp) _) | (refine zF ?_ _) | apply zE | apply zG)
set_option maxHeartbeats 4000000 in
theorem wcfits_2 (w : World) (hL : LaidU w) :
    Calls Tryd.prog 55 #[.agg #[.int .i64 2, .int .i64 9, .int .i64 1, .int .i64 1, .int .i64 4], .agg #[.int .i64 2, .string ⟨#[97]⟩, .string ⟨#[49]⟩, .string ⟨#[]⟩, .int .i64 0]] w fun e w' => e = .returned (.int .i64 0) ∧ Below w.heap.size w w' := by
  have C := zX (fun (W : World) => wis_2 W)
  have HP := Lib.hid (fun (W : World) (hb : Below w.heap.size w W) => wplain_2 W (laidU_below hL hb))
  clear hL
  go_enter Tryd.func55, Tryd.ntmps55
  go_wp2_with fail
  refine (HP.out _ (by repeat (first | exact zi _ _ | apply zF))).mono ?_
  rintro e w1 ⟨rfl, hb⟩
  have hc0 := (hb.block _ (by simp <;> omega)).trans (wheap2_0 (w := w))
  have hc1 := (hb.block _ (by simp <;> omega)).trans (wheap2_1 (w := w))
  have p0 : w1.cell? ⟨w.heap.size, 0, none⟩ = some (.int .i64 2) := (cell_row hc0).trans rfl
  have p1 : w1.cell? ⟨w.heap.size + 1, 0, none⟩ = some (.int .i64 2) := (cell_row hc1).trans rfl
  have l1 := (Array.getElem?_eq_some_iff.1 hc1).1
  have HB := zX (show Below w.heap.size w w1 from zT (by repeat (first | exact zi _ _ | apply zF)) hb)
  clear hb hc0 hc1
  go_wp2_with (go_at_call 59; refine (C.out _).mono ?_; rintro e w2 ⟨rfl, rfl⟩)
  go_ret
  exact ⟨rfl, zF HB.out _⟩

set_option maxHeartbeats 4000000 in
theorem wmay (w : World) : Calls Tryd.prog 54 #[.agg #[.int .i64 2, .int .i64 9, .int .i64 1, .int .i64 1, .int .i64 4]] w fun e w' => e = .returned (.int .i64 0) ∧ Below w.heap.size w w' := by
  go_enter Tryd.func54, Tryd.ntmps54
  go_wp2
  go_ret
  exact ⟨rfl, (by repeat (first | exact zi _ _ | apply zF))⟩
set_option maxHeartbeats 4000000 in
theorem wfits_1 (w : World) (hL : LaidU w) : Calls Tryd.prog 25 #[.agg #[.int .i64 2, .int .i64 9, .int .i64 1, .int .i64 1, .int .i64 4], .agg #[.int .i64 1, .string ⟨#[97]⟩, .string ⟨#[]⟩, .string ⟨#[]⟩, .int .i64 0]] w fun e w' => e = .returned (.bool true) ∧ Below w.heap.size w w' := by
  have HF := Lib.hid (fun (W : World) (hb : Below w.heap.size w W) => wcfits_1 W (laidU_below hL hb))
  clear hL
  go_enter Tryd.func25, Tryd.ntmps25
  go_wp2_with fail
  refine (wmay _).mono ?_
  rintro e w1 ⟨rfl, hb⟩
  have p0 := (hb.block _ (by simp <;> omega)).trans (wheap2_0 (w := w))
  have p1 := (hb.block _ (by simp <;> omega)).trans (wheap2_1 (w := w))
  have HB := zX (show Below w.heap.size w w1 from zT (by repeat (first | exact zi _ _ | apply zF)) hb)
  clear hb
  have a0 : w1.cell? ⟨w.heap.size, 0, none⟩ = _ := (cell_row p0).trans rfl
  have a1 : w1.cell? ⟨w.heap.size, 1, none⟩ = _ := (cell_row p0).trans rfl
  have a2 : w1.cell? ⟨w.heap.size, 2, none⟩ = _ := (cell_row p0).trans rfl
  have a3 : w1.cell? ⟨w.heap.size, 3, none⟩ = _ := (cell_row p0).trans rfl
  have a4 : w1.cell? ⟨w.heap.size, 4, none⟩ = _ := (cell_row p0).trans rfl
  have b0 : w1.cell? ⟨w.heap.size + 1, 0, none⟩ = _ := (cell_row p1).trans rfl
  have b1 : w1.cell? ⟨w.heap.size + 1, 1, none⟩ = _ := (cell_row p1).trans rfl
  have b2 : w1.cell? ⟨w.heap.size + 1, 2, none⟩ = _ := (cell_row p1).trans rfl
  have b3 : w1.cell? ⟨w.heap.size + 1, 3, none⟩ = _ := (cell_row p1).trans rfl
  have b4 : w1.cell? ⟨w.heap.size + 1, 4, none⟩ = _ := (cell_row p1).trans rfl
  clear p0 p1
  go_wp2_with fail
  refine (HF.out _ HB.out).mono ?_
  rintro e w2 ⟨rfl, hb⟩
  have HB2 := zX (zT HB.out hb)
  clear hb
  go_wp2
  go_ret
  exact ⟨rfl, HB2.out⟩
theorem wheld_1 (w : World) (hL : LaidU w) : Calls Tryd.prog 28 #[.int .i64 1] w fun e w' => e = .returned (.bool false) ∧ w = w' := by
  have c3 : w.cell? ⟨0, 7, none⟩ = some (.bool false) := hL 7 (by decide)
  have C := zX (fun (W : World) => wis_1 W)
  clear hL
  go_enter Tryd.func28, Tryd.ntmps28
  go_wp2_with (go_at_call 59; refine (C.out _).mono ?_; rintro e w1 ⟨rfl, rfl⟩)
  go_ret
  exact ⟨rfl, rfl⟩
set_option maxHeartbeats 4000000 in
theorem wfits_2 (w : World) (hL : LaidU w) : Calls Tryd.prog 25 #[.agg #[.int .i64 2, .int .i64 9, .int .i64 1, .int .i64 1, .int .i64 4], .agg #[.int .i64 2, .string ⟨#[97]⟩, .string ⟨#[49]⟩, .string ⟨#[]⟩, .int .i64 0]] w fun e w' => e = .returned (.bool true) ∧ Below w.heap.size w w' := by
  have HF := Lib.hid (fun (W : World) (hb : Below w.heap.size w W) => wcfits_2 W (laidU_below hL hb))
  clear hL
  go_enter Tryd.func25, Tryd.ntmps25
  go_wp2_with fail
  refine (wmay _).mono ?_
  rintro e w1 ⟨rfl, hb⟩
  have p0 := (hb.block _ (by simp <;> omega)).trans (wheap2_0 (w := w))
  have p1 := (hb.block _ (by simp <;> omega)).trans (wheap2_1 (w := w))
  have HB := zX (show Below w.heap.size w w1 from zT (by repeat (first | exact zi _ _ | apply zF)) hb)
  clear hb
  have a0 : w1.cell? ⟨w.heap.size, 0, none⟩ = _ := (cell_row p0).trans rfl
  have a1 : w1.cell? ⟨w.heap.size, 1, none⟩ = _ := (cell_row p0).trans rfl
  have a2 : w1.cell? ⟨w.heap.size, 2, none⟩ = _ := (cell_row p0).trans rfl
  have a3 : w1.cell? ⟨w.heap.size, 3, none⟩ = _ := (cell_row p0).trans rfl
  have a4 : w1.cell? ⟨w.heap.size, 4, none⟩ = _ := (cell_row p0).trans rfl
  have b0 : w1.cell? ⟨w.heap.size + 1, 0, none⟩ = _ := (cell_row p1).trans rfl
  have b1 : w1.cell? ⟨w.heap.size + 1, 1, none⟩ = _ := (cell_row p1).trans rfl
  have b2 : w1.cell? ⟨w.heap.size + 1, 2, none⟩ = _ := (cell_row p1).trans rfl
  have b3 : w1.cell? ⟨w.heap.size + 1, 3, none⟩ = _ := (cell_row p1).trans rfl
  have b4 : w1.cell? ⟨w.heap.size + 1, 4, none⟩ = _ := (cell_row p1).trans rfl
  clear p0 p1
  go_wp2_with fail
  refine (HF.out _ HB.out).mono ?_
  rintro e w2 ⟨rfl, hb⟩
  have HB2 := zX (zT HB.out hb)
  clear hb
  go_wp2
  go_ret
  exact ⟨rfl, HB2.out⟩
theorem wheld_2 (w : World) (hL : LaidU w) : Calls Tryd.prog 28 #[.int .i64 2] w fun e w' => e = .returned (.bool false) ∧ w = w' := by
  have c3 : w.cell? ⟨0, 11, none⟩ = some (.bool false) := hL 11 (by decide)
  have C := zX (fun (W : World) => wis_2 W)
  clear hL
  go_enter Tryd.func28, Tryd.ntmps28
  go_wp2_with (go_at_call 59; refine (C.out _).mono ?_; rintro e w1 ⟨rfl, rfl⟩)
  go_ret
  exact ⟨rfl, rfl⟩
set_option maxHeartbeats 4000000 in
theorem wbound0 (w : World) : Calls Tryd.prog 29 #[.slice none 0 0, .string ⟨#[97]⟩] w fun e w' => e = .returned (.agg #[.int .i64 0, .bool false, .string ⟨#[]⟩, .string ⟨#[]⟩, .int .i64 0]) ∧ Below w.heap.size w w' := by
  have HG := Lib.hid (fun (W : World) (hb : Below w.heap.size w W) => pair_Get.calls 10 none 0 [] ⟨#[97]⟩ ⟨#[]⟩ false W (Kd.C_nil _ _) (Nat.le_refl _) (by decide +kernel))

  go_enter Tryd.func29, Tryd.ntmps29
  go_wp2_with fail
  refine (HG.out _ (by repeat (first | exact zi _ _ | apply zF))).mono ?_
  rintro e w1 ⟨rfl, hb⟩
  have l0 : w.heap.size < w1.heap.size := by have := hb.size; simp at this; omega
  have p0 := (hb.block _ (by simp)).trans (alloc_at (w := w))
  have HB := zX (show Below w.heap.size w w1 from zT (by repeat (first | exact zi _ _ | apply zF)) hb)
  have a0 : w1.cell? ⟨w.heap.size, 0, none⟩ = _ := (cell_row p0).trans rfl
  have a1 : w1.cell? ⟨w.heap.size, 1, none⟩ = _ := (cell_row p0).trans rfl
  have a2 : w1.cell? ⟨w.heap.size, 2, none⟩ = _ := (cell_row p0).trans rfl
  have a3 : w1.cell? ⟨w.heap.size, 3, none⟩ = _ := (cell_row p0).trans rfl
  have a4 : w1.cell? ⟨w.heap.size, 4, none⟩ = _ := (cell_row p0).trans rfl
  have zf : ∀ j, w1.frozen? ⟨w.heap.size, j, none⟩ = false := zI p0
  clear hb p0
  go_wp2
  refine bodyPost_ret (v := .agg #[.int .i64 0, .bool false, .string ⟨#[]⟩, .string ⟨#[]⟩, .int .i64 0]) (by simp [results, Tryd.results29, go_sem, *]) rfl ⟨rfl, ?_⟩
  have le : w.heap.size ≤ w.heap.size := Nat.le_refl _
  exact ((((HB.out.setCell le _).setCell le _).setCell le _).setCell le _).setCell le _
set_option maxHeartbeats 4000000 in
theorem wbound1 (w : World) (A : Option Addr) (c : Nat) (hc : 1 ≤ c) (hC : Kd.C k65 w A 1 [⟨⟨#[97]⟩, ⟨#[49]⟩⟩]) : Calls Tryd.prog 29 #[.slice A 1 c, .string ⟨#[97]⟩] w fun e w' => e = .returned (.agg #[.int .i64 0, .bool true, .string ⟨#[]⟩, .string ⟨#[49]⟩, .int .i64 0]) ∧ Below w.heap.size w w' := by
  have HG := Lib.hid (fun (W : World) (hb : Below w.heap.size w W) => pair_Get.calls 10 A c [⟨⟨#[97]⟩, ⟨#[49]⟩⟩] ⟨#[97]⟩ ⟨#[49]⟩ true W (zZ hC hb) hc (by decide +kernel))
  clear hC
  go_enter Tryd.func29, Tryd.ntmps29
  go_wp2_with fail
  refine (HG.out _ (by repeat (first | exact zi _ _ | apply zF))).mono ?_
  rintro e w1 ⟨rfl, hb⟩
  have l0 : w.heap.size < w1.heap.size := by have := hb.size; simp at this; omega
  have p0 := (hb.block _ (by simp)).trans (alloc_at (w := w))
  have HB := zX (show Below w.heap.size w w1 from zT (by repeat (first | exact zi _ _ | apply zF)) hb)
  have a0 : w1.cell? ⟨w.heap.size, 0, none⟩ = _ := (cell_row p0).trans rfl
  have a1 : w1.cell? ⟨w.heap.size, 1, none⟩ = _ := (cell_row p0).trans rfl
  have a2 : w1.cell? ⟨w.heap.size, 2, none⟩ = _ := (cell_row p0).trans rfl
  have a3 : w1.cell? ⟨w.heap.size, 3, none⟩ = _ := (cell_row p0).trans rfl
  have a4 : w1.cell? ⟨w.heap.size, 4, none⟩ = _ := (cell_row p0).trans rfl
  have zf : ∀ j, w1.frozen? ⟨w.heap.size, j, none⟩ = false := zI p0
  clear hb p0
  go_wp2
  refine bodyPost_ret (v := .agg #[.int .i64 0, .bool true, .string ⟨#[]⟩, .string ⟨#[49]⟩, .int .i64 0]) (by simp [results, Tryd.results29, go_sem, *]) rfl ⟨rfl, ?_⟩
  have le : w.heap.size ≤ w.heap.size := Nat.le_refl _
  exact ((((HB.out.setCell le _).setCell le _).setCell le _).setCell le _).setCell le _
theorem wheap4_0 {w : World} {a b c d : Obj} : ((((w.alloc a).alloc b).alloc c).alloc d).heap[w.heap.size]? = some a := by
  rw [Below.heap_alloc _ _ _ (by simp <;> omega), Below.heap_alloc _ _ _ (by simp <;> omega)]; exact wheap2_0
theorem wheap4_1 {w : World} {a b c d : Obj} : ((((w.alloc a).alloc b).alloc c).alloc d).heap[w.heap.size + 1]? = some b := by
  rw [Below.heap_alloc _ _ _ (by simp <;> omega), Below.heap_alloc _ _ _ (by simp <;> omega)]; exact wheap2_1
theorem wheap4_2 {w : World} {a b c d : Obj} : ((((w.alloc a).alloc b).alloc c).alloc d).heap[w.heap.size + 2]? = some c := by
  have := wheap2_0 (w := (w.alloc a).alloc b) (a := c) (b := d)
  rwa [show ((w.alloc a).alloc b).heap.size = w.heap.size + 2 by simp] at this
theorem wheap4_3 {w : World} {a b c d : Obj} : ((((w.alloc a).alloc b).alloc c).alloc d).heap[w.heap.size + 3]? = some d := by
  have := wheap2_1 (w := (w.alloc a).alloc b) (a := c) (b := d)
  rwa [show ((w.alloc a).alloc b).heap.size = w.heap.size + 2 by simp] at this
theorem wheap_lt0 {w : World} {g : Nat} {o : Obj} (h : w.heap[g]? = some o) : g < w.heap.size := (Array.getElem?_eq_some_iff.1 h).1
theorem wput : pair_Put.f 10 [] ⟨#[97]⟩ ⟨#[49]⟩ = some [⟨⟨#[97]⟩, ⟨#[49]⟩⟩] := rfl
theorem wlow {W : World} {base g : Nat} {v : Value} {xs : List S65} (h : Kd.R k65 65 W base (fun _ => True) v xs) (hg : g < base) (j : Nat) (u : Value) : Kd.R k65 65 (W.setCell ⟨g, j, none⟩ u) base (fun _ => True) v xs :=
  Kd.R_mono (Kd.R_far (p := ⟨g, j, none⟩) (Kd.R_bound h) (fun k hk => by have := hk.2.1; show k ≠ g; omega) u) (fun _ _ => trivial)
theorem wanswer2_lt {w : World} {g : Nat} {o : Obj} (h : w.heap[g]? = some o) : g < w.heap.size := (Array.getElem?_eq_some_iff.1 h).1
set_option maxHeartbeats 4000000 in
theorem wanswer2 (w : World) (hL : LaidU w) : Calls Tryd.prog 9 #[.agg #[.int .i64 2, .int .i64 9, .int .i64 1, .int .i64 1, .int .i64 4], .agg #[.slice none 0 0, .slice none 0 0], .agg #[.int .i64 2, .string ⟨#[97]⟩, .string ⟨#[49]⟩, .string ⟨#[]⟩, .int .i64 0]] w fun e w' => e = .returned (.tuple #[.agg #[.int .i64 0, .bool false, .string ⟨#[]⟩, .string ⟨#[]⟩, .int .i64 0], .bool true]) ∧ Below w.heap.size w w' := by
  have HF := Lib.hid (fun (W : World) (hb : Below w.heap.size w W) => wfits_2 W (laidU_below hL hb))
  have HH := Lib.hid (fun (W : World) (hb : Below w.heap.size w W) => wheld_2 W (laidU_below hL hb))

  clear hL
  go_enter Tryd.func9, Tryd.ntmps9
  go_wp2_with fail
  refine (HF.out _ (by repeat (first | exact zi _ _ | apply zF))).mono ?_
  rintro e w1 ⟨rfl, hb⟩
  have b0 := (hb.block _ (by simp <;> omega)).trans (wheap4_0 (w := w))
  have b1 := (hb.block _ (by simp <;> omega)).trans (wheap4_1 (w := w))
  have b2 := (hb.block _ (by simp <;> omega)).trans (wheap4_2 (w := w))
  have b3 := (hb.block _ (by simp <;> omega)).trans (wheap4_3 (w := w))
  have HB := zX (show Below w.heap.size w w1 from zT (by repeat (first | exact zi _ _ | apply zF)) hb)
  clear hb
  have b0_0 : w1.cell? ⟨w.heap.size, 0, none⟩ = _ := (cell_row b0).trans rfl
  have b0_1 : w1.cell? ⟨w.heap.size, 1, none⟩ = _ := (cell_row b0).trans rfl
  have b0_2 : w1.cell? ⟨w.heap.size, 2, none⟩ = _ := (cell_row b0).trans rfl
  have b0_3 : w1.cell? ⟨w.heap.size, 3, none⟩ = _ := (cell_row b0).trans rfl
  have b0_4 : w1.cell? ⟨w.heap.size, 4, none⟩ = _ := (cell_row b0).trans rfl
  have b1_0 : w1.cell? ⟨w.heap.size + 1, 0, none⟩ = _ := (cell_row b1).trans rfl
  have b1_1 : w1.cell? ⟨w.heap.size + 1, 1, none⟩ = _ := (cell_row b1).trans rfl
  have b2_0 : w1.cell? ⟨w.heap.size + 2, 0, none⟩ = _ := (cell_row b2).trans rfl
  have b2_1 : w1.cell? ⟨w.heap.size + 2, 1, none⟩ = _ := (cell_row b2).trans rfl
  have b2_2 : w1.cell? ⟨w.heap.size + 2, 2, none⟩ = _ := (cell_row b2).trans rfl
  have b2_3 : w1.cell? ⟨w.heap.size + 2, 3, none⟩ = _ := (cell_row b2).trans rfl
  have b2_4 : w1.cell? ⟨w.heap.size + 2, 4, none⟩ = _ := (cell_row b2).trans rfl
  have b3_0 : w1.cell? ⟨w.heap.size + 3, 0, none⟩ = _ := (cell_row b3).trans rfl
  have b3_1 : w1.cell? ⟨w.heap.size + 3, 1, none⟩ = _ := (cell_row b3).trans rfl
  have b3_2 : w1.cell? ⟨w.heap.size + 3, 2, none⟩ = _ := (cell_row b3).trans rfl
  have b3_3 : w1.cell? ⟨w.heap.size + 3, 3, none⟩ = _ := (cell_row b3).trans rfl
  have b3_4 : w1.cell? ⟨w.heap.size + 3, 4, none⟩ = _ := (cell_row b3).trans rfl
  have zf : ∀ j, w1.frozen? ⟨w.heap.size + 3, j, none⟩ = false := zI b3
  have B3 := zX b3
  have L3 := wanswer2_lt b3
  clear b0 b1 b2 b3
  go_wp2_with fail
  refine (HH.out _ HB.out).mono ?_
  rintro e w1' ⟨rfl, rfl⟩
  go_wp2_with fail
  refine (wbound0 _).mono ?_
  rintro e w2 ⟨rfl, hb⟩
  have hq := (hb.block _ L3).trans B3.out
  have HB2 := zX (zT HB.out hb)
  clear hb zf b0_0 b0_1 b0_2 b0_3 b0_4 b1_0 b1_1 b2_0 b2_1 b2_2 b2_3 b2_4 b3_0 b3_1 b3_2 b3_3 b3_4
  have hq_0 : w2.cell? ⟨w.heap.size + 3, 0, none⟩ = _ := (cell_row hq).trans rfl
  have hq_1 : w2.cell? ⟨w.heap.size + 3, 1, none⟩ = _ := (cell_row hq).trans rfl
  have hq_2 : w2.cell? ⟨w.heap.size + 3, 2, none⟩ = _ := (cell_row hq).trans rfl
  have hq_3 : w2.cell? ⟨w.heap.size + 3, 3, none⟩ = _ := (cell_row hq).trans rfl
  have hq_4 : w2.cell? ⟨w.heap.size + 3, 4, none⟩ = _ := (cell_row hq).trans rfl
  have zf : ∀ j, w2.frozen? ⟨w.heap.size + 3, j, none⟩ = false := zI hq
  clear hq
  go_wp2
  have le : w.heap.size ≤ w.heap.size + 3 := by omega
  refine bodyPost_ret (v := .tuple #[.agg #[.int .i64 0, .bool false, .string ⟨#[]⟩, .string ⟨#[]⟩, .int .i64 0], .bool true]) (by simp [results, Tryd.results9, go_sem, *]) rfl ⟨rfl, ((((HB2.out.setCell le _).setCell le _).setCell le _).setCell le _).setCell le _⟩
theorem wanswer1_lt {w : World} {g : Nat} {o : Obj} (h : w.heap[g]? = some o) : g < w.heap.size := (Array.getElem?_eq_some_iff.1 h).1
set_option maxHeartbeats 4000000 in
theorem wanswer1 (w : World) (hL : LaidU w) (A : Option Addr) (c : Nat) (hc : 1 ≤ c) (hC : Kd.C k65 w A 1 [⟨⟨#[97]⟩, ⟨#[49]⟩⟩]) : Calls Tryd.prog 9 #[.agg #[.int .i64 2, .int .i64 9, .int .i64 1, .int .i64 1, .int .i64 4], .agg #[.slice A 1 c, .slice none 0 0], .agg #[.int .i64 1, .string ⟨#[97]⟩, .string ⟨#[]⟩, .string ⟨#[]⟩, .int .i64 0]] w fun e w' => e = .returned (.tuple #[.agg #[.int .i64 0, .bool true, .string ⟨#[]⟩, .string ⟨#[49]⟩, .int .i64 0], .bool true]) ∧ Below w.heap.size w w' := by
  have HF := Lib.hid (fun (W : World) (hb : Below w.heap.size w W) => wfits_1 W (laidU_below hL hb))
  have HH := Lib.hid (fun (W : World) (hb : Below w.heap.size w W) => wheld_1 W (laidU_below hL hb))
  have HC := zX hC
  clear hL hC
  go_enter Tryd.func9, Tryd.ntmps9
  go_wp2_with fail
  refine (HF.out _ (by repeat (first | exact zi _ _ | apply zF))).mono ?_
  rintro e w1 ⟨rfl, hb⟩
  have b0 := (hb.block _ (by simp <;> omega)).trans (wheap4_0 (w := w))
  have b1 := (hb.block _ (by simp <;> omega)).trans (wheap4_1 (w := w))
  have b2 := (hb.block _ (by simp <;> omega)).trans (wheap4_2 (w := w))
  have b3 := (hb.block _ (by simp <;> omega)).trans (wheap4_3 (w := w))
  have HB := zX (show Below w.heap.size w w1 from zT (by repeat (first | exact zi _ _ | apply zF)) hb)
  clear hb
  have b0_0 : w1.cell? ⟨w.heap.size, 0, none⟩ = _ := (cell_row b0).trans rfl
  have b0_1 : w1.cell? ⟨w.heap.size, 1, none⟩ = _ := (cell_row b0).trans rfl
  have b0_2 : w1.cell? ⟨w.heap.size, 2, none⟩ = _ := (cell_row b0).trans rfl
  have b0_3 : w1.cell? ⟨w.heap.size, 3, none⟩ = _ := (cell_row b0).trans rfl
  have b0_4 : w1.cell? ⟨w.heap.size, 4, none⟩ = _ := (cell_row b0).trans rfl
  have b1_0 : w1.cell? ⟨w.heap.size + 1, 0, none⟩ = _ := (cell_row b1).trans rfl
  have b1_1 : w1.cell? ⟨w.heap.size + 1, 1, none⟩ = _ := (cell_row b1).trans rfl
  have b2_0 : w1.cell? ⟨w.heap.size + 2, 0, none⟩ = _ := (cell_row b2).trans rfl
  have b2_1 : w1.cell? ⟨w.heap.size + 2, 1, none⟩ = _ := (cell_row b2).trans rfl
  have b2_2 : w1.cell? ⟨w.heap.size + 2, 2, none⟩ = _ := (cell_row b2).trans rfl
  have b2_3 : w1.cell? ⟨w.heap.size + 2, 3, none⟩ = _ := (cell_row b2).trans rfl
  have b2_4 : w1.cell? ⟨w.heap.size + 2, 4, none⟩ = _ := (cell_row b2).trans rfl
  have b3_0 : w1.cell? ⟨w.heap.size + 3, 0, none⟩ = _ := (cell_row b3).trans rfl
  have b3_1 : w1.cell? ⟨w.heap.size + 3, 1, none⟩ = _ := (cell_row b3).trans rfl
  have b3_2 : w1.cell? ⟨w.heap.size + 3, 2, none⟩ = _ := (cell_row b3).trans rfl
  have b3_3 : w1.cell? ⟨w.heap.size + 3, 3, none⟩ = _ := (cell_row b3).trans rfl
  have b3_4 : w1.cell? ⟨w.heap.size + 3, 4, none⟩ = _ := (cell_row b3).trans rfl
  have zf : ∀ j, w1.frozen? ⟨w.heap.size + 3, j, none⟩ = false := zI b3
  have B3 := zX b3
  have L3 := wanswer1_lt b3
  clear b0 b1 b2 b3
  go_wp2_with fail
  refine (HH.out _ HB.out).mono ?_
  rintro e w1' ⟨rfl, rfl⟩
  go_wp2_with fail
  refine (wbound1 _ A c hc (zZ HC.out HB.out)).mono ?_
  rintro e w2 ⟨rfl, hb⟩
  have hq := (hb.block _ L3).trans B3.out
  have HB2 := zX (zT HB.out hb)
  clear hb zf b0_0 b0_1 b0_2 b0_3 b0_4 b1_0 b1_1 b2_0 b2_1 b2_2 b2_3 b2_4 b3_0 b3_1 b3_2 b3_3 b3_4
  have hq_0 : w2.cell? ⟨w.heap.size + 3, 0, none⟩ = _ := (cell_row hq).trans rfl
  have hq_1 : w2.cell? ⟨w.heap.size + 3, 1, none⟩ = _ := (cell_row hq).trans rfl
  have hq_2 : w2.cell? ⟨w.heap.size + 3, 2, none⟩ = _ := (cell_row hq).trans rfl
  have hq_3 : w2.cell? ⟨w.heap.size + 3, 3, none⟩ = _ := (cell_row hq).trans rfl
  have hq_4 : w2.cell? ⟨w.heap.size + 3, 4, none⟩ = _ := (cell_row hq).trans rfl
  have zf : ∀ j, w2.frozen? ⟨w.heap.size + 3, j, none⟩ = false := zI hq
  clear hq
  go_wp2
  have le : w.heap.size ≤ w.heap.size + 3 := by omega
  refine bodyPost_ret (v := .tuple #[.agg #[.int .i64 0, .bool true, .string ⟨#[]⟩, .string ⟨#[49]⟩, .int .i64 0], .bool true]) (by simp [results, Tryd.results9, go_sem, *]) rfl ⟨rfl, ((((HB2.out.setCell le _).setCell le _).setCell le _).setCell le _).setCell le _⟩
set_option maxHeartbeats 4000000 in
theorem wafter (w : World) (hL : LaidU w) : Calls Tryd.prog 12 #[.agg #[.int .i64 2, .int .i64 9, .int .i64 1, .int .i64 1, .int .i64 4], .agg #[.slice none 0 0, .slice none 0 0], .agg #[.int .i64 2, .string ⟨#[97]⟩, .string ⟨#[49]⟩, .string ⟨#[]⟩, .int .i64 0]] w fun e w' => ∃ A c, e = .returned (.tuple #[.agg #[.slice A 1 c, .slice none 0 0], .bool true]) ∧ 1 ≤ c ∧ Kd.R k65 65 w' w.heap.size (fun _ => True) (.slice A 1 c) [⟨⟨#[97]⟩, ⟨#[49]⟩⟩] ∧ Below w.heap.size w w' := by
  have HF := Lib.hid (fun (W : World) (hb : Below w.heap.size w W) => wfits_2 W (laidU_below hL hb))
  have HG := Lib.hid (fun (W : World) => pair_Get.calls 10 none 0 [] ⟨#[97]⟩ ⟨#[]⟩ false W (Kd.C_nil _ _) (Nat.le_refl _) (by decide +kernel))
  have HP := Lib.hid (fun (W : World) => pair_Put.calls 10 none 0 [] ⟨#[97]⟩ ⟨#[49]⟩ [⟨⟨#[97]⟩, ⟨#[49]⟩⟩] W (Kd.C_nil _ _) (Nat.le_refl _) wput)
  clear hL
  go_enter Tryd.func12, Tryd.ntmps12
  go_wp2_with fail
  refine (HF.out _ (by repeat (first | exact zi _ _ | apply zF))).mono ?_
  rintro e w1 ⟨rfl, hb⟩
  have b0 := (hb.block _ (by simp <;> omega)).trans (wheap4_0 (w := w))
  have b1 := (hb.block _ (by simp <;> omega)).trans (wheap4_1 (w := w))
  have b2 := (hb.block _ (by simp <;> omega)).trans (wheap4_2 (w := w))
  have b3 := (hb.block _ (by simp <;> omega)).trans (wheap4_3 (w := w))
  have HB := zX (show Below w.heap.size w w1 from zT (by repeat (first | exact zi _ _ | apply zF)) hb)
  clear hb
  have b0_0 : w1.cell? ⟨w.heap.size, 0, none⟩ = _ := (cell_row b0).trans rfl
  have b0_1 : w1.cell? ⟨w.heap.size, 1, none⟩ = _ := (cell_row b0).trans rfl
  have b0_2 : w1.cell? ⟨w.heap.size, 2, none⟩ = _ := (cell_row b0).trans rfl
  have b0_3 : w1.cell? ⟨w.heap.size, 3, none⟩ = _ := (cell_row b0).trans rfl
  have b0_4 : w1.cell? ⟨w.heap.size, 4, none⟩ = _ := (cell_row b0).trans rfl
  have b1_0 : w1.cell? ⟨w.heap.size + 1, 0, none⟩ = _ := (cell_row b1).trans rfl
  have b1_1 : w1.cell? ⟨w.heap.size + 1, 1, none⟩ = _ := (cell_row b1).trans rfl
  have b2_0 : w1.cell? ⟨w.heap.size + 2, 0, none⟩ = _ := (cell_row b2).trans rfl
  have b2_1 : w1.cell? ⟨w.heap.size + 2, 1, none⟩ = _ := (cell_row b2).trans rfl
  have b2_2 : w1.cell? ⟨w.heap.size + 2, 2, none⟩ = _ := (cell_row b2).trans rfl
  have b2_3 : w1.cell? ⟨w.heap.size + 2, 3, none⟩ = _ := (cell_row b2).trans rfl
  have b2_4 : w1.cell? ⟨w.heap.size + 2, 4, none⟩ = _ := (cell_row b2).trans rfl
  have b3_0 : w1.cell? ⟨w.heap.size + 3, 0, none⟩ = _ := (cell_row b3).trans rfl
  have b3_1 : w1.cell? ⟨w.heap.size + 3, 1, none⟩ = _ := (cell_row b3).trans rfl
  go_wp2_with fail
  refine (HG.out _).mono ?_
  rintro e w2 ⟨rfl, hb⟩
  have b0' := (hb.block _ (wheap_lt0 b0)).trans b0
  have b1' := (hb.block _ (wheap_lt0 b1)).trans b1
  have b2' := (hb.block _ (wheap_lt0 b2)).trans b2
  have b3' := (hb.block _ (wheap_lt0 b3)).trans b3
  clear b0_0 b0_1 b0_2 b0_3 b0_4 b1_0 b1_1 b2_0 b2_1 b2_2 b2_3 b2_4 b3_0 b3_1
  have b0 := b0'
  have b1 := b1'
  have b2 := b2'
  have b3 := b3'
  have HB2 := zX (zT HB.out hb)
  clear hb
  have b0_0 : w2.cell? ⟨w.heap.size, 0, none⟩ = _ := (cell_row b0).trans rfl
  have b0_1 : w2.cell? ⟨w.heap.size, 1, none⟩ = _ := (cell_row b0).trans rfl
  have b0_2 : w2.cell? ⟨w.heap.size, 2, none⟩ = _ := (cell_row b0).trans rfl
  have b0_3 : w2.cell? ⟨w.heap.size, 3, none⟩ = _ := (cell_row b0).trans rfl
  have b0_4 : w2.cell? ⟨w.heap.size, 4, none⟩ = _ := (cell_row b0).trans rfl
  have b1_0 : w2.cell? ⟨w.heap.size + 1, 0, none⟩ = _ := (cell_row b1).trans rfl
  have b1_1 : w2.cell? ⟨w.heap.size + 1, 1, none⟩ = _ := (cell_row b1).trans rfl
  have b2_0 : w2.cell? ⟨w.heap.size + 2, 0, none⟩ = _ := (cell_row b2).trans rfl
  have b2_1 : w2.cell? ⟨w.heap.size + 2, 1, none⟩ = _ := (cell_row b2).trans rfl
  have b2_2 : w2.cell? ⟨w.heap.size + 2, 2, none⟩ = _ := (cell_row b2).trans rfl
  have b2_3 : w2.cell? ⟨w.heap.size + 2, 3, none⟩ = _ := (cell_row b2).trans rfl
  have b2_4 : w2.cell? ⟨w.heap.size + 2, 4, none⟩ = _ := (cell_row b2).trans rfl
  have b3_0 : w2.cell? ⟨w.heap.size + 3, 0, none⟩ = _ := (cell_row b3).trans rfl
  have b3_1 : w2.cell? ⟨w.heap.size + 3, 1, none⟩ = _ := (cell_row b3).trans rfl
  go_wp2_with fail
  refine (HP.out _).mono ?_
  rintro e w3 ⟨v, rfl, hR, hb⟩
  obtain ⟨A, c, rfl, hc, _⟩ := Kd.R_reads hR
  have HLt := zX (wheap_lt0 b3)
  have b0' := (hb.block _ (wheap_lt0 b0)).trans b0
  have b1' := (hb.block _ (wheap_lt0 b1)).trans b1
  have b2' := (hb.block _ (wheap_lt0 b2)).trans b2
  have b3' := (hb.block _ (wheap_lt0 b3)).trans b3
  clear b0_0 b0_1 b0_2 b0_3 b0_4 b1_0 b1_1 b2_0 b2_1 b2_2 b2_3 b2_4 b3_0 b3_1
  have b0 := b0'
  have b1 := b1'
  have b2 := b2'
  have b3 := b3'
  have HB3 := zX (zT HB2.out hb)
  have HR := zX hR
  clear hb hR
  have b0_0 : w3.cell? ⟨w.heap.size, 0, none⟩ = _ := (cell_row b0).trans rfl
  have b0_1 : w3.cell? ⟨w.heap.size, 1, none⟩ = _ := (cell_row b0).trans rfl
  have b0_2 : w3.cell? ⟨w.heap.size, 2, none⟩ = _ := (cell_row b0).trans rfl
  have b0_3 : w3.cell? ⟨w.heap.size, 3, none⟩ = _ := (cell_row b0).trans rfl
  have b0_4 : w3.cell? ⟨w.heap.size, 4, none⟩ = _ := (cell_row b0).trans rfl
  have b1_0 : w3.cell? ⟨w.heap.size + 1, 0, none⟩ = _ := (cell_row b1).trans rfl
  have b1_1 : w3.cell? ⟨w.heap.size + 1, 1, none⟩ = _ := (cell_row b1).trans rfl
  have b2_0 : w3.cell? ⟨w.heap.size + 2, 0, none⟩ = _ := (cell_row b2).trans rfl
  have b2_1 : w3.cell? ⟨w.heap.size + 2, 1, none⟩ = _ := (cell_row b2).trans rfl
  have b2_2 : w3.cell? ⟨w.heap.size + 2, 2, none⟩ = _ := (cell_row b2).trans rfl
  have b2_3 : w3.cell? ⟨w.heap.size + 2, 3, none⟩ = _ := (cell_row b2).trans rfl
  have b2_4 : w3.cell? ⟨w.heap.size + 2, 4, none⟩ = _ := (cell_row b2).trans rfl
  have b3_0 : w3.cell? ⟨w.heap.size + 3, 0, none⟩ = _ := (cell_row b3).trans rfl
  have b3_1 : w3.cell? ⟨w.heap.size + 3, 1, none⟩ = _ := (cell_row b3).trans rfl
  have zf1 : ∀ j, w3.frozen? ⟨w.heap.size + 1, j, none⟩ = false := zI b1
  have zf3 : ∀ j, w3.frozen? ⟨w.heap.size + 3, j, none⟩ = false := zI b3
  clear b0 b1 b2 b3 b0' b1' b2' b3'
  go_wp2
  have le : w.heap.size ≤ w.heap.size + 3 := by omega
  have le1 : w.heap.size ≤ w.heap.size + 1 := by omega
  have hlt := HLt.out
  refine bodyPost_ret (v := .tuple #[.agg #[.slice A 1 c, .slice none 0 0], .bool true]) (by simp [results, Tryd.results12, go_sem, *]) rfl ⟨A, c, rfl, hc, ?_, ((HB3.out.setCell le1 _).setCell le _).setCell le _⟩
  have h1 := fun (a b u : Value) => wlow (wlow (wlow HR.out (show w.heap.size + 1 < w2.heap.size by omega) 0 a) (show w.heap.size + 3 < w2.heap.size by omega) 0 b) (show w.heap.size + 3 < w2.heap.size by omega) 1 u
  exact Kd.R_lower (h1 _ _ _) (by omega)
theorem wheap5_0 {w : World} {a b c d e : Obj} : (((((w.alloc a).alloc b).alloc c).alloc d).alloc e).heap[w.heap.size]? = some a := by
  rw [Below.heap_alloc _ _ _ (by simp <;> omega)]; exact wheap4_0
theorem wheap5_1 {w : World} {a b c d e : Obj} : (((((w.alloc a).alloc b).alloc c).alloc d).alloc e).heap[w.heap.size + 1]? = some b := by
  rw [Below.heap_alloc _ _ _ (by simp <;> omega)]; exact wheap4_1
theorem wheap5_2 {w : World} {a b c d e : Obj} : (((((w.alloc a).alloc b).alloc c).alloc d).alloc e).heap[w.heap.size + 2]? = some c := by
  rw [Below.heap_alloc _ _ _ (by simp <;> omega)]; exact wheap4_2
theorem wheap5_3 {w : World} {a b c d e : Obj} : (((((w.alloc a).alloc b).alloc c).alloc d).alloc e).heap[w.heap.size + 3]? = some d := by
  rw [Below.heap_alloc _ _ _ (by simp <;> omega)]; exact wheap4_3
theorem wheap5_4 {w : World} {a b c d e : Obj} : (((((w.alloc a).alloc b).alloc c).alloc d).alloc e).heap[w.heap.size + 4]? = some e := by
  have := wheap4_3 (w := w.alloc a) (a := b) (b := c) (c := d) (d := e)
  rwa [show (w.alloc a).heap.size + 3 = w.heap.size + 4 by simp <;> omega] at this
theorem wfull (w : World) : Calls Tryd.prog 48 #[.int .i64 2] w fun e w' => e = .returned (.bool true) ∧ w = w' := by
  go_enter Tryd.func48, Tryd.ntmps48
  go_wp2
  go_ret
  exact ⟨rfl, rfl⟩
attribute [local go_sem high] eqA34
set_option maxHeartbeats 8000000 in
theorem wstep (w : World) (hL : LaidU w) : Calls Tryd.prog 20 #[.agg #[.int .i64 2, .int .i64 9, .int .i64 1, .int .i64 1, .int .i64 4], .agg #[.slice none 0 0, .slice none 0 0], .agg #[.int .i64 2, .string ⟨#[97]⟩, .string ⟨#[49]⟩, .string ⟨#[]⟩, .int .i64 0], .agg #[.int .i64 0, .bool false, .string ⟨#[]⟩, .string ⟨#[]⟩, .int .i64 0]] w fun e w' => ∃ A c, e = .returned (.tuple #[.agg #[.slice A 1 c, .slice none 0 0], .bool true]) ∧ 1 ≤ c ∧ Kd.R k65 65 w' w.heap.size (fun _ => True) (.slice A 1 c) [⟨⟨#[97]⟩, ⟨#[49]⟩⟩] ∧ Below w.heap.size w w' := by
  have HA := Lib.hid (fun (W : World) (hb : Below w.heap.size w W) => wanswer2 W (laidU_below hL hb))
  have HF := Lib.hid (fun (W : World) (hb : Below w.heap.size w W) => wfits_2 W (laidU_below hL hb))
  have HT := Lib.hid (fun (W : World) (hb : Below w.heap.size w W) => wafter W (laidU_below hL hb))
  clear hL
  go_enter Tryd.func20, Tryd.ntmps20
  go_wp2_with fail
  refine (HA.out _ (by repeat (first | exact zi _ _ | apply zF))).mono ?_
  rintro e w1 ⟨rfl, hb⟩
  have b0 := (hb.block _ (by simp <;> omega)).trans (wheap5_0 (w := w))
  have b1 := (hb.block _ (by simp <;> omega)).trans (wheap5_1 (w := w))
  have b2 := (hb.block _ (by simp <;> omega)).trans (wheap5_2 (w := w))
  have b3 := (hb.block _ (by simp <;> omega)).trans (wheap5_3 (w := w))
  have b4 := (hb.block _ (by simp <;> omega)).trans (wheap5_4 (w := w))
  have HB := zX (show Below w.heap.size w w1 from zT (by repeat (first | exact zi _ _ | apply zF)) hb)
  clear hb
  have b0_0 : w1.cell? ⟨w.heap.size, 0, none⟩ = _ := (cell_row b0).trans rfl
  have b0_1 : w1.cell? ⟨w.heap.size, 1, none⟩ = _ := (cell_row b0).trans rfl
  have b0_2 : w1.cell? ⟨w.heap.size, 2, none⟩ = _ := (cell_row b0).trans rfl
  have b0_3 : w1.cell? ⟨w.heap.size, 3, none⟩ = _ := (cell_row b0).trans rfl
  have b0_4 : w1.cell? ⟨w.heap.size, 4, none⟩ = _ := (cell_row b0).trans rfl
  have b1_0 : w1.cell? ⟨w.heap.size + 1, 0, none⟩ = _ := (cell_row b1).trans rfl
  have b1_1 : w1.cell? ⟨w.heap.size + 1, 1, none⟩ = _ := (cell_row b1).trans rfl
  have b2_0 : w1.cell? ⟨w.heap.size + 2, 0, none⟩ = _ := (cell_row b2).trans rfl
  have b2_1 : w1.cell? ⟨w.heap.size + 2, 1, none⟩ = _ := (cell_row b2).trans rfl
  have b2_2 : w1.cell? ⟨w.heap.size + 2, 2, none⟩ = _ := (cell_row b2).trans rfl
  have b2_3 : w1.cell? ⟨w.heap.size + 2, 3, none⟩ = _ := (cell_row b2).trans rfl
  have b2_4 : w1.cell? ⟨w.heap.size + 2, 4, none⟩ = _ := (cell_row b2).trans rfl
  have b3_0 : w1.cell? ⟨w.heap.size + 3, 0, none⟩ = _ := (cell_row b3).trans rfl
  have b3_1 : w1.cell? ⟨w.heap.size + 3, 1, none⟩ = _ := (cell_row b3).trans rfl
  have b3_2 : w1.cell? ⟨w.heap.size + 3, 2, none⟩ = _ := (cell_row b3).trans rfl
  have b3_3 : w1.cell? ⟨w.heap.size + 3, 3, none⟩ = _ := (cell_row b3).trans rfl
  have b3_4 : w1.cell? ⟨w.heap.size + 3, 4, none⟩ = _ := (cell_row b3).trans rfl
  have b4_0 : w1.cell? ⟨w.heap.size + 4, 0, none⟩ = _ := (cell_row b4).trans rfl
  have b4_1 : w1.cell? ⟨w.heap.size + 4, 1, none⟩ = _ := (cell_row b4).trans rfl
  have L4 := wheap_lt0 b4
  have K0 := zX b0
  have K1 := zX b1
  have K2 := zX b2
  have K3 := zX b3
  have K4 := zX b4
  clear b0 b1 b2 b3 b4
  have l0 : w.heap.size < w1.heap.size := by omega
  have l1 : w.heap.size + 1 < w1.heap.size := by omega
  have l2 : w.heap.size + 2 < w1.heap.size := by omega
  have l3 : w.heap.size + 3 < w1.heap.size := by omega
  have n0 : ¬ w.heap.size = w1.heap.size := by omega
  have m0 : ¬ w1.heap.size = w.heap.size := by omega
  have n1 : ¬ w.heap.size + 1 = w1.heap.size := by omega
  have m1 : ¬ w1.heap.size = w.heap.size + 1 := by omega
  have n2 : ¬ w.heap.size + 2 = w1.heap.size := by omega
  have m2 : ¬ w1.heap.size = w.heap.size + 2 := by omega
  have n3 : ¬ w.heap.size + 3 = w1.heap.size := by omega
  have m3 : ¬ w1.heap.size = w.heap.size + 3 := by omega
  have n4 : ¬ w.heap.size + 4 = w1.heap.size := by omega
  have m4 : ¬ w1.heap.size = w.heap.size + 4 := by omega
  go_wp2_with fail
  refine (HF.out _ (zF HB.out _)).mono ?_
  rintro e w2 ⟨rfl, hb⟩
  have bq := (hb.block _ (by simp)).trans (alloc_at (w := w1))
  have hb2 : Below w1.heap.size w1 w2 := zT (zF (zi _ _) _) hb
  clear hb
  have hb := hb2
  have b0 := K0.out
  have b1 := K1.out
  have b2 := K2.out
  have b3 := K3.out
  have b4 := K4.out
  have b0' := (hb.block _ (wheap_lt0 b0)).trans b0
  have b1' := (hb.block _ (wheap_lt0 b1)).trans b1
  have b2' := (hb.block _ (wheap_lt0 b2)).trans b2
  have b3' := (hb.block _ (wheap_lt0 b3)).trans b3
  have b4' := (hb.block _ (wheap_lt0 b4)).trans b4
  clear b0_0 b0_1 b0_2 b0_3 b0_4 b1_0 b1_1 b2_0 b2_1 b2_2 b2_3 b2_4 b3_0 b3_1 b3_2 b3_3 b3_4 b4_0 b4_1
  have b0 := b0'
  have b1 := b1'
  have b2 := b2'
  have b3 := b3'
  have b4 := b4'
  have HB2 := zX (zT HB.out hb)
  clear hb hb2
  have b0_0 : w2.cell? ⟨w.heap.size, 0, none⟩ = _ := (cell_row b0).trans rfl
  have b0_1 : w2.cell? ⟨w.heap.size, 1, none⟩ = _ := (cell_row b0).trans rfl
  have b0_2 : w2.cell? ⟨w.heap.size, 2, none⟩ = _ := (cell_row b0).trans rfl
  have b0_3 : w2.cell? ⟨w.heap.size, 3, none⟩ = _ := (cell_row b0).trans rfl
  have b0_4 : w2.cell? ⟨w.heap.size, 4, none⟩ = _ := (cell_row b0).trans rfl
  have b1_0 : w2.cell? ⟨w.heap.size + 1, 0, none⟩ = _ := (cell_row b1).trans rfl
  have b1_1 : w2.cell? ⟨w.heap.size + 1, 1, none⟩ = _ := (cell_row b1).trans rfl
  have b2_0 : w2.cell? ⟨w.heap.size + 2, 0, none⟩ = _ := (cell_row b2).trans rfl
  have b2_1 : w2.cell? ⟨w.heap.size + 2, 1, none⟩ = _ := (cell_row b2).trans rfl
  have b2_2 : w2.cell? ⟨w.heap.size + 2, 2, none⟩ = _ := (cell_row b2).trans rfl
  have b2_3 : w2.cell? ⟨w.heap.size + 2, 3, none⟩ = _ := (cell_row b2).trans rfl
  have b2_4 : w2.cell? ⟨w.heap.size + 2, 4, none⟩ = _ := (cell_row b2).trans rfl
  have b3_0 : w2.cell? ⟨w.heap.size + 3, 0, none⟩ = _ := (cell_row b3).trans rfl
  have b3_1 : w2.cell? ⟨w.heap.size + 3, 1, none⟩ = _ := (cell_row b3).trans rfl
  have b3_2 : w2.cell? ⟨w.heap.size + 3, 2, none⟩ = _ := (cell_row b3).trans rfl
  have b3_3 : w2.cell? ⟨w.heap.size + 3, 3, none⟩ = _ := (cell_row b3).trans rfl
  have b3_4 : w2.cell? ⟨w.heap.size + 3, 4, none⟩ = _ := (cell_row b3).trans rfl
  have b4_0 : w2.cell? ⟨w.heap.size + 4, 0, none⟩ = _ := (cell_row b4).trans rfl
  have b4_1 : w2.cell? ⟨w.heap.size + 4, 1, none⟩ = _ := (cell_row b4).trans rfl
  have bq_0 : w2.cell? ⟨w1.heap.size, 0, none⟩ = _ := (cell_row bq).trans rfl
  have bq_1 : w2.cell? ⟨w1.heap.size, 1, none⟩ = _ := (cell_row bq).trans rfl
  have bq_2 : w2.cell? ⟨w1.heap.size, 2, none⟩ = _ := (cell_row bq).trans rfl
  have bq_3 : w2.cell? ⟨w1.heap.size, 3, none⟩ = _ := (cell_row bq).trans rfl
  have bq_4 : w2.cell? ⟨w1.heap.size, 4, none⟩ = _ := (cell_row bq).trans rfl
  have LQ := wheap_lt0 bq
  clear bq
  go_wp2_with fail
  refine (wfull _).mono ?_
  rintro e w2' ⟨rfl, rfl⟩
  go_wp2_with fail
  refine (HT.out _ HB2.out).mono ?_
  rintro e w3 ⟨A, c, rfl, hc, hR, hb⟩
  have hL2 := hb.size
  have hB4 := (hb.block _ (wheap_lt0 b4)).trans b4
  have HB3 := zX (zT HB2.out hb)
  have HR := zX hR
  clear hb hR
  clear b0_0 b0_1 b0_2 b0_3 b0_4 b1_0 b1_1 b2_0 b2_1 b2_2 b2_3 b2_4 b3_0 b3_1 b3_2 b3_3 b3_4 b4_0 b4_1 bq_0 bq_1 bq_2 bq_3 bq_4
  have hB4_0 : w3.cell? ⟨w.heap.size + 4, 0, none⟩ = _ := (cell_row hB4).trans rfl
  have hB4_1 : w3.cell? ⟨w.heap.size + 4, 1, none⟩ = _ := (cell_row hB4).trans rfl
  have zf4 : ∀ j, w3.frozen? ⟨w.heap.size + 4, j, none⟩ = false := zI hB4
  have L5 := wheap_lt0 b4
  clear b0 b1 b2 b3 b4 b0' b1' b2' b3' b4' hB4
  have k0 : w.heap.size + 4 < w3.heap.size := by omega
  have k1 : ¬ w3.heap.size = w.heap.size + 4 := by omega
  have k2 : ¬ w.heap.size + 4 = w3.heap.size := by omega
  go_wp2
  have le : w.heap.size ≤ w.heap.size + 4 := by omega
  refine bodyPost_ret (v := .tuple #[.agg #[.slice A 1 c, .slice none 0 0], .bool true]) (by simp [results, Tryd.results20, go_sem, *]) rfl ⟨A, c, rfl, hc, ?_, zF ((HB3.out.setCell le _).setCell le _) _⟩
  have h1 := fun (o : Obj) (a b : Value) => za (wlow (wlow HR.out (show w.heap.size + 4 < w2.heap.size by omega) 0 a) (show w.heap.size + 4 < w2.heap.size by omega) 1 b) o
  exact Kd.R_lower (h1 _ _ _) (by omega)
set_option maxHeartbeats 8000000 in
theorem boscagelaw31_works.calls (r : Bool) (w : World) (hL : LaidU w) (h : boscagelaw31_works.f = some r) :
    Calls Tryd.prog 18 #[] w fun e w' => e = .returned (.bool r) ∧ Below w.heap.size w w' := by
  obtain rfl : true = r := zQ h
  clear h
  have HS := Lib.hid (fun (W : World) (hb : Below w.heap.size w W) => wstep W (laidU_below hL hb))
  have HA := Lib.hid (fun (W : World) (hb : Below w.heap.size w W) (A : Option Addr) (c : Nat) (hc : 1 ≤ c) (hC : Kd.C k65 W A 1 [⟨⟨#[97]⟩, ⟨#[49]⟩⟩]) => wanswer1 W (laidU_below hL hb) A c hc hC)
  clear hL
  go_enter Tryd.func18, Tryd.ntmps18
  go_wp2_with fail
  refine (HS.out _ (by repeat (first | exact zi _ _ | apply zF))).mono ?_
  rintro e w1 ⟨A, c, rfl, hc, hR, hb⟩
  have b0 := (hb.block _ (by simp <;> omega)).trans (wheap2_0 (w := w))
  have HB := zX (show Below w.heap.size w w1 from zT (by repeat (first | exact zi _ _ | apply zF)) hb)
  have HC := zX (Kd.R_reads' hR).2.2
  clear hb hR
  have b0_0 : w1.cell? ⟨w.heap.size, 0, none⟩ = _ := (cell_row b0).trans rfl
  have b0_1 : w1.cell? ⟨w.heap.size, 1, none⟩ = _ := (cell_row b0).trans rfl
  have b0_2 : w1.cell? ⟨w.heap.size, 2, none⟩ = _ := (cell_row b0).trans rfl
  have b0_3 : w1.cell? ⟨w.heap.size, 3, none⟩ = _ := (cell_row b0).trans rfl
  have b0_4 : w1.cell? ⟨w.heap.size, 4, none⟩ = _ := (cell_row b0).trans rfl
  have l0 := wheap_lt0 b0
  have n0 : ¬ w.heap.size = w1.heap.size := by omega
  have m0 : ¬ w1.heap.size = w.heap.size := by omega
  clear b0
  go_wp2_with fail
  refine (HA.out _ (zF HB.out _) A c hc (zZ HC.out (zF (zi _ _) _))).mono ?_
  rintro e w2 ⟨rfl, hb⟩
  have HB2 := zX (zT (zF HB.out _) hb)
  clear hb
  go_wp2
  go_ret
  exact ⟨rfl, zF HB2.out _⟩

/-! ### api_Pair: function 51 -/
def api_Pair.l0 : Nat → List (S65) → List (S65) → Int → Int → Option (Bool)
  | 0, _, _, _, _ => none
  | k + 1, x0, x1, x12, x13 => if x13 < x12 then (if 0 ≤ x13 then (if x13 < (x0.length : Int) then (if x13 < (x1.length : Int) then (if (!((((rd_T65 x0 x13).f0).toList) == (((rd_T65 x1 x13).f0).toList)) || (!((((rd_T65 x0 x13).f1).toList) == (((rd_T65 x1 x13).f1).toList)))) = true then (some false) else (api_Pair.l0 k x0 x1 x12 (wrap64 (x13 + 1)))) else (none)) else (none)) else (none)) else (some true)
def api_Pair.f (k : Nat) (l0 : List (S65)) (l1 : List (S65)) : Option (Bool) := if (l0.length : Int) = (l1.length : Int) then (api_Pair.l0 k l0 l1 (l0.length : Int) 0) else (some false)
set_option maxHeartbeats 8000000 in
set_option maxRecDepth 100000 in
theorem api_Pair.calls (k : Nat) (A0 : Option Addr) (c0 : Nat) (l0 : List (S65)) (A1 : Option Addr) (c1 : Nat) (l1 : List (S65)) (r : Bool) (w : World) (hr0 : Kd.C k65 w A0 l0.length l0) (hc0 : l0.length ≤ c0) (hr1 : Kd.C k65 w A1 l1.length l1) (hc1 : l1.length ≤ c1) (h : api_Pair.f k l0 l1 = some r) :
    Calls Tryd.prog 51 #[.slice A0 l0.length c0, .slice A1 l1.length c1] w fun e w' => e = .returned (.bool r) ∧ Drawn0 w w' := by
  have hu65 := Tryd.underlying65
  have HR0 := zX hr0
  have HC0 := zX hc0
  clear hr0 hc0
  have HR1 := zX hr1
  have HC1 := zX hc1
  clear hr1 hc1
  have H : (if (l0.length : Int) = (l1.length : Int) then (api_Pair.l0 k l0 l1 (l0.length : Int) 0) else (some false)) = some r := h
  clear h
  by_cases c3 : (l0.length : Int) = (l1.length : Int)
  · rw [if_pos c3] at H
    have c3b0 : ((l0.length : Int) == (l1.length : Int)) = true := beq_iff_eq.mpr c3
    have c3b1 : ((l0.length : Int) != (l1.length : Int)) = false := bne_eq_false_iff_eq.mpr c3
    have c3b2 : (l0.length == l1.length) = true := by first | simpa using c3 | (simp at c3 ⊢; omega)
    clear c3
    have H' := zX H
    clear H
    go_enter Tryd.func51, Tryd.ntmps51
    go_wp2
    repeat (go_quiet (fail); try go_wp2)
    go_loopg [13] k (fun kq v13 w' => ∃ (x13_1 : Int), v13 = .int .i64 x13_1 ∧ Aside0 (api_Pair.l0 kq l0 l1 (l0.length : Int) x13_1 = some r) ∧ Aside0 (kq ≤ k) ∧ Drawn0 w w')
    case atStart => exact ⟨(0), (by first | rfl | (simp; done) | (simp [*]; done)), H', ⟨Nat.le_refl _⟩, by repeat (first | exact Drawn0.refl _ | apply Drawn0.step)⟩
    case round =>
      clear H'
      try clear c1
      try clear p2
      try clear c3
      try clear c3b0
      try clear c3b1
      try clear c3b2
      obtain ⟨x13_1, rfl, HA, HK1, ⟨m1, rfl⟩⟩ := hrel
      cases gk with
      | zero => exact absurd HA.out (by simp [api_Pair.l0])
      | succ k1 =>
        have H := HA.out
        clear HA
        simp only [api_Pair.l0] at H
        by_cases c4 : x13_1 < (l0.length : Int)
        · rw [if_pos c4] at H
          have c4b0 : decide (x13_1 < (l0.length : Int)) = true := zW c4
          clear c4
          by_cases c5 : 0 ≤ x13_1
          · rw [if_pos c5] at H
            have c5b0 : decide (0 ≤ x13_1) = true := zW c5
            clear c5
            by_cases c6 : x13_1 < (l0.length : Int)
            · rw [if_pos c6] at H
              have c6b0 : decide (x13_1 < (l0.length : Int)) = true := zW c6
              clear c6
              by_cases c7 : x13_1 < (l1.length : Int)
              · rw [if_pos c7] at H
                have c7b0 : decide (x13_1 < (l1.length : Int)) = true := zW c7
                clear c7
                by_cases c8 : (!((((rd_T65 l0 x13_1).f0).toList) == (((rd_T65 l1 x13_1).f0).toList)) || (!((((rd_T65 l0 x13_1).f1).toList) == (((rd_T65 l1 x13_1).f1).toList)))) = true
                · rw [if_pos c8] at H
                  have c8b0 : (!((((rd_T65 l0 x13_1).f0).toList) == (((rd_T65 l1 x13_1).f0).toList)) || (!((((rd_T65 l0 x13_1).f1).toList) == (((rd_T65 l1 x13_1).f1).toList)))) = true := c8
                  clear c8
                  obtain rfl := zQ H
                  have p230 : 0 ≤ (x13_1 : Int) := zP (by first | (with_reducible assumption) | assumption)
                  have q230 : x13_1 < (l0.length : Int) := zP (by first | (with_reducible assumption) | assumption)
                  obtain ⟨ad230, e230, hx230_0, hx230_1⟩ := at_T65 HR0.out x13_1 p230 q230
                  cases e230
                  replace p230 := eq_true p230
                  replace q230 := eq_true q230
                  have p231 : 0 ≤ (x13_1 : Int) := zP (by first | (with_reducible assumption) | assumption)
                  have q231 : x13_1 < (l1.length : Int) := zP (by first | (with_reducible assumption) | assumption)
                  obtain ⟨ad231, e231, hx231_0, hx231_1⟩ := at_T65 HR1.out x13_1 p231 q231
                  cases e231
                  replace p231 := eq_true p231
                  replace q231 := eq_true q231
                  go_wp2
                  repeat (go_quiet (fail); try go_wp2)
                  go_ret
                  exact ⟨by first | rfl | (simp; done) | (simp [*]; done), by repeat (first | exact Drawn0.refl _ | apply Drawn0.step)⟩
                · rw [if_neg c8] at H
                  have c8b0 : (!((((rd_T65 l0 x13_1).f0).toList) == (((rd_T65 l1 x13_1).f0).toList)) || (!((((rd_T65 l0 x13_1).f1).toList) == (((rd_T65 l1 x13_1).f1).toList)))) = false := by simpa using c8
                  clear c8
                  have H' := zX H
                  clear H
                  have p230 : 0 ≤ (x13_1 : Int) := zP (by first | (with_reducible assumption) | assumption)
                  have q230 : x13_1 < (l0.length : Int) := zP (by first | (with_reducible assumption) | assumption)
                  obtain ⟨ad230, e230, hx230_0, hx230_1⟩ := at_T65 HR0.out x13_1 p230 q230
                  cases e230
                  replace p230 := eq_true p230
                  replace q230 := eq_true q230
                  have p231 : 0 ≤ (x13_1 : Int) := zP (by first | (with_reducible assumption) | assumption)
                  have q231 : x13_1 < (l1.length : Int) := zP (by first | (with_reducible assumption) | assumption)
                  obtain ⟨ad231, e231, hx231_0, hx231_1⟩ := at_T65 HR1.out x13_1 p231 q231
                  cases e231
                  replace p231 := eq_true p231
                  replace q231 := eq_true q231
                  go_wp2
                  repeat (go_quiet (fail); try go_wp2)
                  go_roundg k1
                  case measure => have := HK1.out; omega
                  case rel => exact ⟨(wrap64 (x13_1 + 1)), (by first | rfl | (simp; done) | (simp [*]; done)), H', ⟨by have := HK1.out; omega⟩, by repeat (first | exact Drawn0.refl _ | apply Drawn0.step)⟩
              · rw [if_neg c7] at H
                exact absurd H (by simp)
            · rw [if_neg c6] at H
              exact absurd H (by simp)
          · rw [if_neg c5] at H
            exact absurd H (by simp)
        · rw [if_neg c4] at H
          have c4b0 : decide (x13_1 < (l0.length : Int)) = false := decide_eq_false c4
          clear c4
          obtain rfl := zQ H
          go_wp2
          repeat (go_quiet (fail); try go_wp2)
          go_ret
          exact ⟨by first | rfl | (simp; done) | (simp [*]; done), by repeat (first | exact Drawn0.refl _ | apply Drawn0.step)⟩
  · rw [if_neg c3] at H
    have c3b0 : ((l0.length : Int) == (l1.length : Int)) = false := beq_eq_false_iff_ne.mpr c3
    have c3b1 : ((l0.length : Int) != (l1.length : Int)) = true := bne_iff_ne.mpr c3
    have c3b2 : (l0.length == l1.length) = false := by first | simpa using c3 | (simp at c3 ⊢; omega)
    obtain rfl := zQ H
    go_enter Tryd.func51, Tryd.ntmps51
    go_wp2
    repeat (go_quiet (fail); try go_wp2)
    go_ret
    exact ⟨by first | rfl | (simp; done) | (simp [*]; done), by repeat (first | exact Drawn0.refl _ | apply Drawn0.step)⟩

end Go.Proofs.YthnococjdeafhaaDoor.PModelKeeps
