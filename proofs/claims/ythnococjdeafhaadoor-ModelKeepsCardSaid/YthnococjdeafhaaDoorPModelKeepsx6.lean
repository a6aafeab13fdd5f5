-- printed by a program of the session (wip/hyb/mkprint.py)
import Derived.Test.YthnococjdeafhaaDoorPModelKeepsx0
import Derived.Test.YthnococjdeafhaaDoorPModelKeepsx5
namespace Go.Proofs.YthnococjdeafhaaDoor.PModelKeeps
open Go.RowKit Go.Proofs.YthnococjdeafhaaDoorW.PrintWords Go.Proofs.YthnococjdeafhaaDoorW.PrintLast Go.Proofs.YthnococjdeafhaaDoorW.PrintMore
attribute [local go_sem] max2_int min2_int max_two min_two max_three min_three max_four min_four   -- for this text's walks alone
set_option linter.unusedVariables false
set_option linter.unusedSimpArgs false

/-! ### call_Held: function 28 -/
-- FULL boscage/call.Held
-- NEEDS boscage/call.is
-- KIND rounds=0 making=1 laid=1
def call_Held.f (a0 : Int) : Option Bool := some (usesH a0)
theorem is_same (a0 : Int) (w : World) : Calls Tryd.prog 59 #[.int .i64 a0] w fun e w' => e = .returned (.bool (isOp a0)) ∧ w = w' := by
  by_cases h : 1 ≤ a0
  · by_cases h2 : a0 ≤ 13
    · have e : isOp a0 = true := by unfold isOp; exact zW ⟨h, h2⟩
      rw [e]
      clear e
      have c1 : decide (1 ≤ a0) = true := zW h
      have c2 : decide (a0 ≤ 13) = true := zW h2
      go_enter Tryd.func59, Tryd.ntmps59
      go_wp2
      go_ret
      exact ⟨rfl, rfl⟩
    · have e : isOp a0 = false := by unfold isOp; exact decide_eq_false (by omega)
      rw [e]
      clear e
      have c1 : decide (1 ≤ a0) = true := zW h
      have c2 : decide (a0 ≤ 13) = false := decide_eq_false h2
      go_enter Tryd.func59, Tryd.ntmps59
      go_wp2
      go_ret
      exact ⟨rfl, rfl⟩
  · have e : isOp a0 = false := by unfold isOp; exact decide_eq_false (by omega)
    rw [e]
    clear e
    have c1 : decide (1 ≤ a0) = false := decide_eq_false h
    go_enter Tryd.func59, Tryd.ntmps59
    go_wp2
    go_ret
    exact ⟨rfl, rfl⟩
/-! ### call_Plain: function 79 -/
-- FULL boscage/call.Plain
-- NEEDS boscage/call.is boscage/call.Held
-- KIND rounds=0 making=1 laid=1
def call_Plain.f (a0_0 : Int) (a0_1 a0_2 a0_3 : ByteArray) (a0_4 : Int) : Option (Int × ByteArray × ByteArray × ByteArray × Int) :=
  some (a0_0, if usesK a0_0 = true then a0_1 else ⟨#[]⟩, if usesV a0_0 = true then a0_2 else ⟨#[]⟩, if usesO a0_0 = true then a0_3 else ⟨#[]⟩, if usesH a0_0 = true then a0_4 else 0)
set_option maxHeartbeats 4000000 in
theorem plain_at1 (a1 a2 a3 : ByteArray) (a4 : Int) (w : World) (hL : LaidU w) :
    Calls Tryd.prog 79 #[.agg #[.int .i64 1, .string a1, .string a2, .string a3, .int .i64 a4]] w fun e w' => e = .returned (.agg #[.int .i64 1, .string a1, .string ⟨#[]⟩, .string ⟨#[]⟩, .int .i64 0]) ∧ Below w.heap.size w w' := by
  have c0 : w.cell? ⟨0, 4, none⟩ = some (.bool true) := hL 4 (by decide)
  have c1 : w.cell? ⟨0, 5, none⟩ = some (.bool false) := hL 5 (by decide)
  have c2 : w.cell? ⟨0, 6, none⟩ = some (.bool false) := hL 6 (by decide)
  have c3 : w.cell? ⟨0, 7, none⟩ = some (.bool false) := hL 7 (by decide)
  have hsz : 0 < w.heap.size := zB w _ (hL 0 (by decide))
  have hne : w.heap.size ≠ 0 := by omega
  have hne1 : 0 ≠ w.heap.size := by omega
  clear hL
  have C := zX (fun (W : World) => is_same 1 W)
  rw [show isOp 1 = true from rfl] at C
  go_enter Tryd.func79, Tryd.ntmps79
  go_wp2_with (go_at_call 59; refine (C.out _).mono ?_; rintro e w1 ⟨rfl, rfl⟩)
  refine bodyPost_ret (v := .agg #[.int .i64 1, .string a1, .string ⟨#[]⟩, .string ⟨#[]⟩, .int .i64 0]) (by simp [results, Tryd.results79, go_sem]) rfl ⟨rfl, ?_⟩
  repeat (first | exact zi _ _ | (refine Below.setCell ?_ (by simp) _) | (refine zF ?_ _) | apply zE | apply zG)
set_option maxHeartbeats 4000000 in
theorem plain_at2 (a1 a2 a3 : ByteArray) (a4 : Int) (w : World) (hL : LaidU w) :
    Calls Tryd.prog 79 #[.agg #[.int .i64 2, .string a1, .string a2, .string a3, .int .i64 a4]] w fun e w' => e = .returned (.agg #[.int .i64 2, .string a1, .string a2, .string ⟨#[]⟩, .int .i64 0]) ∧ Below w.heap.size w w' := by
  have c0 : w.cell? ⟨0, 8, none⟩ = some (.bool true) := hL 8 (by decide)
  have c1 : w.cell? ⟨0, 9, none⟩ = some (.bool true) := hL 9 (by decide)
  have c2 : w.cell? ⟨0, 10, none⟩ = some (.bool false) := hL 10 (by decide)
  have c3 : w.cell? ⟨0, 11, none⟩ = some (.bool false) := hL 11 (by decide)
  have hsz : 0 < w.heap.size := zB w _ (hL 0 (by decide))
  have hne : w.heap.size ≠ 0 := by omega
  have hne1 : 0 ≠ w.heap.size := by omega
  clear hL
  have C := zX (fun (W : World) => is_same 2 W)
  rw [show isOp 2 = true from rfl] at C
  go_enter Tryd.func79, Tryd.ntmps79
  go_wp2_with (go_at_call 59; refine (C.out _).mono ?_; rintro e w1 ⟨rfl, rfl⟩)
  refine bodyPost_ret (v := .agg #[.int .i64 2, .string a1, .string a2, .string ⟨#[]⟩, .int .i64 0]) (by simp [results, Tryd.results79, go_sem]) rfl ⟨rfl, ?_⟩
  repeat (first | exact zi _ _ | (refine Below.setCell ?_ (by simp) _) | (refine zF ?_ _) | apply zE | apply zG)
set_option maxHeartbeats 4000000 in
theorem plain_at3 (a1 a2 a3 : ByteArray) (a4 : Int) (w : World) (hL : LaidU w) :
    Calls Tryd.prog 79 #[.agg #[.int .i64 3, .string a1, .string a2, .string a3, .int .i64 a4]] w fun e w' => e = .returned (.agg #[.int .i64 3, .string a1, .string a2, .string ⟨#[]⟩, .int .i64 0]) ∧ Below w.heap.size w w' := by
  have c0 : w.cell? ⟨0, 12, none⟩ = some (.bool true) := hL 12 (by decide)
  have c1 : w.cell? ⟨0, 13, none⟩ = some (.bool true) := hL 13 (by decide)
  have c2 : w.cell? ⟨0, 14, none⟩ = some (.bool false) := hL 14 (by decide)
  have c3 : w.cell? ⟨0, 15, none⟩ = some (.bool false) := hL 15 (by decide)
  have hsz : 0 < w.heap.size := zB w _ (hL 0 (by decide))
  have hne : w.heap.size ≠ 0 := by omega
  have hne1 : 0 ≠ w.heap.size := by omega
  clear hL
  have C := zX (fun (W : World) => is_same 3 W)
  rw [show isOp 3 = true from rfl] at C
  go_enter Tryd.func79, Tryd.ntmps79
  go_wp2_with (go_at_call 59; refine (C.out _).mono ?_; rintro e w1 ⟨rfl, rfl⟩)
  refine bodyPost_ret (v := .agg #[.int .i64 3, .string a1, .string a2, .string ⟨#[]⟩, .int .i64 0]) (by simp [results, Tryd.results79, go_sem]) rfl ⟨rfl, ?_⟩
  repeat (first | exact zi _ _ | (refine Below.setCell ?_ (by simp) _) | (refine zF ?_ _) | apply zE | apply zG)
set_option maxHeartbeats 4000000 in
theorem plain_at4 (a1 a2 a3 : ByteArray) (a4 : Int) (w : World) (hL : LaidU w) :
    Calls Tryd.prog 79 #[.agg #[.int .i64 4, .string a1, .string a2, .string a3, .int .i64 a4]] w fun e w' => e = .returned (.agg #[.int .i64 4, .string a1, .string a2, .string a3, .int .i64 0]) ∧ Below w.heap.size w w' := by
  have c0 : w.cell? ⟨0, 16, none⟩ = some (.bool true) := hL 16 (by decide)
  have c1 : w.cell? ⟨0, 17, none⟩ = some (.bool true) := hL 17 (by decide)
  have c2 : w.cell? ⟨0, 18, none⟩ = some (.bool true) := hL 18 (by decide)
  have c3 : w.cell? ⟨0, 19, none⟩ = some (.bool false) := hL 19 (by decide)
  have hsz : 0 < w.heap.size := zB w _ (hL 0 (by decide))
  have hne : w.heap.size ≠ 0 := by omega
  have hne1 : 0 ≠ w.heap.size := by omega
  clear hL
  have C := zX (fun (W : World) => is_same 4 W)
  rw [show isOp 4 = true from rfl] at C
  go_enter Tryd.func79, Tryd.ntmps79
  go_wp2_with (go_at_call 59; refine (C.out _).mono ?_; rintro e w1 ⟨rfl, rfl⟩)
  refine bodyPost_ret (v := .agg #[.int .i64 4, .string a1, .string a2, .string a3, .int .i64 0]) (by simp [results, Tryd.results79, go_sem]) rfl ⟨rfl, ?_⟩
  repeat (first | exact zi _ _ | (refine Below.setCell ?_ (by simp) _) | (refine zF ?_ _) | apply zE | apply zG)
set_option maxHeartbeats 4000000 in
theorem plain_at5 (a1 a2 a3 : ByteArray) (a4 : Int) (w : World) (hL : LaidU w) :
    Calls Tryd.prog 79 #[.agg #[.int .i64 5, .string a1, .string a2, .string a3, .int .i64 a4]] w fun e w' => e = .returned (.agg #[.int .i64 5, .string a1, .string ⟨#[]⟩, .string ⟨#[]⟩, .int .i64 0]) ∧ Below w.heap.size w w' := by
  have c0 : w.cell? ⟨0, 20, none⟩ = some (.bool true) := hL 20 (by decide)
  have c1 : w.cell? ⟨0, 21, none⟩ = some (.bool false) := hL 21 (by decide)
  have c2 : w.cell? ⟨0, 22, none⟩ = some (.bool false) := hL 22 (by decide)
  have c3 : w.cell? ⟨0, 23, none⟩ = some (.bool false) := hL 23 (by decide)
  have hsz : 0 < w.heap.size := zB w _ (hL 0 (by decide))
  have hne : w.heap.size ≠ 0 := by omega
  have hne1 : 0 ≠ w.heap.size := by omega
  clear hL
  have C := zX (fun (W : World) => is_same 5 W)
  rw [show isOp 5 = true from rfl] at C
  go_enter Tryd.func79, Tryd.ntmps79
  go_wp2_with (go_at_call 59; refine (C.out _).mono ?_; rintro e w1 ⟨rfl, rfl⟩)
  refine bodyPost_ret (v := .agg #[.int .i64 5, .string a1, .string ⟨#[]⟩, .string ⟨#[]⟩, .int .i64 0]) (by simp [results, Tryd.results79, go_sem]) rfl ⟨rfl, ?_⟩
  repeat (first | exact zi _ _ | (refine Below.setCell ?_ (by simp) _) | (refine zF ?_ _) | apply zE | apply zG)
set_option maxHeartbeats 4000000 in
theorem plain_at6 (a1 a2 a3 : ByteArray) (a4 : Int) (w : World) (hL : LaidU w) :
    Calls Tryd.prog 79 #[.agg #[.int .i64 6, .string a1, .string a2, .string a3, .int .i64 a4]] w fun e w' => e = .returned (.agg #[.int .i64 6, .string a1, .string ⟨#[]⟩, .string ⟨#[]⟩, .int .i64 0]) ∧ Below w.heap.size w w' := by
  have c0 : w.cell? ⟨0, 24, none⟩ = some (.bool true) := hL 24 (by decide)
  have c1 : w.cell? ⟨0, 25, none⟩ = some (.bool false) := hL 25 (by decide)
  have c2 : w.cell? ⟨0, 26, none⟩ = some (.bool false) := hL 26 (by decide)
  have c3 : w.cell? ⟨0, 27, none⟩ = some (.bool false) := hL 27 (by decide)
  have hsz : 0 < w.heap.size := zB w _ (hL 0 (by decide))
  have hne : w.heap.size ≠ 0 := by omega
  have hne1 : 0 ≠ w.heap.size := by omega
  clear hL
  have C := zX (fun (W : World) => is_same 6 W)
  rw [show isOp 6 = true from rfl] at C
  go_enter Tryd.func79, Tryd.ntmps79
  go_wp2_with (go_at_call 59; refine (C.out _).mono ?_; rintro e w1 ⟨rfl, rfl⟩)
  refine bodyPost_ret (v := .agg #[.int .i64 6, .string a1, .string ⟨#[]⟩, .string ⟨#[]⟩, .int .i64 0]) (by simp [results, Tryd.results79, go_sem]) rfl ⟨rfl, ?_⟩
  repeat (first | exact zi _ _ | (refine Below.setCell ?_ (by simp) _) | (refine zF ?_ _) | apply zE | apply zG)
set_option maxHeartbeats 4000000 in
theorem plain_at7 (a1 a2 a3 : ByteArray) (a4 : Int) (w : World) (hL : LaidU w) :
    Calls Tryd.prog 79 #[.agg #[.int .i64 7, .string a1, .string a2, .string a3, .int .i64 a4]] w fun e w' => e = .returned (.agg #[.int .i64 7, .string ⟨#[]⟩, .string ⟨#[]⟩, .string ⟨#[]⟩, .int .i64 0]) ∧ Below w.heap.size w w' := by
  have c0 : w.cell? ⟨0, 28, none⟩ = some (.bool false) := hL 28 (by decide)
  have c1 : w.cell? ⟨0, 29, none⟩ = some (.bool false) := hL 29 (by decide)
  have c2 : w.cell? ⟨0, 30, none⟩ = some (.bool false) := hL 30 (by decide)
  have c3 : w.cell? ⟨0, 31, none⟩ = some (.bool false) := hL 31 (by decide)
  have hsz : 0 < w.heap.size := zB w _ (hL 0 (by decide))
  have hne : w.heap.size ≠ 0 := by omega
  have hne1 : 0 ≠ w.heap.size := by omega
  clear hL
  have C := zX (fun (W : World) => is_same 7 W)
  rw [show isOp 7 = true from rfl] at C
  go_enter Tryd.func79, Tryd.ntmps79
  go_wp2_with (go_at_call 59; refine (C.out _).mono ?_; rintro e w1 ⟨rfl, rfl⟩)
  refine bodyPost_ret (v := .agg #[.int .i64 7, .string ⟨#[]⟩, .string ⟨#[]⟩, .string ⟨#[]⟩, .int .i64 0]) (by simp [results, Tryd.results79, go_sem]) rfl ⟨rfl, ?_⟩
  repeat (first | exact zi _ _ | (refine Below.setCell ?_ (by simp) _) | (refine zF ?_ _) | apply zE | apply zG)
set_option maxHeartbeats 4000000 in
theorem plain_at8 (a1 a2 a3 : ByteArray) (a4 : Int) (w : World) (hL : LaidU w) :
    Calls Tryd.prog 79 #[.agg #[.int .i64 8, .string a1, .string a2, .string a3, .int .i64 a4]] w fun e w' => e = .returned (.agg #[.int .i64 8, .string ⟨#[]⟩, .string ⟨#[]⟩, .string ⟨#[]⟩, .int .i64 a4]) ∧ Below w.heap.size w w' := by
  have c0 : w.cell? ⟨0, 32, none⟩ = some (.bool false) := hL 32 (by decide)
  have c1 : w.cell? ⟨0, 33, none⟩ = some (.bool false) := hL 33 (by decide)
  have c2 : w.cell? ⟨0, 34, none⟩ = some (.bool false) := hL 34 (by decide)
  have c3 : w.cell? ⟨0, 35, none⟩ = some (.bool true) := hL 35 (by decide)
  have hsz : 0 < w.heap.size := zB w _ (hL 0 (by decide))
  have hne : w.heap.size ≠ 0 := by omega
  have hne1 : 0 ≠ w.heap.size := by omega
  clear hL
  have C := zX (fun (W : World) => is_same 8 W)
  rw [show isOp 8 = true from rfl] at C
  go_enter Tryd.func79, Tryd.ntmps79
  go_wp2_with (go_at_call 59; refine (C.out _).mono ?_; rintro e w1 ⟨rfl, rfl⟩)
  refine bodyPost_ret (v := .agg #[.int .i64 8, .string ⟨#[]⟩, .string ⟨#[]⟩, .string ⟨#[]⟩, .int .i64 a4]) (by simp [results, Tryd.results79, go_sem]) rfl ⟨rfl, ?_⟩
  repeat (first | exact zi _ _ | (refine Below.setCell ?_ (by simp) _) | (refine zF ?_ _) | apply zE | apply zG)
set_option maxHeartbeats 4000000 in
theorem plain_at9 (a1 a2 a3 : ByteArray) (a4 : Int) (w : World) (hL : LaidU w) :
    Calls Tryd.prog 79 #[.agg #[.int .i64 9, .string a1, .string a2, .string a3, .int .i64 a4]] w fun e w' => e = .returned (.agg #[.int .i64 9, .string a1, .string ⟨#[]⟩, .string ⟨#[]⟩, .int .i64 a4]) ∧ Below w.heap.size w w' := by
  have c0 : w.cell? ⟨0, 36, none⟩ = some (.bool true) := hL 36 (by decide)
  have c1 : w.cell? ⟨0, 37, none⟩ = some (.bool false) := hL 37 (by decide)
  have c2 : w.cell? ⟨0, 38, none⟩ = some (.bool false) := hL 38 (by decide)
  have c3 : w.cell? ⟨0, 39, none⟩ = some (.bool true) := hL 39 (by decide)
  have hsz : 0 < w.heap.size := zB w _ (hL 0 (by decide))
  have hne : w.heap.size ≠ 0 := by omega
  have hne1 : 0 ≠ w.heap.size := by omega
  clear hL
  have C := zX (fun (W : World) => is_same 9 W)
  rw [show isOp 9 = true from rfl] at C
  go_enter Tryd.func79, Tryd.ntmps79
  go_wp2_with (go_at_call 59; refine (C.out _).mono ?_; rintro e w1 ⟨rfl, rfl⟩)
  refine bodyPost_ret (v := .agg #[.int .i64 9, .string a1, .string ⟨#[]⟩, .string ⟨#[]⟩, .int .i64 a4]) (by simp [results, Tryd.results79, go_sem]) rfl ⟨rfl, ?_⟩
  repeat (first | exact zi _ _ | (refine Below.setCell ?_ (by simp) _) | (refine zF ?_ _) | apply zE | apply zG)
set_option maxHeartbeats 4000000 in
theorem plain_at10 (a1 a2 a3 : ByteArray) (a4 : Int) (w : World) (hL : LaidU w) :
    Calls Tryd.prog 79 #[.agg #[.int .i64 10, .string a1, .string a2, .string a3, .int .i64 a4]] w fun e w' => e = .returned (.agg #[.int .i64 10, .string ⟨#[]⟩, .string ⟨#[]⟩, .string ⟨#[]⟩, .int .i64 a4]) ∧ Below w.heap.size w w' := by
  have c0 : w.cell? ⟨0, 40, none⟩ = some (.bool false) := hL 40 (by decide)
  have c1 : w.cell? ⟨0, 41, none⟩ = some (.bool false) := hL 41 (by decide)
  have c2 : w.cell? ⟨0, 42, none⟩ = some (.bool false) := hL 42 (by decide)
  have c3 : w.cell? ⟨0, 43, none⟩ = some (.bool true) := hL 43 (by decide)
  have hsz : 0 < w.heap.size := zB w _ (hL 0 (by decide))
  have hne : w.heap.size ≠ 0 := by omega
  have hne1 : 0 ≠ w.heap.size := by omega
  clear hL
  have C := zX (fun (W : World) => is_same 10 W)
  rw [show isOp 10 = true from rfl] at C
  go_enter Tryd.func79, Tryd.ntmps79
  go_wp2_with (go_at_call 59; refine (C.out _).mono ?_; rintro e w1 ⟨rfl, rfl⟩)
  refine bodyPost_ret (v := .agg #[.int .i64 10, .string ⟨#[]⟩, .string ⟨#[]⟩, .string ⟨#[]⟩, .int .i64 a4]) (by simp [results, Tryd.results79, go_sem]) rfl ⟨rfl, ?_⟩
  repeat (first | exact zi _ _ | (refine Below.setCell ?_ (by simp) _) | (refine zF ?_ _) | apply zE | apply zG)
set_option maxHeartbeats 4000000 in
theorem plain_at11 (a1 a2 a3 : ByteArray) (a4 : Int) (w : World) (hL : LaidU w) :
    Calls Tryd.prog 79 #[.agg #[.int .i64 11, .string a1, .string a2, .string a3, .int .i64 a4]] w fun e w' => e = .returned (.agg #[.int .i64 11, .string a1, .string ⟨#[]⟩, .string ⟨#[]⟩, .int .i64 a4]) ∧ Below w.heap.size w w' := by
  have c0 : w.cell? ⟨0, 44, none⟩ = some (.bool true) := hL 44 (by decide)
  have c1 : w.cell? ⟨0, 45, none⟩ = some (.bool false) := hL 45 (by decide)
  have c2 : w.cell? ⟨0, 46, none⟩ = some (.bool false) := hL 46 (by decide)
  have c3 : w.cell? ⟨0, 47, none⟩ = some (.bool true) := hL 47 (by decide)
  have hsz : 0 < w.heap.size := zB w _ (hL 0 (by decide))
  have hne : w.heap.size ≠ 0 := by omega
  have hne1 : 0 ≠ w.heap.size := by omega
  clear hL
  have C := zX (fun (W : World) => is_same 11 W)
  rw [show isOp 11 = true from rfl] at C
  go_enter Tryd.func79, Tryd.ntmps79
  go_wp2_with (go_at_call 59; refine (C.out _).mono ?_; rintro e w1 ⟨rfl, rfl⟩)
  refine bodyPost_ret (v := .agg #[.int .i64 11, .string a1, .string ⟨#[]⟩, .string ⟨#[]⟩, .int .i64 a4]) (by simp [results, Tryd.results79, go_sem]) rfl ⟨rfl, ?_⟩
  repeat (first | exact zi _ _ | (refine Below.setCell ?_ (by simp) _) | (refine zF ?_ _) | apply zE | apply zG)
set_option maxHeartbeats 4000000 in
theorem plain_at12 (a1 a2 a3 : ByteArray) (a4 : Int) (w : World) (hL : LaidU w) :
    Calls Tryd.prog 79 #[.agg #[.int .i64 12, .string a1, .string a2, .string a3, .int .i64 a4]] w fun e w' => e = .returned (.agg #[.int .i64 12, .string ⟨#[]⟩, .string ⟨#[]⟩, .string ⟨#[]⟩, .int .i64 a4]) ∧ Below w.heap.size w w' := by
  have c0 : w.cell? ⟨0, 48, none⟩ = some (.bool false) := hL 48 (by decide)
  have c1 : w.cell? ⟨0, 49, none⟩ = some (.bool false) := hL 49 (by decide)
  have c2 : w.cell? ⟨0, 50, none⟩ = some (.bool false) := hL 50 (by decide)
  have c3 : w.cell? ⟨0, 51, none⟩ = some (.bool true) := hL 51 (by decide)
  have hsz : 0 < w.heap.size := zB w _ (hL 0 (by decide))
  have hne : w.heap.size ≠ 0 := by omega
  have hne1 : 0 ≠ w.heap.size := by omega
  clear hL
  have C := zX (fun (W : World) => is_same 12 W)
  rw [show isOp 12 = true from rfl] at C
  go_enter Tryd.func79, Tryd.ntmps79
  go_wp2_with (go_at_call 59; refine (C.out _).mono ?_; rintro e w1 ⟨rfl, rfl⟩)
  refine bodyPost_ret (v := .agg #[.int .i64 12, .string ⟨#[]⟩, .string ⟨#[]⟩, .string ⟨#[]⟩, .int .i64 a4]) (by simp [results, Tryd.results79, go_sem]) rfl ⟨rfl, ?_⟩
  repeat (first | exact zi _ _ | (refine Below.setCell ?_ (by simp) _) | (refine zF ?_ _) | apply zE | apply zG)
set_option maxHeartbeats 4000000 in
theorem plain_at13 (a1 a2 a3 : ByteArray) (a4 : Int) (w : World) (hL : LaidU w) :
    Calls Tryd.prog 79 #[.agg #[.int .i64 13, .string a1, .string a2, .string a3, .int .i64 a4]] w fun e w' => e = .returned (.agg #[.int .i64 13, .string ⟨#[]⟩, .string ⟨#[]⟩, .string ⟨#[]⟩, .int .i64 0]) ∧ Below w.heap.size w w' := by
  have c0 : w.cell? ⟨0, 52, none⟩ = some (.bool false) := hL 52 (by decide)
  have c1 : w.cell? ⟨0, 53, none⟩ = some (.bool false) := hL 53 (by decide)
  have c2 : w.cell? ⟨0, 54, none⟩ = some (.bool false) := hL 54 (by decide)
  have c3 : w.cell? ⟨0, 55, none⟩ = some (.bool false) := hL 55 (by decide)
  have hsz : 0 < w.heap.size := zB w _ (hL 0 (by decide))
  have hne : w.heap.size ≠ 0 := by omega
  have hne1 : 0 ≠ w.heap.size := by omega
  clear hL
  have C := zX (fun (W : World) => is_same 13 W)
  rw [show isOp 13 = true from rfl] at C
  go_enter Tryd.func79, Tryd.ntmps79
  go_wp2_with (go_at_call 59; refine (C.out _).mono ?_; rintro e w1 ⟨rfl, rfl⟩)
  refine bodyPost_ret (v := .agg #[.int .i64 13, .string ⟨#[]⟩, .string ⟨#[]⟩, .string ⟨#[]⟩, .int .i64 0]) (by simp [results, Tryd.results79, go_sem]) rfl ⟨rfl, ?_⟩
  repeat (first | exact zi _ _ | (refine Below.setCell ?_ (by simp) _) | (refine zF ?_ _) | apply zE | apply zG)
set_option maxHeartbeats 4000000 in
theorem plain_none (a0 : Int) (a1 a2 a3 : ByteArray) (a4 : Int) (w : World) (hL : LaidU w) (hin : ¬ (1 ≤ a0 ∧ a0 ≤ 13)) :
    Calls Tryd.prog 79 #[.agg #[.int .i64 a0, .string a1, .string a2, .string a3, .int .i64 a4]] w fun e w' => e = .returned (.agg #[.int .i64 a0, .string ⟨#[]⟩, .string ⟨#[]⟩, .string ⟨#[]⟩, .int .i64 0]) ∧ Below w.heap.size w w' := by
  have hsz : 0 < w.heap.size := zB w _ (hL 0 (by decide))
  have hne : w.heap.size ≠ 0 := by omega
  have hne1 : 0 ≠ w.heap.size := by omega
  clear hL
  have C := zX (fun (W : World) => is_same a0 W)
  rw [show isOp a0 = false by unfold isOp; exact decide_eq_false hin] at C
  clear hin
  go_enter Tryd.func79, Tryd.ntmps79
  go_wp2_with (go_at_call 59; refine (C.out _).mono ?_; rintro e w1 ⟨rfl, rfl⟩)
  refine bodyPost_ret (v := .agg #[.int .i64 a0, .string ⟨#[]⟩, .string ⟨#[]⟩, .string ⟨#[]⟩, .int .i64 0]) (by simp [results, Tryd.results79, go_sem]) rfl ⟨rfl, ?_⟩
  repeat (first | exact zi _ _ | (refine Below.setCell ?_ (by simp) _) | (refine zF ?_ _) | apply zE | apply zG)
set_option maxHeartbeats 4000000 in
theorem call_Plain.calls (a0_0 : Int) (a0_1 : ByteArray) (a0_2 : ByteArray) (a0_3 : ByteArray) (a0_4 : Int) (r1 : Int) (r2 : ByteArray) (r3 : ByteArray) (r4 : ByteArray) (r5 : Int) (w : World) (hL : LaidU w) (h : call_Plain.f a0_0 a0_1 a0_2 a0_3 a0_4 = some (r1, r2, r3, r4, r5)) :
    Calls Tryd.prog 79 #[.agg #[.int .i64 a0_0, .string a0_1, .string a0_2, .string a0_3, .int .i64 a0_4]] w fun e w' => e = .returned (.agg #[.int .i64 r1, .string r2, .string r3, .string r4, .int .i64 r5]) ∧ Below w.heap.size w w' := by
  unfold call_Plain.f at h
  simp only [Option.some.injEq, Prod.mk.injEq] at h
  obtain ⟨rfl, rfl, rfl, rfl, rfl⟩ := h
  by_cases hin : 1 ≤ a0_0 ∧ a0_0 ≤ 13
  · have hop : a0_0 = 1 ∨ a0_0 = 2 ∨ a0_0 = 3 ∨ a0_0 = 4 ∨ a0_0 = 5 ∨ a0_0 = 6 ∨ a0_0 = 7 ∨ a0_0 = 8 ∨ a0_0 = 9 ∨ a0_0 = 10 ∨ a0_0 = 11 ∨ a0_0 = 12 ∨ a0_0 = 13 := by omega
    clear hin
    rcases hop with rfl | rfl | rfl | rfl | rfl | rfl | rfl | rfl | rfl | rfl | rfl | rfl | rfl
    · exact plain_at1 a0_1 a0_2 a0_3 a0_4 w hL
    · exact plain_at2 a0_1 a0_2 a0_3 a0_4 w hL
    · exact plain_at3 a0_1 a0_2 a0_3 a0_4 w hL
    · exact plain_at4 a0_1 a0_2 a0_3 a0_4 w hL
    · exact plain_at5 a0_1 a0_2 a0_3 a0_4 w hL
    · exact plain_at6 a0_1 a0_2 a0_3 a0_4 w hL
    · exact plain_at7 a0_1 a0_2 a0_3 a0_4 w hL
    · exact plain_at8 a0_1 a0_2 a0_3 a0_4 w hL
    · exact plain_at9 a0_1 a0_2 a0_3 a0_4 w hL
    · exact plain_at10 a0_1 a0_2 a0_3 a0_4 w hL
    · exact plain_at11 a0_1 a0_2 a0_3 a0_4 w hL
    · exact plain_at12 a0_1 a0_2 a0_3 a0_4 w hL
    · exact plain_at13 a0_1 a0_2 a0_3 a0_4 w hL
  · have e1 : usesK a0_0 = false := by unfold usesK; exact decide_eq_false (by omega)
    have e2 : usesV a0_0 = false := by unfold usesV; exact decide_eq_false (by omega)
    have e3 : usesO a0_0 = false := by unfold usesO; exact decide_eq_false (by omega)
    have e4 : usesH a0_0 = false := by unfold usesH; exact decide_eq_false (by omega)
    rw [e1, e2, e3, e4]
    exact plain_none a0_0 a0_1 a0_2 a0_3 a0_4 w hL hin

end Go.Proofs.YthnococjdeafhaaDoor.PModelKeeps
