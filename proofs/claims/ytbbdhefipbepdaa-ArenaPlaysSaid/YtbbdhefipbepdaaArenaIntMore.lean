/- The arena of ints: Get, Set, Live, Used, New, and what none of them does without an arena, over bare cells. -/
import Derived.Test.YtbbdhefipbepdaaArenaInt
import Derived.Laws.MakeOwn
namespace Go.Proofs.Ytbbdhefipbepdaa.ArenaInt
set_option linter.unusedSimpArgs false
set_option linter.unusedVariables false
open Go.RowKit Go.Proofs Go.Proofs.Ytbbdhefipbepdaa.Heap Go.Proofs.Ytbbdhefipbepdaa.Refs Go.Proofs.Ytbbdhefipbepdaa.ArenaM
section
variable {w : World} {p bs n b u c : Nat} {x v0 : Int} {us0 : Bool} {fv : Value} {r : Int} {s : Nat}

/-- What 'at' answers where the reference is live, and where it is not. -/
def AtSome (w : World) (p bs : Nat) (r : Int) (s : Nat) : Prop := Calls Try.prog 63 #[.pointer (some ⟨p, 0, none⟩), .int .i64 r] w fun e w' => e = .returned (.pointer (some ⟨bs, s * 3, none⟩)) ∧ ∃ nq, w' = w.drewN nq
def AtNone (w : World) (p : Nat) (r : Int) : Prop := Calls Try.prog 63 #[.pointer (some ⟨p, 0, none⟩), .int .i64 r] w fun e w' => e = .returned (.pointer none) ∧ ∃ nq, w' = w.drewN nq

set_option maxHeartbeats 1000000 in
theorem live_some (hA : AtSome w p bs r s) : Calls Try.prog 42 #[.pointer (some ⟨p, 0, none⟩), .int .i64 r] w fun e w' => e = .returned (.bool true) ∧ ∃ nq, w' = w.drewN nq := by
  go_enter Try.func42, Try.ntmps42
  go_wp2_with (go_at_call 63; refine hA.mono ?_; rintro e w' ⟨rfl, nq, rfl⟩)
  go_ret
  exact ⟨rfl, nq, rfl⟩
set_option maxHeartbeats 1000000 in
theorem live_none (hA : AtNone w p r) : Calls Try.prog 42 #[.pointer (some ⟨p, 0, none⟩), .int .i64 r] w fun e w' => e = .returned (.bool false) ∧ ∃ nq, w' = w.drewN nq := by
  go_enter Try.func42, Try.ntmps42
  go_wp2_with (go_at_call 63; refine hA.mono ?_; rintro e w' ⟨rfl, nq, rfl⟩)
  go_ret
  exact ⟨rfl, nq, rfl⟩
set_option maxHeartbeats 1000000 in
theorem get_some (hA : AtSome w p bs r s) (c4 : w.cell? ⟨p, 4, none⟩ = some (.bool true)) (s0 : w.cell? ⟨bs, s * 3, none⟩ = some (.int .i64 x)) :
    Calls Try.prog 48 #[.pointer (some ⟨p, 0, none⟩), .int .i64 r] w fun e w' => e = .returned (.tuple #[.int .i64 x, .int .i64 0]) ∧ ∃ nq, w' = w.drewN nq := by
  go_enter Try.func48, Try.ntmps48
  go_wp2_with (first | (go_at_call 63; refine hA.mono ?_; rintro e w' ⟨rfl, nq, rfl⟩) | go_in)
  go_ret2
  exact ⟨rfl, nq, rfl⟩
set_option maxHeartbeats 1000000 in
theorem get_none (hA : AtNone w p r) (c4 : w.cell? ⟨p, 4, none⟩ = some (.bool true)) :
    Calls Try.prog 48 #[.pointer (some ⟨p, 0, none⟩), .int .i64 r] w fun e w' => e = .returned (.tuple #[.int .i64 0, .int .i64 9]) ∧ ∃ nq, w' = w.drewN nq := by
  go_enter Try.func48, Try.ntmps48
  go_wp2_with (first | (go_at_call 63; refine hA.mono ?_; rintro e w' ⟨rfl, nq, rfl⟩) | go_in)
  go_ret2
  exact ⟨rfl, nq, rfl⟩
set_option maxHeartbeats 1000000 in
theorem set_some (hA : AtSome w p bs r s) (c4 : w.cell? ⟨p, 4, none⟩ = some (.bool true)) (s0 : w.cell? ⟨bs, s * 3, none⟩ = some (.int .i64 v0)) (t0 : w.frozen? ⟨bs, s * 3, none⟩ = false) :
    Calls Try.prog 46 #[.pointer (some ⟨p, 0, none⟩), .int .i64 r, .int .i64 x] w fun e w' => e = .returned (.int .i64 0) ∧ ∃ nq, w' = (w.drewN nq).setCell ⟨bs, s * 3, none⟩ (.int .i64 x) := by
  go_enter Try.func46, Try.ntmps46
  go_wp2_with (first | (go_at_call 63; refine hA.mono ?_; rintro e w' ⟨rfl, nq, rfl⟩) | go_in)
  go_ret
  exact ⟨rfl, nq, rfl⟩
set_option maxHeartbeats 1000000 in
theorem set_none (hA : AtNone w p r) (c4 : w.cell? ⟨p, 4, none⟩ = some (.bool true)) :
    Calls Try.prog 46 #[.pointer (some ⟨p, 0, none⟩), .int .i64 r, .int .i64 x] w fun e w' => e = .returned (.int .i64 9) ∧ ∃ nq, w' = w.drewN nq := by
  go_enter Try.func46, Try.ntmps46
  go_wp2_with (first | (go_at_call 63; refine hA.mono ?_; rintro e w' ⟨rfl, nq, rfl⟩) | go_in)
  go_ret
  exact ⟨rfl, nq, rfl⟩
set_option maxHeartbeats 1000000 in
theorem free_none (hA : AtNone w p r) (c4 : w.cell? ⟨p, 4, none⟩ = some (.bool true)) :
    Calls Try.prog 41 #[.pointer (some ⟨p, 0, none⟩), .int .i64 r] w fun e w' => e = .returned (.int .i64 9) ∧ ∃ nq, w' = w.drewN nq := by
  go_enter Try.func41, Try.ntmps41
  go_wp2_with (first | (go_at_call 63; refine hA.mono ?_; rintro e w' ⟨rfl, nq, rfl⟩) | go_in)
  go_ret
  exact ⟨rfl, nq, rfl⟩
set_option maxHeartbeats 1000000 in
theorem used_raw (c3 : w.cell? ⟨p, 3, none⟩ = some (.int .i64 u)) (c4 : w.cell? ⟨p, 4, none⟩ = some (.bool true)) :
    Calls Try.prog 39 #[.pointer (some ⟨p, 0, none⟩)] w fun e w' => e = .returned (.int .i64 u) ∧ w' = w := by
  go_enter Try.func39, Try.ntmps39
  go_wp2
  go_ret
  exact ⟨rfl, rfl⟩

theorem info_slot : (Try.prog.info? 88).map (fun i => (i.zero, i.size, i.bytes)) = some (some (.agg #[.int .i64 0, .int .i64 0, .bool false]), 3, 24) := by kernel_rfl

set_option maxHeartbeats 1000000 in
theorem new_bad (n : Int) (h : n < 0 ∨ 1000 < n) :
    Calls Try.prog 36 #[.int .i64 n] w fun e w' => e = .returned (.tuple #[.pointer none, .int .i64 2]) ∧ w' = w := by
  rcases h with h | h
  · go_enter Try.func36, Try.ntmps36
    go_wp2
    go_ret2
    exact ⟨rfl, rfl⟩
  · have h0 : ¬ n < 0 := by omega
    go_enter Try.func36, Try.ntmps36
    go_wp2
    go_ret2
    exact ⟨rfl, rfl⟩

set_option maxHeartbeats 1000000 in
theorem new_good (n : Nat) (h : n ≤ 1000) :
    Calls Try.prog 36 #[.int .i64 n] w fun e w' => e = .returned (.tuple #[.pointer (some ⟨w.heap.size + 1, 0, none⟩), .int .i64 0]) ∧
      w' = (w.alloc (.cells (madeCells #[.int .i64 0, .int .i64 0, .bool false] (n * 3)) 88)).alloc (.cells #[.slice (some ⟨w.heap.size, 0, none⟩) n n, .slice none 0 0, .int .i64 0, .int .i64 0, .bool true] 83) := by
  obtain ⟨i0, hi, hz0, hz1, hz2⟩ := info_parts info_slot
  have hmk : ∀ w : World, (Instr.makeSlice 81 (.int .i64 (n : Int)) (.int .i64 (n : Int))).run Try.prog w = .ok (.slice (some ⟨w.heap.size, 0, none⟩) n n) (w.alloc (.cells (madeCells #[.int .i64 0, .int .i64 0, .bool false] (n * 3)) 88)) := by
    intro w
    have := run_make (P := Try.prog) w 81 88 i0 _ Try.underlying81 hi hz0 .i64 .i64 (n : Int) (n : Int) (by omega) (Int.le_refl _) (by rw [hz2]; omega) (by omega)
    rw [hz1] at this
    simpa [Value.cells] using this
  clear hi hz0 hz1 hz2
  have h0 : ¬ (n : Int) < 0 := by omega
  have h1 : ¬ (1000 : Int) < (n : Int) := by omega
  go_enter Try.func36, Try.ntmps36
  go_wp2
  go_ret2
  exact ⟨rfl, rfl⟩
end
end Go.Proofs.Ytbbdhefipbepdaa.ArenaInt
