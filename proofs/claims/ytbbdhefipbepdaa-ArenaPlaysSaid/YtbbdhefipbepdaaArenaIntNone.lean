/- An arena that is none, and one that New did not make: what its methods answer. -/
import Derived.Test.YtbbdhefipbepdaaArenaInt
namespace Go.Proofs.Ytbbdhefipbepdaa.ArenaInt
set_option linter.unusedSimpArgs false
set_option linter.unusedVariables false
open Go.RowKit Go.Proofs Go.Proofs.Ytbbdhefipbepdaa.Heap Go.Proofs.Ytbbdhefipbepdaa.Refs Go.Proofs.Ytbbdhefipbepdaa.ArenaM

/-- The pointer is nil, or the arena there was not made. -/
def NoArena (w : World) (v : Value) : Prop := v = .pointer none ∨ ∃ p, v = .pointer (some ⟨p, 0, none⟩) ∧ w.cell? ⟨p, 4, none⟩ = some (.bool false)
section
variable {w : World} {v : Value} {x r : Int}
set_option maxHeartbeats 1000000 in
theorem none_take (h : NoArena w v) : Calls Try.prog 38 #[v, .int .i64 x] w fun e w' => e = .returned (.tuple #[.int .i64 0, .int .i64 4]) ∧ w' = w := by
  rcases h with rfl | ⟨p, rfl, hc⟩
  · go_enter Try.func38, Try.ntmps38
    go_wp2
    go_ret2
    exact ⟨rfl, rfl⟩
  · go_enter Try.func38, Try.ntmps38
    go_wp2
    go_ret2
    exact ⟨rfl, rfl⟩
set_option maxHeartbeats 1000000 in
theorem none_get (h : NoArena w v) : Calls Try.prog 48 #[v, .int .i64 r] w fun e w' => e = .returned (.tuple #[.int .i64 0, .int .i64 4]) ∧ w' = w := by
  rcases h with rfl | ⟨p, rfl, hc⟩
  · go_enter Try.func48, Try.ntmps48
    go_wp2
    go_ret2
    exact ⟨rfl, rfl⟩
  · go_enter Try.func48, Try.ntmps48
    go_wp2
    go_ret2
    exact ⟨rfl, rfl⟩
set_option maxHeartbeats 1000000 in
theorem none_set (h : NoArena w v) : Calls Try.prog 46 #[v, .int .i64 r, .int .i64 x] w fun e w' => e = .returned (.int .i64 4) ∧ w' = w := by
  rcases h with rfl | ⟨p, rfl, hc⟩
  · go_enter Try.func46, Try.ntmps46
    go_wp2
    go_ret
    exact ⟨rfl, rfl⟩
  · go_enter Try.func46, Try.ntmps46
    go_wp2
    go_ret
    exact ⟨rfl, rfl⟩
set_option maxHeartbeats 1000000 in
theorem none_free (h : NoArena w v) : Calls Try.prog 41 #[v, .int .i64 r] w fun e w' => e = .returned (.int .i64 4) ∧ w' = w := by
  rcases h with rfl | ⟨p, rfl, hc⟩
  · go_enter Try.func41, Try.ntmps41
    go_wp2
    go_ret
    exact ⟨rfl, rfl⟩
  · go_enter Try.func41, Try.ntmps41
    go_wp2
    go_ret
    exact ⟨rfl, rfl⟩
set_option maxHeartbeats 1000000 in
theorem none_live (h : NoArena w v) (hw : -9223372036854775808 ≤ r ∧ r ≤ 9223372036854775807) : Calls Try.prog 42 #[v, .int .i64 r] w fun e w' => e = .returned (.bool false) ∧ w' = w := by
  rcases h with rfl | ⟨p, rfl, hc⟩
  · go_enter Try.func42, Try.ntmps42
    go_wp2_with (first | (go_at_call 62; refine (slot_calls r _ hw).mono ?_; rintro e w' ⟨rfl, rfl⟩) | go_in)
    go_ret
    exact ⟨rfl, rfl⟩
  · go_enter Try.func42, Try.ntmps42
    go_wp2_with (first | (go_at_call 62; refine (slot_calls r _ hw).mono ?_; rintro e w' ⟨rfl, rfl⟩) | go_in)
    go_ret
    exact ⟨rfl, rfl⟩
set_option maxHeartbeats 1000000 in
theorem none_used (h : NoArena w v) : Calls Try.prog 39 #[v] w fun e w' => e = .returned (.int .i64 0) ∧ w' = w := by
  rcases h with rfl | ⟨p, rfl, hc⟩
  · go_enter Try.func39, Try.ntmps39
    go_wp2
    go_ret
    exact ⟨rfl, rfl⟩
  · go_enter Try.func39, Try.ntmps39
    go_wp2
    go_ret
    exact ⟨rfl, rfl⟩
set_option maxHeartbeats 1000000 in
theorem none_all (h : NoArena w v) : Calls Try.prog 51 #[v] w fun e w' => e = .returned (.slice none 0 0) ∧ w' = w := by
  rcases h with rfl | ⟨p, rfl, hc⟩
  · go_enter Try.func51, Try.ntmps51
    go_wp2
    go_ret
    exact ⟨rfl, rfl⟩
  · go_enter Try.func51, Try.ntmps51
    go_wp2
    go_ret
    exact ⟨rfl, rfl⟩
end
end Go.Proofs.Ytbbdhefipbepdaa.ArenaInt
