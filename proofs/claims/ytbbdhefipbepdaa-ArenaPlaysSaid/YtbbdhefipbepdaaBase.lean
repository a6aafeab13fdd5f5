/- Package boscagebase: contracts of its small helpers. -/
import Derived.Test.YtbbdhefipbepdaaProg
import Derived.Test.YtbbdhefipbepdaaHeap
import Derived.WalkKit
import Derived.KernelRfl
import Derived.Below
import Derived.Outline
import Derived.IntWalk
import Derived.BigQuiet
import Derived.Deep.QuietTactic
import Derived.Lib.Hide
namespace Go.Proofs.Ytbbdhefipbepdaa.Base
set_option linter.unusedSimpArgs false
set_option linter.unusedVariables false
open Go.RowKit Go.Proofs
/-- Among: a number from 0 on below n. -/
def amongN (x : Int) (n : Nat) : Nat := ((IntKind.u64.wrap x) % (n : Int)).toNat
theorem among_lt (x : Int) (n : Nat) (h : 1 ≤ n) : amongN x n < n := by
  unfold amongN
  have := Int.emod_lt_of_pos (IntKind.u64.wrap x) (show (0 : Int) < n by omega)
  have := Int.emod_nonneg (IntKind.u64.wrap x) (show (n : Int) ≠ 0 by omega)
  omega
theorem among_cast (x : Int) (n : Nat) (h : 1 ≤ n) : ((amongN x n : Nat) : Int) = (IntKind.u64.wrap x) % (n : Int) := by
  unfold amongN
  have := Int.emod_nonneg (IntKind.u64.wrap x) (show (n : Int) ≠ 0 by omega)
  omega
theorem u64_range (x : Int) : 0 ≤ IntKind.u64.wrap x ∧ IntKind.u64.wrap x ≤ 18446744073709551615 := by
  simp [IntKind.wrap, IntKind.signed, IntKind.bits]; omega
set_option maxHeartbeats 1000000 in
theorem among_calls (x : Int) (n : Nat) (w : World) (h1 : 1 ≤ n) (h2 : n ≤ 1000000) :
    Calls Try.prog 40 #[.int .i64 x, .int .i64 n] w fun e w' => e = .returned (.int .i64 (amongN x n)) ∧ w = w' := by
  have hl := among_lt x n h1
  have hc := among_cast x n h1
  have hx := u64_range x
  have hn : IntKind.u64.wrap (n : Int) = n := by simp [IntKind.wrap, IntKind.signed, IntKind.bits]; omega
  have HC := Lib.hid hc
  clear hc
  have h0 : ¬ (n : Int) < 1 := by omega
  have hnz : ((n : Int) == 0) = false := by rw [beq_eq_false_iff_ne]; omega
  go_enter Try.func40, Try.ntmps40
  go_wp2
  go_ret
  have hw : wrap64 (IntKind.u64.wrap x % (n : Int)) = ((amongN x n : Nat) : Int) := by
    rw [← HC.out]; unfold wrap64; omega
  exact ⟨(congrArg (fun z => Ending.returned (Value.int .i64 z)) hw), rfl⟩
theorem among_at {x v : Int} {n : Nat} {w : World} (h : ((amongN x n : Nat) : Int) = v) (h1 : 1 ≤ n) (h2 : n ≤ 1000000) :
    Calls Try.prog 40 #[.int .i64 x, .int .i64 n] w fun e w' => e = .returned (.int .i64 v) ∧ w = w' := h ▸ among_calls x n w h1 h2
theorem among_is {x v m : Int} {n : Nat} {w : World} (h : ((amongN x n : Nat) : Int) = v) (hm : (n : Int) = m) (h1 : 1 ≤ n) (h2 : n ≤ 1000000) :
    Calls Try.prog 40 #[.int .i64 x, .int .i64 m] w fun e w' => e = .returned (.int .i64 v) ∧ w = w' := hm ▸ among_at h h1 h2
end Go.Proofs.Ytbbdhefipbepdaa.Base
