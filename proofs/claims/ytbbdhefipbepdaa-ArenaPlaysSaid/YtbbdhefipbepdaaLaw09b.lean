/- Layer 9: the law ArenaNew: its walk. -/
import Derived.Test.YtbbdhefipbepdaaLaw09a
import Derived.LoopTactic
namespace Go.Proofs.Ytbbdhefipbepdaa.Law09
set_option linter.unusedSimpArgs false
set_option linter.unusedVariables false
open Go.RowKit Go.Proofs Go.Proofs.Ytbbdhefipbepdaa.Heap Go.Proofs.Ytbbdhefipbepdaa.Refs Go.Proofs.Ytbbdhefipbepdaa.ArenaM Go.Proofs.Ytbbdhefipbepdaa.ArenaInt

/-- Behind k Takes of a new arena: nothing was freed, k slots were begun, and are used. -/
structure Full (A : AM Int) (n k : Nat) : Prop where
  n_eq : A.n = n
  freed : A.freed = []
  begun : A.begun = k
  used : A.used = k
theorem Full.next {A : AM Int} {n k : Nat} (h : Full A n k) (hk : k < n) : nextI A = some k := by
  simp [nextI, h.freed, h.begun, h.n_eq, hk]
theorem Full.none {A : AM Int} {n : Nat} (h : Full A n n) : nextI A = none := by
  simp [nextI, h.freed, h.begun, h.n_eq]
theorem Full.take {A : AM Int} {n k : Nat} (h : Full A n k) (x : Int) : Full (taken A k x) n (k + 1) := by
  have e : taken A k x = A.put k x [] (k + 1) := by unfold taken; rw [if_pos h.freed, h.begun]
  rw [e]
  exact ⟨h.n_eq, rfl, rfl, by show A.used + 1 = _; rw [h.used]⟩

set_option maxHeartbeats 1000000 in
theorem new_walk_bad (w : World) (n : Int) (hn : n < 0 ∨ 1000 < n) :
    Calls Try.prog 7 #[.int .i64 n] w fun e w' => e = .returned (.bool true) ∧ Below w.heap.size w w' := by
  have H := Lib.hid hn
  by_cases h0 : n < 0
  · go_enter Try.func7, Try.ntmps7
    go_wp2_with (first
      | (go_at_call 37; refine (works_calls _).mono ?_; rintro e w1 ⟨rfl, hb⟩)
      | (go_at_call 36; refine (new_bad n H.out).mono ?_; rintro e w' ⟨rfl, h⟩; obtain rfl := h))
    go_ret
    exact ⟨rfl, hb⟩
  · have h1 : 1000 < n := by omega
    go_enter Try.func7, Try.ntmps7
    go_wp2_with (first
      | (go_at_call 37; refine (works_calls _).mono ?_; rintro e w1 ⟨rfl, hb⟩)
      | (go_at_call 36; refine (new_bad n H.out).mono ?_; rintro e w' ⟨rfl, h⟩; obtain rfl := h))
    go_ret
    exact ⟨rfl, hb⟩

set_option maxRecDepth 100000 in
set_option maxHeartbeats 2000000 in
theorem new_walk_good (w : World) (n : Nat) (hn : n ≤ 1000) :
    Calls Try.prog 7 #[.int .i64 n] w fun e w' => e = .returned (.bool true) ∧ Below w.heap.size w w' := by
  have h0 : ¬ (n : Int) < 0 := by omega
  have h1 : ¬ (1000 : Int) < n := by omega
  go_enter Try.func7, Try.ntmps7
  go_wp2_with (go_at_call 36; refine (own_new n hn).mono ?_; rintro e w1 ⟨p, bs, fv, rfl, hO⟩)
  go_loopw [5] (fun i wr => ∃ k : Nat, k ≤ n ∧ i = .int .i64 k ∧ ∃ fv A M, Own w.heap.size w wr p bs fv A M ∧ M ≤ k ∧ Full A n k) (fun i _ => n - (intOf i).toNat)
  case atStart => exact ⟨0, Nat.zero_le _, rfl, fv, _, 0, hO, Nat.le_refl _, ⟨rfl, rfl, rfl, rfl⟩⟩
  case round =>
    obtain ⟨k, hk, rfl, fv1, A, M, hA, hM, hF⟩ := hrel
    have HA := Lib.hid hA
    have HF := Lib.hid hF
    clear hA hF hO
    by_cases hkn : k < n
    · go_wp2_with (go_at_call 38; refine (own_take (i := k) HA.out (by omega) (HF.out.next hkn) rfl).mono ?_; rintro e w2 ⟨rfl, fv2, h2⟩)
      have H2 := Lib.hid h2
      clear h2
      go_roundw
      case rel => exact ⟨k + 1, by omega, by go_num, fv2, _, M + 1, H2.out, by omega, HF.out.take _⟩
      case measure => simp [intOf]; omega
    · have : k = n := by omega
      have hF := HF.out
      rw [this] at hF
      have HF2 := Lib.hid hF
      have hu : (A.used : Int) = n := by rw [hF.used]
      have HU := Lib.hid hu
      clear this hF hu
      go_wp2_with (first
        | (go_at_call 38; refine (own_take_full HA.out HF2.out.none).mono ?_; rintro e w2 ⟨rfl, fv2, h2⟩; have H2 := Lib.hid h2; clear h2)
        | (go_at_call 39; refine (c_used H2.out.ar).mono ?_; rw [HU.out]; rintro e w' ⟨rfl, h⟩; obtain rfl := h)
        | (go_at_call 37; refine (works_calls _).mono ?_; rintro e w1 ⟨rfl, hb⟩))
      go_ret
      exact ⟨rfl, H2.out.below.trans (hb.mono H2.out.size)⟩
end Go.Proofs.Ytbbdhefipbepdaa.Law09
