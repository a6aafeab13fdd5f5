/- The pure law of WordBack: for all numbers the printed law function answers true. -/
import Derived.Test.YtbbdhefipbepdaaPWordBackx3
namespace Go.Proofs.Ytbbdhefipbepdaa.Pure
open Go.RowKit Go.Proofs.Ytbbdhefipbepdaa.PWordBack Go.Proofs.YtbbdhefipbepdaaW.PrintWords Go.Proofs.YtbbdhefipbepdaaW.PrintLast

theorem works_true : boscagelaw11_works.f 300 = some true := by decide +kernel

theorem many_tells (n : Int) : word_many.f n = some (decide (1 ≤ n ∧ n ≤ 16)) := by
  unfold word_many.f
  by_cases h : n ≥ 1
  · have : 1 ≤ n := h
    simp [this]
  · have : ¬ 1 ≤ n := by omega
    simp [this]

/-- The kind of a handle's word may be told. -/
theorem kind_ok (k : Nat) (r t i : Int) (hi : -16 ≤ i) (ht : 0 ≤ t ∨ (r = 0 ∧ (t = -1 ∨ t = -2))) : ∃ n, word_Kind.f (k + 2) r t i = some (n, 0) := by
  unfold word_Kind.f
  rw [if_neg (by omega)]
  by_cases h2 : t = -1
  · subst h2
    have : r = 0 := by omega
    subst this
    exact ⟨1, rfl⟩
  · by_cases h4 : t = -2
    · subst h4
      have : r = 0 := by omega
      subst this
      exact ⟨2, rfl⟩
    · have h5 : t ≥ 0 := by omega
      exact ⟨3, by simp [h2, h4, h5, word_Kind.j0, word_Kind.j1]⟩

/-- One round of the loop, and all that are left: from the word of number n = at + (x20 - 1) * h on. -/
theorem loop_true (many h at' : Int) (hm : 0 ≤ many ∧ many < 256) (hh : 1 ≤ h ∧ h ≤ 16) (ha : 0 ≤ at' ∧ at' < h) (d : Nat) :
    ∀ (k : Nat) (x20 r t i : Int), d + 4 ≤ k → 0 ≤ x20 → x20 ≤ many → many - x20 = d → i = at' + (x20 - 1) * h → (0 ≤ t ∨ (r = 0 ∧ (t = -1 ∨ t = -2))) →
      boscagelaw11_WordBack.l0 k many h at' 0 x20 r t i = some true := by
  induction d with
  | zero =>
    intro k x20 r t i hk h0 h1 hd _ _
    obtain ⟨k, rfl⟩ : ∃ m, k = m + 1 := ⟨k - 1, by omega⟩
    simp only [boscagelaw11_WordBack.l0]
    have : wrap64 many = many := by unfold wrap64; omega
    rw [this, if_neg (by omega)]
    rfl
  | succ d ih =>
    intro k x20 r t i hk h0 h1 hd hi ht
    obtain ⟨k, rfl⟩ : ∃ m, k = m + 3 := ⟨k - 3, by omega⟩
    have hmul : 0 ≤ x20 * h ∧ x20 * h ≤ 256 * 16 := by
      constructor
      · exact Int.mul_nonneg h0 (by omega)
      · have := Int.mul_le_mul (show x20 ≤ 256 by omega) hh.2 (by omega) (by omega)
        exact this
    have hi' : i = at' + x20 * h - h := by rw [hi, Int.sub_mul]; omega
    have hw : wrap64 many = many := by unfold wrap64; omega
    have hstep : ∀ m, m = k + 2 → boscagelaw11_WordBack.l0 (m + 1) many h at' 0 x20 r t i = (if x20 < (wrap64 many) then ((word_Next.f m r t i h).bind fun bt139 => ((word_Place.f bt139.1 h).bind fun bt141 => (if (0 : Int) = 0 then (if bt139.2 = 0 then (if bt139.1 = (wrap64 (at' + (wrap64 (x20 * h)))) then (if bt141.2 = true then (if bt141.1 = at' then ((word_Handle.f (wrap64 (1 + (Int.tmod x20 3))) bt139.1 5 x20).bind fun bt143 => (boscagelaw11_WordBack.l0 m many h at' bt143.2.2.2 (wrap64 (x20 + 1)) bt143.1 bt143.2.1 bt143.2.2.1)) else (some false)) else (some false)) else (some false)) else (some false)) else (some false)))) else (some ((0 : Int) == 0))) := fun _ _ => rfl
    rw [hstep (k + 2) rfl, hw, if_pos (by omega)]
    obtain ⟨n, hn⟩ := kind_ok k r t i (by omega) ht
    have hnext : word_Next.f (k + 2) r t i h = some (at' + x20 * h, 0) := by
      unfold word_Next.f
      rw [many_tells, Option.bind_some, hn]
      have e : decide (1 ≤ h ∧ h ≤ 16) = true := decide_eq_true hh
      have e2 : wrap64 (4611686018427387904 - h) = 4611686018427387904 - h := by unfold wrap64; omega
      have e3 : wrap64 (i + h) = at' + x20 * h := by unfold wrap64; omega
      simp only [e, if_true, Option.bind_some, e2, e3]
      rw [if_neg (by omega)]
    have hplace : word_Place.f (at' + x20 * h) h = some (at', true) := by
      unfold word_Place.f
      rw [if_neg (by omega), many_tells, Option.bind_some]
      have e : decide (1 ≤ h ∧ h ≤ 16) = true := decide_eq_true hh
      simp only [e, if_true]
      rw [if_neg (by omega)]
      have e2 : Int.tmod (at' + x20 * h) h = at' := by
        rw [Int.tmod_eq_emod_of_nonneg (by omega), Int.add_mul_emod_self_right, Int.emod_eq_of_lt ha.1 ha.2]
      rw [e2]
    rw [hnext, Option.bind_some]
    simp only [hplace, Option.bind_some, if_true]
    have e4 : wrap64 (x20 * h) = x20 * h := by unfold wrap64; omega
    have e5 : wrap64 (at' + x20 * h) = at' + x20 * h := by unfold wrap64; omega
    rw [e4, e5, if_pos rfl]
    have ht3 : 0 ≤ Int.tmod x20 3 ∧ Int.tmod x20 3 < 3 := by
      rw [Int.tmod_eq_emod_of_nonneg h0]
      exact ⟨Int.emod_nonneg _ (by omega), Int.emod_lt_of_pos _ (by omega)⟩
    have e6 : wrap64 (1 + Int.tmod x20 3) = 1 + Int.tmod x20 3 := by unfold wrap64; omega
    have e7 : wrap64 (x20 + 1) = x20 + 1 := by unfold wrap64; omega
    rw [e6, e7]
    have hnx : at' + x20 * h = at' + (x20 + 1 - 1) * h := by rw [show x20 + 1 - 1 = x20 by omega]
    unfold word_Handle.f
    rw [if_neg (by omega)]
    by_cases c1 : 1 + Int.tmod x20 3 = 1
    · rw [if_pos c1, Option.bind_some]
      exact ih (k + 2) (x20 + 1) 0 (-1) _ (by omega) (by omega) (by omega) (by omega) hnx (by omega)
    · rw [if_neg c1]
      by_cases c2 : 1 + Int.tmod x20 3 = 2
      · rw [if_pos c2, Option.bind_some]
        exact ih (k + 2) (x20 + 1) 0 (-2) _ (by omega) (by omega) (by omega) (by omega) hnx (by omega)
      · rw [if_neg c2, if_pos (by omega), if_pos (by omega), Option.bind_some]
        exact ih (k + 2) (x20 + 1) 5 x20 _ (by omega) (by omega) (by omega) (by omega) hnx (by omega)

theorem WordBack : boscagelaw11_WordBack.Pure := by
  intro a0 a1 a2 a3 a4 w0 w1 w2 w3 w4
  have u2 : 0 ≤ a2 ∧ a2 < 256 := by simp [Lit.wf, IntKind.min, IntKind.max, IntKind.signed, IntKind.bits] at w2; omega
  have u3 : 0 ≤ a3 ∧ a3 < 256 := by simp [Lit.wf, IntKind.min, IntKind.max, IntKind.signed, IntKind.bits] at w3; omega
  have u4 : 0 ≤ a4 ∧ a4 < 256 := by simp [Lit.wf, IntKind.min, IntKind.max, IntKind.signed, IntKind.bits] at w4; omega
  refine ⟨300, ?_⟩
  have hj : boscagelaw11_WordBack.j0 300 a2 a3 a4 false = some true := by
    show boscagelaw11_WordBack.j0 (299 + 1) a2 a3 a4 false = some true
    simp only [boscagelaw11_WordBack.j0]
    have t1 : Int.tmod a3 16 = a3 % 16 := Int.tmod_eq_emod_of_nonneg u3.1
    have t2 : wrap64 (Int.tmod a3 16) = a3 % 16 := by rw [t1]; unfold wrap64; omega
    have t3 : wrap64 (1 + a3 % 16) = 1 + a3 % 16 := by unfold wrap64; omega
    have t4 : wrap64 a2 = a2 := by unfold wrap64; omega
    rw [t2, t3, t4]
    have t5 : Int.tmod a2 (1 + a3 % 16) = a2 % (1 + a3 % 16) := Int.tmod_eq_emod_of_nonneg u2.1
    rw [t5]
    have t6 : 0 ≤ a2 % (1 + a3 % 16) := Int.emod_nonneg _ (by omega)
    have t7 : a2 % (1 + a3 % 16) < 1 + a3 % 16 := Int.emod_lt_of_pos _ (by omega)
    generalize a2 % (1 + a3 % 16) = at' at *
    generalize hh : 1 + a3 % 16 = h at *
    have b : 1 ≤ h ∧ h ≤ 16 := by omega
    rw [if_neg (by simp), if_neg (by omega)]
    have hf : word_First.f at' h = some (0, -1, at' - h, 0) := by
      unfold word_First.f
      rw [many_tells, Option.bind_some]
      have e : decide (1 ≤ h ∧ h ≤ 16) = true := decide_eq_true b
      have e1 : wrap64 (at' - h) = at' - h := by unfold wrap64; omega
      simp only [e, if_true, e1]
      rw [if_neg (by omega), if_neg (by omega)]
      unfold word_Handle.f
      rw [if_neg (by omega)]
      rfl
    rw [hf, Option.bind_some]
    exact loop_true a4 h at' u4 b ⟨t6, t7⟩ a4.toNat 299 0 0 (-1) (at' - h) (by omega) (by omega) (by omega) (by omega) (by simp; omega) (by omega)
  unfold boscagelaw11_WordBack.f
  rw [works_true, Option.bind_some, if_pos rfl]
  unfold word_Note.f
  by_cases c1 : a0 < 0
  · rw [if_pos c1, Option.bind_some]
    unfold word_Noted.f
    simp [hj]
  rw [if_neg c1]
  by_cases c2 : a1 < -1
  · rw [if_pos c2, Option.bind_some]
    unfold word_Noted.f
    simp [hj]
  rw [if_neg c2]
  by_cases c3 : a1 ≥ 4611686018427387904
  · rw [if_pos c3, Option.bind_some]
    unfold word_Noted.f
    simp [hj]
  rw [if_neg c3, Option.bind_some]
  have e1 : wrap64 (a1 + 1) = a1 + 1 := by unfold wrap64; omega
  have e2 : wrap64 (a1 + 1 - 1) = a1 := by unfold wrap64; omega
  unfold word_Noted.f
  simp only [e1, if_true]
  rw [if_neg c1, if_neg (by omega), if_neg (by omega), Option.bind_some, if_pos rfl, if_pos rfl, e2]
  simp [hj]
end Go.Proofs.Ytbbdhefipbepdaa.Pure
