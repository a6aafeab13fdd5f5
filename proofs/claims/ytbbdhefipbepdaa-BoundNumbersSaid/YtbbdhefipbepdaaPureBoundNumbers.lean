/- The pure law of BoundNumbers: for all numbers the printed law function answers true. -/
import Derived.Test.YtbbdhefipbepdaaPBoundNumbersx3
namespace Go.Proofs.Ytbbdhefipbepdaa.Pure
set_option linter.unusedSimpArgs false
open Go.RowKit Go.Proofs.Ytbbdhefipbepdaa.PBoundNumbers Go.Proofs.YtbbdhefipbepdaaW.PrintWords Go.Proofs.YtbbdhefipbepdaaW.PrintLast

theorem within_tells (a b c : Int) : call_within.f a b c = some (decide (b ≤ a ∧ a ≤ c)) := by
  unfold call_within.f
  by_cases h : a ≥ b
  · have : b ≤ a := h
    simp [this]
  · have : ¬ b ≤ a := by omega
    simp [this]

/-- What is wrong with a configuration. -/
def mayS (c0 c1 c2 c3 c4 : Int) : Int :=
  if 1 ≤ c0 ∧ c0 ≤ 3 then (if ((if c0 = 3 then 2 else 0) ≤ c1 ∧ c1 ≤ 1000) ∧ (1 ≤ c2 ∧ c2 ≤ 64) ∧ (0 ≤ c3 ∧ c3 ≤ 16) ∧ ((if c0 = 3 then 1 else 0) ≤ c4 ∧ c4 ≤ 64) then 0 else 2) else 11

theorem may_code (k : Nat) (c0 c1 c2 c3 c4 : Int) : call_May.f (k + 1) c0 c1 c2 c3 c4 = some (mayS c0 c1 c2 c3 c4) := by
  have e : ∀ a b, call_May.j0 (k + 1) a b c0 c1 c2 c3 c4 = some (if 1 ≤ c0 ∧ c0 ≤ 3 then (if (a ≤ c1 ∧ c1 ≤ 1000) ∧ (1 ≤ c2 ∧ c2 ≤ 64) ∧ (0 ≤ c3 ∧ c3 ≤ 16) ∧ (b ≤ c4 ∧ c4 ≤ 64) then 0 else 2) else 11) := by
    intro a b
    simp only [call_May.j0, within_tells, Option.bind_some, decide_eq_true_eq]
    by_cases h0 : 1 ≤ c0 ∧ c0 ≤ 3 <;> by_cases h1 : a ≤ c1 ∧ c1 ≤ 1000 <;> by_cases h2 : 1 ≤ c2 ∧ c2 ≤ 64 <;> by_cases h3 : 0 ≤ c3 ∧ c3 ≤ 16 <;> by_cases h4 : b ≤ c4 ∧ c4 ≤ 64 <;> simp [h0, h1, h2, h3, h4]
  unfold call_May.f mayS
  by_cases h : c0 = 3
  · rw [if_pos h, e]; simp [h]
  · rw [if_neg h, e]; simp [h]

theorem may_ref (k : Nat) (c0 c1 c2 c3 c4 : Int) : boscageref30_May.f (k + 2) c0 c1 c2 c3 c4 = some (mayS c0 c1 c2 c3 c4) := by
  have e1 : ∀ m b, boscageref30_May.j1 (m + 1) b c0 c1 c2 c3 c4 = if b = true then some 2 else (if c0 = 3 then (if c1 < 2 then some 2 else (if c4 < 1 then some 2 else some 0)) else some 0) := fun _ _ => rfl
  unfold boscageref30_May.f mayS
  by_cases a : c0 < 1
  · rw [if_pos a, if_neg (by omega)]; rfl
  rw [if_neg a]
  by_cases b : c0 > 3
  · rw [if_neg (by omega)]
    have : decide (c0 > 3) = true := decide_eq_true b
    rw [this]; rfl
  have hb : decide (c0 > 3) = false := decide_eq_false b
  rw [hb, if_pos (by omega)]
  simp only [boscageref30_May.j0, e1, Bool.false_eq_true, if_false, if_true, decide_eq_true_eq]
  by_cases h3 : c0 = 3
  · simp only [h3, if_true]
    repeat' split
    all_goals first | rfl | (exfalso; omega)
  · simp only [h3, if_false]
    repeat' split
    all_goals first | rfl | (exfalso; omega)

theorem u1 : wrap64 1 = 1 := by unfold wrap64; omega
theorem u2 : wrap64 2 = 2 := by unfold wrap64; omega
theorem u3 : wrap64 3 = 3 := by unfold wrap64; omega
theorem u4 : wrap64 4 = 4 := by unfold wrap64; omega
theorem u5 : wrap64 5 = 5 := by unfold wrap64; omega
theorem product2 (k : Nat) (x y : Int) : bound_product.f (k + 3) [x, y] = some (wrap64 (wrap64 (1 * x) * y)) := by
  simp [bound_product.f, bound_product.l0, rd, u1, u2, u3, u4, u5]
theorem product3 (k : Nat) (x y z : Int) : bound_product.f (k + 4) [x, y, z] = some (wrap64 (wrap64 (wrap64 (1 * x) * y) * z)) := by
  simp [bound_product.f, bound_product.l0, rd, u1, u2, u3, u4, u5]
theorem product5 (k : Nat) (x y z u v : Int) : bound_product.f (k + 6) [x, y, z, u, v] = some (wrap64 (wrap64 (wrap64 (wrap64 (wrap64 (1 * x) * y) * z) * u) * v)) := by
  simp [bound_product.f, bound_product.l0, rd, u1, u2, u3, u4, u5]

theorem levels_list : ∀ b ∈ List.range 65, boscageref04_Levels.f 40 (b : Int) = hash_Levels.f b := by decide +kernel
theorem levels_same (b : Int) (h0 : 0 ≤ b) (h1 : b ≤ 64) : boscageref04_Levels.f 40 b = hash_Levels.f b := by
  obtain ⟨n, rfl⟩ := Int.eq_ofNat_of_zero_le h0
  exact levels_list n (List.mem_range.2 (by omega))
theorem works_true : boscagelaw40_works.f 40 = some true := by decide +kernel
theorem levels_tell (b : Int) : ∃ n, hash_Levels.f b = some n := ⟨_, rfl⟩

theorem BoundNumbers (c0 c1 c2 c3 c4 n : Int) : ∃ k, boscagelaw40_BoundNumbers.f k c0 c1 c2 c3 c4 n = some true := by
  refine ⟨40, ?_⟩
  have hm := may_code 39 c0 c1 c2 c3 c4
  have hr := may_ref 38 c0 c1 c2 c3 c4
  have hm39 := may_code 38 c0 c1 c2 c3 c4
  have hr39 := may_ref 37 c0 c1 c2 c3 c4
  unfold boscagelaw40_BoundNumbers.f
  by_cases hz : mayS c0 c1 c2 c3 c4 = 0
  · rw [hz] at hm hr hm39 hr39
    have hb : 0 ≤ c4 ∧ c4 ≤ 64 := by
      unfold mayS at hz
      by_cases a : 1 ≤ c0 ∧ c0 ≤ 3
      · rw [if_pos a] at hz
        generalize (if c0 = 3 then (2 : Int) else 0) = u at hz
        generalize hv : (if c0 = 3 then (1 : Int) else 0) = v at hz
        have hv0 : 0 ≤ v := by rw [← hv]; split <;> omega
        by_cases b : (u ≤ c1 ∧ c1 ≤ 1000) ∧ (1 ≤ c2 ∧ c2 ≤ 64) ∧ (0 ≤ c3 ∧ c3 ≤ 16) ∧ (v ≤ c4 ∧ c4 ≤ 64)
        · exact ⟨by omega, by omega⟩
        · rw [if_neg b] at hz; omega
      · rw [if_neg a] at hz; omega
    obtain ⟨L, hL⟩ := levels_tell c4
    have hL2 : boscageref04_Levels.f 39 c4 = some L := by
      have key : ∀ b ∈ List.range 65, boscageref04_Levels.f 39 (b : Int) = hash_Levels.f b := by decide +kernel
      obtain ⟨m, rfl⟩ := Int.eq_ofNat_of_zero_le hb.1
      rw [key m (List.mem_range.2 (by omega)), hL]
    have hsteps : bound_Steps.f 40 c0 c1 c2 c3 c4 = (boscageref40_Steps.f c0 c1 c2 c3 c4).bind fun t => some (t, 0) := by
      unfold bound_Steps.f boscageref40_Steps.f
      rw [hm, Option.bind_some, if_pos rfl, product5 34]
      have : wrap64 (1 * 1000) = 1000 := by unfold wrap64; omega
      rw [this]
    have hread : bound_Read.f 40 c0 c1 c2 c3 c4 = (boscageref40_Read.f c0 c1 c2 c3 c4).bind fun t => some (t, 0) := by
      unfold bound_Read.f boscageref40_Read.f
      rw [hm, Option.bind_some, if_pos rfl]
      rfl
    obtain ⟨s, hs⟩ : ∃ s, boscageref40_Steps.f c0 c1 c2 c3 c4 = some s := ⟨_, rfl⟩
    obtain ⟨r, hr0⟩ : ∃ s, boscageref40_Read.f c0 c1 c2 c3 c4 = some s := ⟨_, rfl⟩
    have hnum : bound_number.f 40 c0 c1 c2 c3 c4 n = some (if n < 0 ∨ n > 10000 then 2 else 0) := by
      unfold bound_number.f
      rw [hm, Option.bind_some, if_pos rfl]
      by_cases a : n < 0
      · simp [a]
      · by_cases b : n > 10000 <;> simp [a, b]
    have herr : boscageref40_Err.f 39 c0 c1 c2 c3 c4 n = some (if n < 0 ∨ n > 10000 then 2 else 0) := by
      unfold boscageref40_Err.f
      rw [hr39, Option.bind_some, if_pos rfl]
      by_cases a : n < 0
      · simp [a]
      · by_cases b : n > 10000 <;> simp [a, b]
    by_cases hn : n < 0 ∨ n > 10000
    · rw [if_pos hn] at hnum herr
      have hnodes : bound_Nodes.f 40 c0 c1 c2 c3 c4 n = some (0, 2) := by
        unfold bound_Nodes.f; rw [hnum]; rfl
      have hroom : bound_Room.f 40 c0 c1 c2 c3 c4 n = some (0, 2) := by
        unfold bound_Room.f; rw [hnum]; rfl
      rw [hsteps, hread, hs, hr0, hnodes, hroom, hr]
      simp only [Option.bind_some, if_true, bne_self_eq_false]
      show boscagelaw40_BoundNumbers.j0 (39 + 1) _ _ _ _ _ _ _ _ _ _ _ = _
      simp only [boscagelaw40_BoundNumbers.j0]
      have hw39 : boscagelaw40_works.f 39 = some true := by decide +kernel
      rw [herr, hw39]
      have w : wrap64 0 = 0 := by decide +kernel
      simp [w]
    · rw [if_neg hn] at hnum herr
      have e1 : wrap64 (1 * n) = n := by unfold wrap64; omega
      have hnodes : bound_Nodes.f 40 c0 c1 c2 c3 c4 n = (boscageref40_Nodes.f 39 c0 c1 c2 c3 c4 n).bind fun t => some (t, 0) := by
        unfold bound_Nodes.f boscageref40_Nodes.f
        rw [hnum, Option.bind_some, if_pos rfl, hL, hL2]
        simp only [Option.bind_some]
        by_cases k2 : c0 = 2
        · simp [k2]
        · by_cases k1 : c0 = 1
          · subst k1
            rw [if_neg (by omega), if_pos rfl, product2 37, e1]
            rfl
          · rw [if_neg k2, if_neg k1, if_neg k2, if_neg k1, product2 37, e1]
            rfl
      have hroom : bound_Room.f 40 c0 c1 c2 c3 c4 n = (boscageref40_Room.f 39 c0 c1 c2 c3 c4 n).bind fun t => some (t, 0) := by
        unfold bound_Room.f boscageref40_Room.f
        rw [hnum, Option.bind_some, if_pos rfl, hL, hL2]
        simp only [Option.bind_some]
        by_cases k2 : c0 = 2
        · subst k2
          rw [if_pos rfl, if_pos rfl, product2 37, e1]
        · by_cases k1 : c0 = 1
          · subst k1
            rw [if_neg (by omega), if_pos rfl, product2 37, e1]
            rfl
          · rw [if_neg k2, if_neg k1, if_neg k2, if_neg k1, product3 36, e1]
            rfl
      obtain ⟨x, hx⟩ : ∃ x, boscageref40_Nodes.f 39 c0 c1 c2 c3 c4 n = some x := by
        unfold boscageref40_Nodes.f
        rw [hL2]
        repeat' (first | exact ⟨_, rfl⟩ | split)
      obtain ⟨y, hy⟩ : ∃ x, boscageref40_Room.f 39 c0 c1 c2 c3 c4 n = some x := by
        unfold boscageref40_Room.f
        rw [hL2]
        repeat' (first | exact ⟨_, rfl⟩ | split)
      rw [hsteps, hread, hs, hr0, hnodes, hroom, hr, hx, hy]
      simp only [Option.bind_some, if_true, bne_self_eq_false]
      show boscagelaw40_BoundNumbers.j0 (39 + 1) _ _ _ _ _ _ _ _ _ _ _ = _
      simp only [boscagelaw40_BoundNumbers.j0]
      have hw39 : boscagelaw40_works.f 39 = some true := by decide +kernel
      rw [herr, hw39, hx, hy]
      simp
  · have h1 : bound_Steps.f 40 c0 c1 c2 c3 c4 = some (0, mayS c0 c1 c2 c3 c4) := by
      unfold bound_Steps.f; rw [hm, Option.bind_some, if_neg hz]
    have h2 : bound_Read.f 40 c0 c1 c2 c3 c4 = some (0, mayS c0 c1 c2 c3 c4) := by
      unfold bound_Read.f; rw [hm, Option.bind_some, if_neg hz]
    have hnum : bound_number.f 40 c0 c1 c2 c3 c4 n = some (mayS c0 c1 c2 c3 c4) := by
      unfold bound_number.f; rw [hm, Option.bind_some, if_neg hz]
    have h3 : bound_Nodes.f 40 c0 c1 c2 c3 c4 n = some (0, mayS c0 c1 c2 c3 c4) := by
      unfold bound_Nodes.f; rw [hnum, Option.bind_some, if_neg hz]
    have h4 : bound_Room.f 40 c0 c1 c2 c3 c4 n = some (0, mayS c0 c1 c2 c3 c4) := by
      unfold bound_Room.f; rw [hnum, Option.bind_some, if_neg hz]
    rw [h1, h2, h3, h4, hr]
    simp only [Option.bind_some]
    rw [if_neg hz]
    have w : wrap64 0 = 0 := by decide +kernel
    simp [w, works_true]
end Go.Proofs.Ytbbdhefipbepdaa.Pure
