/- The plain law of boscagebase's Itoa: the printed function answers the decimal numeral, for every int. -/
import Derived.Test.YtipdhjdlfdbkiaaDoorPTrapMustx2
import Derived.Lib.ItoaNum
namespace Go.Proofs.YtipdhjdlfdbkiaaDoor.ItoaB
open Go.Proofs.YtipdhjdlfdbkiaaDoorW.PrintWords Go.RowKit
open Go.Proofs.YtipdhjdlfdbkiaaDoor.PTrapMust
/-- The digits of a number; none of 0. -/
def dd (u : Nat) : List UInt8 := if u = 0 then [] else Go.Lib.decDigits u
theorem dd_step (u : Nat) (h : u ≠ 0) : dd u = dd (u / 10) ++ [UInt8.ofNat (48 + u % 10)] := by
  unfold dd
  rw [if_neg h]
  by_cases h10 : u < 10
  · rw [Go.Lib.decDigits, dif_pos h10, if_pos (by omega), Nat.mod_eq_of_lt h10]; rfl
  · rw [Go.Lib.decDigits, dif_neg h10, if_neg (by omega)]
theorem str_one (v : Int) : strOfNums [v] = ⟨#[UInt8.ofNat v.toNat]⟩ := by rfl
theorem cons_app (c : UInt8) (s : ByteArray) : (⟨#[c]⟩ : ByteArray) ++ s = ⟨([c] ++ s.data.toList).toArray⟩ := by
  apply ByteArray.ext
  rw [ByteArray.data_append]
  simp
theorem tdiv_abs (x : Int) : (x.tdiv 10).natAbs = x.natAbs / 10 := by rw [Int.natAbs_tdiv]; rfl
theorem loop (x0 : Int) : ∀ (k : Nat) (x : Int) (s : ByteArray), x.natAbs < 10 ^ k → -9223372036854775808 ≤ x ∧ x ≤ 9223372036854775807 → (x < 0 → x0 < 0) → s.size + k ≤ 30 →
    boscagebase_Itoa.l0 (k + 1) x0 s x = some ⟨((if x0 < 0 then [45] else []) ++ dd x.natAbs ++ s.data.toList).toArray⟩
  | 0, x, s, h, hr, hn, hs => by
    obtain rfl : x = 0 := by simp at h; omega
    simp only [boscagebase_Itoa.l0]
    rw [if_pos trivial]
    split
    · rw [if_pos (by omega), cons_app]; simp [dd]
    · simp [dd]
  | k + 1, x, s, h, hr, hn, hs => by
    by_cases hx : x = 0
    · subst hx
      simp only [boscagebase_Itoa.l0]
      rw [if_pos trivial]
      split
      · rw [if_pos (by omega), cons_app]; simp [dd]
      · simp [dd]
    · have h10 : (x.tdiv 10).natAbs < 10 ^ k := by
        rw [tdiv_abs]
        rw [Nat.pow_succ] at h
        exact (Nat.div_lt_iff_lt_mul (by decide)).2 h
      have hb : -9223372036854775808 ≤ x.tdiv 10 ∧ x.tdiv 10 ≤ 9223372036854775807 := by
        have := tdiv_abs x
        omega
      have hw : wrap64 (x.tdiv 10) = x.tdiv 10 := by unfold wrap64; omega
      have hsg : x.tdiv 10 < 0 → x0 < 0 := fun hh => hn (by
        rcases Int.lt_or_le x 0 with hx0 | hx0
        · exact hx0
        · have := Int.tdiv_nonneg hx0 (show (0:Int) ≤ 10 by decide); omega)
      have ht : (x.tmod 10).natAbs = x.natAbs % 10 := by rw [Int.natAbs_tmod]; rfl
      have key : ∀ v : Int, v.toNat = 48 + x.natAbs % 10 → boscagebase_Itoa.l0 (k + 1) x0 ((strOfNums [v]) ++ s) (wrap64 (x.tdiv 10)) = some ⟨((if x0 < 0 then [45] else []) ++ dd x.natAbs ++ s.data.toList).toArray⟩ := by
        intro v hv
        rw [hw, loop x0 k _ _ h10 hb hsg (by rw [ByteArray.size_append, strOfNums_size, List.length_singleton]; omega), str_one, cons_app, hv, tdiv_abs, dd_step x.natAbs (by omega)]
        simp
      have hsz : ∀ v : Int, (strOfNums [v]).size + s.size ≤ 9223372036854775807 := fun v => by rw [strOfNums_size, List.length_singleton]; omega
      rw [show boscagebase_Itoa.l0 (k + 1 + 1) x0 s x = _ from by simp only [boscagebase_Itoa.l0]; rfl]
      rw [if_neg hx]
      split
      · rw [Option.bind_some, if_pos (hsz _)]
        exact key _ (by unfold wrap64; omega)
      · rw [Option.bind_some, if_pos (hsz _)]
        exact key _ (by unfold wrap64; omega)
theorem itoa_tells (n : Int) (hr : -9223372036854775808 ≤ n ∧ n ≤ 9223372036854775807) : boscagebase_Itoa.f 21 n = some ⟨(Go.Lib.itoa n).toArray⟩ := by
  unfold boscagebase_Itoa.f
  by_cases h : n = 0
  · subst h; rw [if_pos rfl]; decide +kernel
  · rw [if_neg h, loop n 20 n _ (by have : n.natAbs ≤ 9223372036854775808 := by omega
                                    exact Nat.lt_of_le_of_lt this (by decide)) hr id (by decide)]
    have e : (⟨#[]⟩ : ByteArray).data.toList = [] := rfl
    rw [e, List.append_nil]
    unfold Go.Lib.itoa dd
    have h0 : ¬ n.natAbs = 0 := by omega
    rw [if_neg h0]
    by_cases hn : n < 0
    · rw [if_pos hn, if_pos hn]; rfl
    · rw [if_neg hn, if_neg hn, List.nil_append, show n.natAbs = n.toNat by omega]
end Go.Proofs.YtipdhjdlfdbkiaaDoor.ItoaB
