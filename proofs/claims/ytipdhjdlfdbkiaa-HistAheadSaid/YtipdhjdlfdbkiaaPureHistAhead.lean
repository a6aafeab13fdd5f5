/- The plain law of HistAhead: what the printed functions compute answers true. -/
import Derived.Test.YtipdhjdlfdbkiaaPHistAheadx
namespace Go.Proofs.Ytipdhjdlfdbkiaa.PHistAhead
open Go.RowKit Go.Proofs.YtipdhjdlfdbkiaaW.PrintWords Go.Proofs.YtipdhjdlfdbkiaaW.PrintLast Go.Proofs.YtipdhjdlfdbkiaaW.PrintMore
/-! The plain law of a history: words over its events. -/
def ev (h : List S127) (j : Nat) : S127 := rd_T127 h (j : Int)
def lastN (h : List S127) (t : Int) : Nat → Option Nat
  | 0 => none
  | n + 1 => if (ev h n).f1 = t then some n else lastN h t n
def errN (h : List S127) (k : Nat) : Int :=
  if (ev h k).f1 < 0 ∨ 63 < (ev h k).f1 then 2 else
  match lastN h (ev h k).f1 k with
  | some j => if (ev h j).f0 = (ev h k).f0 then 4 else
      if (ev h k).f0 = true then (if difC (ev h j).f2 (ev h k).f2 = true then 4 else 0) else (if difA (ev h k).f3 = true then 4 else 0)
  | none => if (ev h k).f0 = true then 4 else (if difA (ev h k).f3 = true then 4 else 0)
def mayN (h : List S127) : Nat → Nat → Int
  | 0, _ => 0
  | r + 1, k => if errN h k = 0 then mayN h r (k + 1) else errN h k
def firstM (h : List S127) (t : Int) : Nat → Nat → Option Nat
  | 0, _ => none
  | n + 1, a => if (ev h a).f0 = true ∧ (ev h a).f1 = t then some a else firstM h t n (a + 1)
def opOf (h : List S127) (j : Nat) : Option Nat → S78
  | none => opNew (ev h j) j h.length
  | some m => opEnd (opNew (ev h j) j h.length) (ev h m).f3 m
def opAt (h : List S127) (k j : Nat) : S78 := opOf h j (firstM h (ev h j).f1 (k - (j + 1)) (j + 1))
def opsTo (h : List S127) (k : Nat) : Nat → List S78
  | 0 => []
  | m + 1 => if (ev h m).f0 = true then opsTo h k m else opsTo h k m ++ [opAt h k m]
def cnt (h : List S127) : Nat → Nat
  | 0 => 0
  | m + 1 => if (ev h m).f0 = true then cnt h m else cnt h m + 1
theorem lastN_some {h : List S127} {t : Int} {j : Nat} : ∀ {n : Nat}, lastN h t n = some j → j < n ∧ (ev h j).f1 = t
  | 0, e => by cases e
  | n + 1, e => by
    unfold lastN at e
    split at e
    case isTrue h' => cases e; exact ⟨Nat.lt_succ_self _, h'⟩
    case isFalse => have := lastN_some e; exact ⟨by omega, this.2⟩
theorem lastN_after {h : List S127} {t : Int} {j : Nat} : ∀ {n : Nat}, lastN h t n = some j → ∀ i, j < i → i < n → (ev h i).f1 ≠ t
  | 0, e, _, _, _ => by cases e
  | n + 1, e, i, h1, h2 => by
    unfold lastN at e
    split at e
    case isTrue h' => cases e; omega
    case isFalse h' =>
      rcases Nat.lt_or_ge i n with h3 | h3
      · exact lastN_after e i h1 h3
      · obtain rfl : i = n := by omega
        exact h'
theorem firstM_none {h : List S127} {t : Int} : ∀ {n a : Nat}, (∀ i, a ≤ i → i < a + n → (ev h i).f1 ≠ t) → firstM h t n a = none
  | 0, _, _ => rfl
  | n + 1, a, H => by
    rw [firstM, if_neg (fun h' => H a (Nat.le_refl _) (by omega) h'.2)]
    exact firstM_none (fun i h1 h2 => H i (by omega) (by omega))
theorem firstM_ext (h : List S127) (t : Int) : ∀ n a, firstM h t (n + 1) a = match firstM h t n a with
    | some m => some m
    | none => if (ev h (a + n)).f0 = true ∧ (ev h (a + n)).f1 = t then some (a + n) else none
  | 0, a => by simp [firstM]
  | n + 1, a => by
    rw [firstM, firstM_ext h t n (a + 1)]
    conv => rhs; rw [firstM]
    rw [show a + 1 + n = a + (n + 1) by omega]
    split
    · rfl
    · rfl
theorem opsTo_congr {h : List S127} {k k' : Nat} : ∀ {m : Nat}, (∀ j, j < m → (ev h j).f0 = false → opAt h k j = opAt h k' j) → opsTo h k m = opsTo h k' m
  | 0, _ => rfl
  | m + 1, H => by
    unfold opsTo
    rw [opsTo_congr (fun j hj => H j (by omega))]
    split
    · rfl
    · rename_i h'; rw [H m (by omega) (by simpa using h')]
theorem opsTo_len {h : List S127} {k : Nat} : ∀ m, (opsTo h k m).length = cnt h m
  | 0 => rfl
  | m + 1 => by
    unfold opsTo cnt
    split
    · exact opsTo_len m
    · rw [List.length_append, opsTo_len m]; rfl
theorem cnt_succ (h : List S127) (m : Nat) : cnt h (m + 1) = if (ev h m).f0 = true then cnt h m else cnt h m + 1 := rfl
theorem cnt_mono {h : List S127} {j : Nat} : ∀ {m : Nat}, j < m → (ev h j).f0 = false → cnt h j < cnt h m
  | 0, hj, _ => by omega
  | m + 1, hj, hf => by
    rcases Nat.lt_or_ge j m with h' | h'
    · have := cnt_mono (m := m) h' hf
      rw [cnt_succ]; split <;> omega
    · obtain rfl : j = m := by omega
      rw [cnt_succ, if_neg (by simp [hf])]
      exact Nat.lt_succ_self _
theorem opsTo_at {h : List S127} {k j : Nat} : ∀ {m : Nat}, j < m → (ev h j).f0 = false → (opsTo h k m)[cnt h j]? = some (opAt h k j)
  | 0, hj, _ => by omega
  | m + 1, hj, hf => by
    rcases Nat.lt_or_ge j m with h' | h'
    · have h1 := opsTo_at (k := k) (m := m) h' hf
      have h2 : cnt h j < (opsTo h k m).length := by rw [opsTo_len]; exact cnt_mono h' hf
      unfold opsTo
      split
      · exact h1
      · rw [List.getElem?_append_left h2]; exact h1
    · obtain rfl : j = m := by omega
      unfold opsTo
      rw [if_neg (by simp [hf]), List.getElem?_append_right (by rw [opsTo_len]; exact Nat.le_refl _), opsTo_len, Nat.sub_self]; rfl
theorem opsTo_set {h : List S127} {k k' j : Nat} : ∀ {m : Nat}, j < m → (ev h j).f0 = false → (∀ i, i < m → i ≠ j → (ev h i).f0 = false → opAt h k i = opAt h k' i) →
    opsTo h k' m = (opsTo h k m).set (cnt h j) (opAt h k' j)
  | 0, hj, _, _ => by omega
  | m + 1, hj, hf, H => by
    rcases Nat.lt_or_ge j m with h' | h'
    · have h1 := opsTo_set (m := m) h' hf (fun i hi => H i (by omega))
      have h2 : cnt h j < (opsTo h k m).length := by rw [opsTo_len]; exact cnt_mono h' hf
      unfold opsTo
      split
      · exact h1
      · rename_i hm
        rw [List.set_append_left _ _ h2, h1, H m (by omega) (by omega) (by simpa using hm)]
    · obtain rfl : j = m := by omega
      unfold opsTo
      rw [if_neg (by simp [hf]), if_neg (by simp [hf]), List.set_append_right _ _ (by rw [opsTo_len]; exact Nat.le_refl _), opsTo_len, Nat.sub_self,
        opsTo_congr (fun i hi hif => (H i (by omega) (by omega) hif).symm)]
      rfl
/-- What a reader holds after the first k events. -/
structure Inv (h : List S127) (k : Nat) (s : RS) : Prop where
  ops : s.ops = opsTo h k k
  opn : ∀ t i, s.opn t = some i → ∃ j, lastN h t k = some j ∧ (ev h j).f0 = false ∧ i = cnt h j
  pnd : ∀ t j, lastN h t k = some j → (ev h j).f0 = false → s.opn t = some (cnt h j)
  alt : ∀ j, j < k → (ev h j).f0 = false → firstM h (ev h j).f1 (k - (j + 1)) (j + 1) = none → lastN h (ev h j).f1 k = some j
theorem Inv.start (h : List S127) : Inv h 0 RS.none :=
  ⟨rfl, fun t i e => by simp [RS.none] at e, fun t j e => by simp [lastN] at e, fun j hj => by omega⟩
theorem opAt_same {h : List S127} {k j : Nat} (hj : j < k) (hn : ¬((ev h k).f0 = true ∧ (ev h k).f1 = (ev h j).f1)) : opAt h (k + 1) j = opAt h k j := by
  unfold opAt
  rw [show k + 1 - (j + 1) = (k - (j + 1)) + 1 by omega, firstM_ext, show j + 1 + (k - (j + 1)) = k by omega, if_neg hn]
  split <;> simp_all
theorem Inv.new {h : List S127} {k : Nat} {s : RS} (I : Inv h k s) (hf : (ev h k).f0 = false) (hn : s.opn (ev h k).f1 = none) :
    Inv h (k + 1) ⟨s.ops ++ [opNew (ev h k) k h.length], RS.set s.opn (ev h k).f1 (some s.ops.length)⟩ := by
  refine ⟨?_, ?_, ?_, ?_⟩
  · show s.ops ++ _ = _
    rw [opsTo, if_neg (by simp [hf]), I.ops, opsTo_congr (k := k + 1) (k' := k) (fun j hj _ => opAt_same hj (by simp [hf]))]
    congr 2
    unfold opAt
    rw [Nat.sub_self]; rfl
  · intro t i e
    simp only [RS.set] at e
    split at e
    · rename_i ht
      subst ht
      cases e
      refine ⟨k, by simp [lastN], hf, by rw [I.ops, opsTo_len]⟩
    · rename_i ht
      obtain ⟨j, h1, h2, h3⟩ := I.opn t i e
      exact ⟨j, by rw [lastN, if_neg (fun h' => ht h'.symm)]; exact h1, h2, h3⟩
  · intro t j e hj
    simp only [RS.set]
    rw [lastN] at e
    split at e
    · rename_i ht
      cases e
      rw [if_pos ht.symm, I.ops, opsTo_len]
    · rename_i ht
      rw [if_neg (fun h' => ht h'.symm)]
      exact I.pnd t j e hj
  · intro j hj hjf hm
    rcases Nat.lt_or_ge j k with h' | h'
    · rw [show k + 1 - (j + 1) = (k - (j + 1)) + 1 by omega, firstM_ext] at hm
      have hm' : firstM h (ev h j).f1 (k - (j + 1)) (j + 1) = none := by
        split at hm
        · cases hm
        · assumption
      have hl := I.alt j h' hjf hm'
      rw [lastN]
      by_cases ht : (ev h k).f1 = (ev h j).f1
      · have := I.pnd _ j hl hjf
        rw [← ht, hn] at this
        cases this
      · rw [if_neg ht]; exact hl
    · obtain rfl : j = k := by omega
      simp [lastN]
theorem Inv.fin {h : List S127} {k : Nat} {s : RS} (I : Inv h k s) (hf : (ev h k).f0 = true) {i : Nat} (hn : s.opn (ev h k).f1 = some i) {x : S78} (hx : s.ops[i]? = some x) :
    Inv h (k + 1) ⟨s.ops.set i (opEnd x (ev h k).f3 k), RS.set s.opn (ev h k).f1 none⟩ := by
  obtain ⟨j, hl, hjf, rfl⟩ := I.opn _ _ hn
  obtain ⟨hjk, hjt⟩ := lastN_some hl
  have hne : ∀ i, i < k → i ≠ j → (ev h i).f0 = false → opAt h (k + 1) i = opAt h k i := by
    intro i hi hij hif
    unfold opAt
    rw [show k + 1 - (i + 1) = (k - (i + 1)) + 1 by omega, firstM_ext]
    split
    · rename_i m hm; rw [hm]
    · rename_i hm
      rw [hm, show i + 1 + (k - (i + 1)) = k by omega]
      rw [if_neg]
      intro hh
      have := I.alt i hi hif hm
      rw [← hh.2, hl] at this
      exact hij (Option.some.inj this).symm
  have hnone : firstM h (ev h j).f1 (k - (j + 1)) (j + 1) = none := firstM_none (fun i h1 h2 => by rw [hjt]; exact lastN_after hl i (by omega) (by omega))
  refine ⟨?_, ?_, ?_, ?_⟩
  · show s.ops.set _ _ = _
    rw [opsTo, if_pos hf, opsTo_set (k := k) (k' := k + 1) (j := j) hjk hjf (fun i hi hij hif => (hne i hi hij hif).symm), I.ops]
    congr 1
    rw [I.ops, opsTo_at hjk hjf] at hx
    cases hx
    unfold opAt
    rw [show k + 1 - (j + 1) = (k - (j + 1)) + 1 by omega, firstM_ext, hnone, show j + 1 + (k - (j + 1)) = k by omega]
    show opEnd _ _ _ = opOf h j (if _ then _ else _)
    rw [if_pos ⟨hf, hjt.symm⟩]
    rfl
  · intro t i e
    simp only [RS.set] at e
    split at e
    · cases e
    · rename_i ht
      obtain ⟨j, h1, h2, h3⟩ := I.opn t i e
      exact ⟨j, by rw [lastN, if_neg (fun h' => ht h'.symm)]; exact h1, h2, h3⟩
  · intro t j e hj
    simp only [RS.set]
    rw [lastN] at e
    split at e
    · cases e
      rw [hf] at hj; cases hj
    · rename_i ht
      rw [if_neg (fun h' => ht h'.symm)]
      exact I.pnd t j e hj
  · intro i hi hif hm
    rcases Nat.lt_or_ge i k with h' | h'
    · rw [show k + 1 - (i + 1) = (k - (i + 1)) + 1 by omega, firstM_ext] at hm
      split at hm
      · cases hm
      · rename_i hm'
        have hl' := I.alt i h' hif hm'
        rw [show i + 1 + (k - (i + 1)) = k by omega] at hm
        rw [lastN, if_neg]
        · exact hl'
        · intro h''
          rw [if_pos ⟨hf, h''⟩] at hm
          cases hm
    · obtain rfl : i = k := by omega
      rw [hf] at hif; cases hif
theorem Inv.step {h : List S127} {k : Nat} {s : RS} (I : Inv h k s) :
    (evStep h.length k (ev h k) s).1 = errN h k ∧ (errN h k = 0 → Inv h (k + 1) (evStep h.length k (ev h k) s).2) := by
  unfold evStep errN
  by_cases hb : (ev h k).f1 < 0 ∨ 64 ≤ (ev h k).f1
  · have hb' : (ev h k).f1 < 0 ∨ 63 < (ev h k).f1 := by omega
    rw [if_pos hb, if_pos hb']
    exact ⟨rfl, fun h' => by cases h'⟩
  · have hb' : ¬((ev h k).f1 < 0 ∨ 63 < (ev h k).f1) := by omega
    rw [if_neg hb, if_neg hb']
    clear hb hb'
    cases hl : lastN h (ev h k).f1 k with
    | none =>
      have hn : s.opn (ev h k).f1 = none := by
        cases hs : s.opn (ev h k).f1 with
        | none => rfl
        | some i => obtain ⟨j, h1, _⟩ := I.opn _ _ hs; rw [hl] at h1; cases h1
      cases hf : (ev h k).f0 with
      | true => rw [hn]; exact ⟨rfl, fun h' => by cases h'⟩
      | false =>
        rw [hn]
        by_cases hd : difA (ev h k).f3 = true
        · simp [hd]
        · simp only [hd]; exact ⟨rfl, fun _ => I.new hf hn⟩
    | some j =>
      obtain ⟨hjk, hjt⟩ := lastN_some hl
      cases hjf : (ev h j).f0 with
      | true =>
        have hn : s.opn (ev h k).f1 = none := by
          cases hs : s.opn (ev h k).f1 with
          | none => rfl
          | some i => obtain ⟨j', h1, h2, _⟩ := I.opn _ _ hs; rw [hl] at h1; cases h1; rw [hjf] at h2; cases h2
        cases hf : (ev h k).f0 with
        | true => rw [hn]; simp [hjf]
        | false =>
          rw [hn]
          by_cases hd : difA (ev h k).f3 = true
          · simp [hd, hjf]
          · simp only [hd, hjf]; exact ⟨rfl, fun _ => I.new hf hn⟩
      | false =>
        have hn := I.pnd _ j hl hjf
        cases hf : (ev h k).f0 with
        | false => rw [hn]; simp [hjf]
        | true =>
          have hx : s.ops[cnt h j]? = some (opAt h k j) := by rw [I.ops]; exact opsTo_at hjk hjf
          rw [hn]
          have hc : (opAt h k j).f1 = (ev h j).f2 := by unfold opAt opOf; split <;> rfl
          by_cases hd : difC (ev h j).f2 (ev h k).f2 = true
          · simp [hx, hd, hjf, hc]
          · simp only [hx, hjf, hc, hd]; exact ⟨rfl, fun _ => I.fin hf hn hx⟩
theorem ev_drop {h : List S127} {k : Nat} (hk : k < h.length) : h.drop k = ev h k :: h.drop (k + 1) := by
  rw [List.drop_eq_getElem_cons hk]
  congr 1
  unfold ev rd_T127
  simp [hk]
theorem rdFrom_may {h : List S127} : ∀ r k s, r + k = h.length → Inv h k s →
    (rdFrom h.length (h.drop k) k s).1 = mayN h r k ∧ (mayN h r k = 0 → Inv h h.length (rdFrom h.length (h.drop k) k s).2) ∧ (mayN h r k ≠ 0 → (rdFrom h.length (h.drop k) k s).2 = RS.none)
  | 0, k, s, hr, I => by
    obtain rfl : k = h.length := by omega
    rw [List.drop_length]
    exact ⟨rfl, fun _ => I, fun h' => absurd rfl h'⟩
  | r + 1, k, s, hr, I => by
    have hk : k < h.length := by omega
    obtain ⟨h1, h2⟩ := I.step
    rw [ev_drop hk]
    unfold rdFrom mayN
    rw [h1]
    by_cases he : errN h k = 0
    · rw [if_pos he, if_pos he]
      exact rdFrom_may r (k + 1) _ (by omega) (h2 he)
    · rw [if_neg he, if_neg he]
      exact ⟨rfl, fun h' => absurd h' he, fun _ => rfl⟩
theorem rdAll_may (h : List S127) : (rdAll h).1 = mayN h h.length 0 ∧ (mayN h h.length 0 = 0 → Inv h h.length (rdAll h).2) ∧ (mayN h h.length 0 ≠ 0 → (rdAll h).2 = RS.none) :=
  rdFrom_may h.length 0 RS.none rfl (Inv.start h)
theorem wrap_up {i : Nat} (h : i ≤ 1099511627776) : wrap64 ((i : Int) + 1) = ((i + 1 : Nat) : Int) := by unfold wrap64; omega
theorem same_loop (l : List Int) (hl : l.length ≤ 1099511627776) : ∀ (d i k : Nat), d + i = l.length → d < k → boscagebase_SameInts.l0 k l l (i : Int) = some true
  | 0, i, k, h1, h2 => by
    obtain ⟨k, rfl⟩ : ∃ m, k = m + 1 := ⟨k - 1, by omega⟩
    simp only [boscagebase_SameInts.l0]
    rw [if_neg (by omega)]
  | d + 1, i, k, h1, h2 => by
    obtain ⟨k, rfl⟩ : ∃ m, k = m + 1 := ⟨k - 1, by omega⟩
    simp only [boscagebase_SameInts.l0]
    rw [if_pos (by omega), if_pos (by omega), if_pos (by omega), if_pos trivial, wrap_up (by omega)]
    exact same_loop l hl d (i + 1) k (by omega) (by omega)
theorem same_tells (l : List Int) (hl : l.length ≤ 1099511627776) {k : Nat} (hk : l.length < k) : boscagebase_SameInts.f k l l = some true := by
  unfold boscagebase_SameInts.f
  rw [if_pos rfl]
  exact same_loop l hl l.length 0 k (by omega) hk
theorem few_tells (l : List S127) : boscagelaw32_few.f l = some (l.take 60) := by
  unfold boscagelaw32_few.f
  have h : (mn (l.length : Int) 60) = ((min l.length 60 : Nat) : Int) := by unfold mn; split <;> omega
  rw [h, Option.bind_some, if_pos (by omega), if_pos (by omega), Option.bind_some, Int.toNat_natCast]
  have h2 : l.take (min l.length 60) = l.take 60 := by
    rcases Nat.le_total l.length 60 with h' | h'
    · rw [Nat.min_eq_left h', List.take_of_length_le (Nat.le_refl _), List.take_of_length_le h']
    · rw [Nat.min_eq_right h']
  rw [h2, if_pos (by simp only [List.length_nil, List.length_take]; omega), List.nil_append]
theorem nil_toList : ((⟨#[]⟩ : ByteArray).toList) = [] := by
  unfold ByteArray.toList
  unfold ByteArray.toList.loop
  rfl
theorem works_tells {k : Nat} (hk : 200 ≤ k) : boscagelaw32_works.f k = some true := by
  unfold boscagelaw32_works.f
  rw [Option.bind_some]
  have hA : difA (⟨0, false, ⟨#[]⟩, ⟨#[]⟩, 0⟩ : S76) = false := by simp [difA]
  have hC : difC (⟨7, ⟨#[]⟩, ⟨#[]⟩, ⟨#[]⟩, 0⟩ : S74) ⟨7, ⟨#[]⟩, ⟨#[]⟩, ⟨#[]⟩, 0⟩ = false := by simp [difC]
  have h1 : ∀ a b c : S127, hist_Pending.f [a, b, c] = some (pend (rdAll [a, b, c]).2.opn, (rdAll [a, b, c]).1) := fun _ _ _ => rfl
  have h2 : ∀ a b c : S127, hist_Ops.f [a, b, c] = some ((rdAll [a, b, c]).2.ops, (rdAll [a, b, c]).1) := fun _ _ _ => rfl
  have h3 : ∀ a : S127, hist_May.f [a] = some (rdAll [a]).1 := fun _ => rfl
  rw [h1, h2, Option.bind_some, Option.bind_some]
  have hr : rdAll [(⟨false, 0, (⟨7, (⟨#[]⟩ : ByteArray), (⟨#[]⟩ : ByteArray), (⟨#[]⟩ : ByteArray), 0⟩ : S74), (⟨0, false, (⟨#[]⟩ : ByteArray), (⟨#[]⟩ : ByteArray), 0⟩ : S76)⟩ : S127), (⟨false, 1, (⟨7, (⟨#[]⟩ : ByteArray), (⟨#[]⟩ : ByteArray), (⟨#[]⟩ : ByteArray), 0⟩ : S74), (⟨0, false, (⟨#[]⟩ : ByteArray), (⟨#[]⟩ : ByteArray), 0⟩ : S76)⟩ : S127), (⟨true, 0, (⟨7, (⟨#[]⟩ : ByteArray), (⟨#[]⟩ : ByteArray), (⟨#[]⟩ : ByteArray), 0⟩ : S74), (⟨0, false, (⟨#[]⟩ : ByteArray), (⟨#[]⟩ : ByteArray), 0⟩ : S76)⟩ : S127)] = (0, ⟨[⟨0, ⟨7, ⟨#[]⟩, ⟨#[]⟩, ⟨#[]⟩, 0⟩, ⟨0, false, ⟨#[]⟩, ⟨#[]⟩, 0⟩, true, 0, 2⟩, ⟨1, ⟨7, ⟨#[]⟩, ⟨#[]⟩, ⟨#[]⟩, 0⟩, ⟨0, false, ⟨#[]⟩, ⟨#[]⟩, 0⟩, false, 1, 3⟩], RS.set (RS.set (RS.set RS.none.opn 0 (some 0)) 1 (some 1)) 0 none⟩) := by
    simp [rdAll, rdFrom, evStep, hA, hC, RS.none, RS.set, opNew, opEnd, zA]
  rw [hr]
  have hp : pend (RS.set (RS.set (RS.set RS.none.opn 0 (some 0)) 1 (some 1)) 0 none) = [1] := by decide
  simp only []
  rw [hp, same_tells _ (by simp) (by simp; omega), Option.bind_some, if_pos rfl, if_pos trivial, if_pos trivial, if_pos (by simp), if_pos (by simp), if_pos (by simp [rd_T78]), if_pos (by simp), if_neg (by simp [rd_T78]), if_pos (by simp)]
  rw [show ∀ a b c : S127, List.drop 2 [a, b, c] = [c] from fun _ _ _ => rfl, h3, Option.bind_some]
  have hz : (rdAll [(⟨true, 0, (⟨7, (⟨#[]⟩ : ByteArray), (⟨#[]⟩ : ByteArray), (⟨#[]⟩ : ByteArray), 0⟩ : S74), (⟨0, false, (⟨#[]⟩ : ByteArray), (⟨#[]⟩ : ByteArray), 0⟩ : S76)⟩ : S127)]).1 = 4 := by
    simp [rdAll, rdFrom, evStep, RS.none]
  rw [hz]; rfl
/-! ### the ops of a history that may be: which is ahead of which -/
def idx (h : List S127) (m : Nat) : List Nat := (List.range m).filter fun j => !(ev h j).f0
theorem opsTo_idx (h : List S127) (k : Nat) : ∀ m, opsTo h k m = (idx h m).map (opAt h k)
  | 0 => rfl
  | m + 1 => by
    unfold opsTo idx
    rw [List.range_succ, List.filter_append, List.map_append, opsTo_idx h k m]
    cases hf : (ev h m).f0 <;> simp [hf, idx]
theorem idx_lt {h : List S127} {m : Nat} {i k : Nat} (hik : i < k) {a b : Nat} (ha : (idx h m)[i]? = some a) (hb : (idx h m)[k]? = some b) : a < b := by
  have hp : (idx h m).Pairwise (· < ·) := List.Pairwise.filter _ List.pairwise_lt_range
  obtain ⟨h1, rfl⟩ := List.getElem?_eq_some_iff.1 ha
  obtain ⟨h2, rfl⟩ := List.getElem?_eq_some_iff.1 hb
  exact List.pairwise_iff_getElem.1 hp i k h1 h2 hik
theorem idx_mem {h : List S127} {m i a : Nat} (ha : (idx h m)[i]? = some a) : a < m ∧ (ev h a).f0 = false := by
  have := List.mem_of_getElem? ha
  unfold idx at this
  rw [List.mem_filter, List.mem_range] at this
  exact ⟨this.1, by simpa using this.2⟩
theorem firstM_some {h : List S127} {t : Int} {m : Nat} : ∀ {n a : Nat}, firstM h t n a = some m → a ≤ m ∧ m < a + n ∧ (ev h m).f0 = true ∧ (ev h m).f1 = t ∧ ∀ i, a ≤ i → i < m → ¬((ev h i).f0 = true ∧ (ev h i).f1 = t)
  | 0, a, e => by cases e
  | n + 1, a, e => by
    unfold firstM at e
    split at e
    · rename_i hh; cases e; exact ⟨Nat.le_refl _, by omega, hh.1, hh.2, fun i h1 h2 => by omega⟩
    · rename_i hh
      obtain ⟨h1, h2, h3, h4, h5⟩ := firstM_some e
      refine ⟨by omega, by omega, h3, h4, fun i hi1 hi2 => ?_⟩
      rcases Nat.eq_or_lt_of_le hi1 with e1 | e1
      · subst e1; exact hh
      · exact h5 i e1 hi2
theorem firstM_no {h : List S127} {t : Int} : ∀ {n a : Nat}, firstM h t n a = none → ∀ i, a ≤ i → i < a + n → ¬((ev h i).f0 = true ∧ (ev h i).f1 = t)
  | 0, a, _, i, h1, h2 => by omega
  | n + 1, a, e, i, h1, h2 => by
    unfold firstM at e
    split at e
    · cases e
    · rename_i hh
      rcases Nat.eq_or_lt_of_le h1 with e1 | e1
      · subst e1; exact hh
      · exact firstM_no e i e1 (by omega)
theorem lastN_ge {h : List S127} {t : Int} {j : Nat} : ∀ {n : Nat}, j < n → (ev h j).f1 = t → ∃ m, lastN h t n = some m ∧ j ≤ m
  | 0, hj, _ => by omega
  | n + 1, hj, ht => by
    unfold lastN
    by_cases e : (ev h n).f1 = t
    · rw [if_pos e]; exact ⟨n, rfl, by omega⟩
    · rw [if_neg e]
      have : j ≠ n := fun e1 => e (e1 ▸ ht)
      exact lastN_ge (by omega) ht
theorem mayN_err {h : List S127} : ∀ {r k : Nat}, mayN h r k = 0 → ∀ j, k ≤ j → j < k + r → errN h j = 0
  | 0, k, _, j, h1, h2 => by omega
  | r + 1, k, e, j, h1, h2 => by
    unfold mayN at e
    split at e
    · rename_i he
      rcases Nat.eq_or_lt_of_le h1 with e1 | e1
      · subst e1; exact he
      · exact mayN_err e j e1 (by omega)
    · rename_i he; exact absurd e he
/-- Between two calls of one thread there is an answer. -/
theorem res_between {h : List S127} {j k : Nat} (hjk : j < k) (hj : (ev h j).f0 = false) (hk : (ev h k).f0 = false) (ht : (ev h j).f1 = (ev h k).f1) (he : errN h k = 0) : ∃ m, j < m ∧ m < k ∧ (ev h m).f0 = true ∧ (ev h m).f1 = (ev h j).f1 := by
  obtain ⟨m, hm, hjm⟩ := lastN_ge hjk ht
  obtain ⟨h1, h2⟩ := lastN_some hm
  unfold errN at he
  rw [hm, hk] at he
  split at he
  · cases he
  · simp only [] at he
    cases hf : (ev h m).f0 with
    | false => rw [hf, if_pos rfl] at he; cases he
    | true =>
      refine ⟨m, ?_, h1, hf, by rw [h2, ht]⟩
      rcases Nat.eq_or_lt_of_le hjm with e | e
      · subst e; rw [hj] at hf; cases hf
      · exact e
/-- What an op of such a history is. -/
structure OpsOk (l : List S78) : Prop where
  fin : ∀ (i : Nat) x, l[i]? = some x → x.f3 = true → x.f4 < x.f5
  ord : ∀ (i k : Nat) x y, i < k → l[i]? = some x → l[k]? = some y → x.f0 = y.f0 → x.f3 = true ∧ x.f5 < y.f4
theorem ops_ok (h : List S127) (hm : mayN h h.length 0 = 0) : OpsOk (opsTo h h.length h.length) := by
  have hE := mayN_err hm
  have key : ∀ (i : Nat) x, (opsTo h h.length h.length)[i]? = some x → ∃ j, (idx h h.length)[i]? = some j ∧ x = opAt h h.length j := by
    intro i x hx
    rw [opsTo_idx, List.getElem?_map] at hx
    cases hj : (idx h h.length)[i]? with
    | none => rw [hj] at hx; cases hx
    | some j => rw [hj] at hx; exact ⟨j, rfl, (Option.some.inj hx).symm⟩
  have f0 : ∀ j, (opAt h h.length j).f0 = (ev h j).f1 := fun j => by unfold opAt opOf; split <;> rfl
  have f4 : ∀ j, (opAt h h.length j).f4 = (j : Int) := fun j => by unfold opAt opOf; split <;> rfl
  constructor
  · intro i x hx hd
    obtain ⟨j, hj, rfl⟩ := key i x hx
    rw [f4]
    unfold opAt at hd ⊢
    cases hf : firstM h (ev h j).f1 (h.length - (j + 1)) (j + 1) with
    | none => rw [hf] at hd; cases hd
    | some m =>
      have := (firstM_some hf).1
      show (j : Int) < (m : Int)
      omega
  · intro i k x y hik hx hy ht
    obtain ⟨j, hj, rfl⟩ := key i x hx
    obtain ⟨j', hj', rfl⟩ := key k y hy
    rw [f0, f0] at ht
    rw [f4]
    have hlt := idx_lt hik hj hj'
    obtain ⟨a1, a2⟩ := idx_mem hj
    obtain ⟨b1, b2⟩ := idx_mem hj'
    obtain ⟨m, m1, m2, m3, m4⟩ := res_between hlt a2 b2 ht (hE j' (by omega) (by omega))
    unfold opAt
    cases hf : firstM h (ev h j).f1 (h.length - (j + 1)) (j + 1) with
    | none => exact absurd ⟨m3, m4⟩ (firstM_no hf m (by omega) (by omega))
    | some q =>
      obtain ⟨q1, q2, q3, q4, q5⟩ := firstM_some hf
      refine ⟨rfl, ?_⟩
      show (q : Int) < (j' : Int)
      rcases Nat.lt_or_ge m q with h' | h'
      · exact absurd ⟨m3, m4⟩ (q5 m (by omega) h')
      · omega
/-- Ahead of. -/
def ahd (x y : S78) : Bool := x.f3 && decide (x.f5 < y.f4)
theorem OpsOk.anti {l : List S78} (H : OpsOk l) {i k : Nat} {x y : S78} (hx : l[i]? = some x) (hy : l[k]? = some y) (h : ahd x y = true) : ahd y x = false := by
  unfold ahd at *
  cases h1 : x.f3 with
  | false => rw [h1] at h; cases h
  | true =>
    rw [h1, Bool.true_and, decide_eq_true_eq] at h
    cases h2 : y.f3 with
    | false => rfl
    | true =>
      have e1 := H.fin i x hx h1
      have e2 := H.fin k y hy h2
      rw [Bool.true_and, decide_eq_false_iff_not]; omega
theorem OpsOk.trans {l : List S78} (H : OpsOk l) {i k j : Nat} {x y z : S78} (_ : l[i]? = some x) (hy : l[k]? = some y) (_ : l[j]? = some z) (h : ahd x y = true) (h' : ahd y z = true) : ahd x z = true := by
  unfold ahd at *
  cases h1 : x.f3 with
  | false => rw [h1] at h; cases h
  | true =>
    rw [h1, Bool.true_and, decide_eq_true_eq] at h
    cases h2 : y.f3 with
    | false => rw [h2] at h'; cases h'
    | true =>
      rw [h2, Bool.true_and, decide_eq_true_eq] at h'
      have e2 := H.fin k y hy h2
      rw [Bool.true_and, decide_eq_true_eq]; omega
theorem OpsOk.one {l : List S78} (H : OpsOk l) {i k : Nat} {x y : S78} (hik : i < k) (hx : l[i]? = some x) (hy : l[k]? = some y) (ht : x.f0 = y.f0) : ahd x y = true := by
  obtain ⟨h1, h2⟩ := H.ord i k x y hik hx hy ht
  unfold ahd
  rw [h1, Bool.true_and, decide_eq_true_eq]; exact h2
theorem ops_ok_all (h : List S127) (hm : (rdAll h).1 = 0) : OpsOk (rdAll h).2.ops := by
  obtain ⟨r1, r2, _⟩ := rdAll_may h
  rw [r1] at hm
  rw [(r2 hm).ops]
  exact ops_ok h hm
theorem cnt_le (h : List S127) : ∀ m, cnt h m ≤ m
  | 0 => Nat.le_refl _
  | m + 1 => by
    have := cnt_le h m
    rw [cnt_succ]; split <;> omega
theorem ops_len_all (h : List S127) (hm : (rdAll h).1 = 0) : (rdAll h).2.ops.length ≤ h.length := by
  obtain ⟨r1, r2, _⟩ := rdAll_may h
  rw [r1] at hm
  rw [(r2 hm).ops, opsTo_len]
  exact cnt_le h _
end Go.Proofs.Ytipdhjdlfdbkiaa.PHistAhead
