/- The plain law of HistAdds: what the printed functions compute answers true. -/
import Derived.Test.YtipdhjdlfdbkiaaPHistAddsx
namespace Go.Proofs.Ytipdhjdlfdbkiaa.PHistAdds
open Go.RowKit Go.Proofs.YtipdhjdlfdbkiaaW.PrintWords Go.Proofs.YtipdhjdlfdbkiaaW.PrintLast Go.Proofs.YtipdhjdlfdbkiaaW.PrintMore
/-! The plain law of a history: words over its events. -/
def ev (h : List S127) (j : Nat) : S127 := rd_T127 h (j : Int)
def lastN (h : List S127) (t : Int) : Nat → Option Nat
  | 0 => none
  | n + 1 => if (ev h n).f1 = t then some n else lastN h t n
def errN (h : List S127) (k : Nat) : Int :=
  if (ev h k).f1 < 0 ∨ 63 < (ev h k).f1 then 2 else
  match lastN h (ev h k).f1 k with
  | some j => if (ev h j).f0 = (ev h k).f0 then 4 else
      if (ev h k).f0 = true then (if difC (ev h j).f2 (ev h k).f2 = true then 4 else 0) else (if difA (ev h k).f3 = true then 4 else 0)
  | none => if (ev h k).f0 = true then 4 else (if difA (ev h k).f3 = true then 4 else 0)
def mayN (h : List S127) : Nat → Nat → Int
  | 0, _ => 0
  | r + 1, k => if errN h k = 0 then mayN h r (k + 1) else errN h k
def firstM (h : List S127) (t : Int) : Nat → Nat → Option Nat
  | 0, _ => none
  | n + 1, a => if (ev h a).f0 = true ∧ (ev h a).f1 = t then some a else firstM h t n (a + 1)
def opOf (h : List S127) (j : Nat) : Option Nat → S78
  | none => opNew (ev h j) j h.length
  | some m => opEnd (opNew (ev h j) j h.length) (ev h m).f3 m
def opAt (h : List S127) (k j : Nat) : S78 := opOf h j (firstM h (ev h j).f1 (k - (j + 1)) (j + 1))
def opsTo (h : List S127) (k : Nat) : Nat → List S78
  | 0 => []
  | m + 1 => if (ev h m).f0 = true then opsTo h k m else opsTo h k m ++ [opAt h k m]
def cnt (h : List S127) : Nat → Nat
  | 0 => 0
  | m + 1 => if (ev h m).f0 = true then cnt h m else cnt h m + 1
theorem lastN_some {h : List S127} {t : Int} {j : Nat} : ∀ {n : Nat}, lastN h t n = some j → j < n ∧ (ev h j).f1 = t
  | 0, e => by cases e
  | n + 1, e => by
    unfold lastN at e
    split at e
    case isTrue h' => cases e; exact ⟨Nat.lt_succ_self _, h'⟩
    case isFalse => have := lastN_some e; exact ⟨by omega, this.2⟩
theorem lastN_after {h : List S127} {t : Int} {j : Nat} : ∀ {n : Nat}, lastN h t n = some j → ∀ i, j < i → i < n → (ev h i).f1 ≠ t
  | 0, e, _, _, _ => by cases e
  | n + 1, e, i, h1, h2 => by
    unfold lastN at e
    split at e
    case isTrue h' => cases e; omega
    case isFalse h' =>
      rcases Nat.lt_or_ge i n with h3 | h3
      · exact lastN_after e i h1 h3
      · obtain rfl : i = n := by omega
        exact h'
theorem firstM_none {h : List S127} {t : Int} : ∀ {n a : Nat}, (∀ i, a ≤ i → i < a + n → (ev h i).f1 ≠ t) → firstM h t n a = none
  | 0, _, _ => rfl
  | n + 1, a, H => by
    rw [firstM, if_neg (fun h' => H a (Nat.le_refl _) (by omega) h'.2)]
    exact firstM_none (fun i h1 h2 => H i (by omega) (by omega))
theorem firstM_ext (h : List S127) (t : Int) : ∀ n a, firstM h t (n + 1) a = match firstM h t n a with
    | some m => some m
    | none => if (ev h (a + n)).f0 = true ∧ (ev h (a + n)).f1 = t then some (a + n) else none
  | 0, a => by simp [firstM]
  | n + 1, a => by
    rw [firstM, firstM_ext h t n (a + 1)]
    conv => rhs; rw [firstM]
    rw [show a + 1 + n = a + (n + 1) by omega]
    split
    · rfl
    · rfl
theorem opsTo_congr {h : List S127} {k k' : Nat} : ∀ {m : Nat}, (∀ j, j < m → (ev h j).f0 = false → opAt h k j = opAt h k' j) → opsTo h k m = opsTo h k' m
  | 0, _ => rfl
  | m + 1, H => by
    unfold opsTo
    rw [opsTo_congr (fun j hj => H j (by omega))]
    split
    · rfl
    · rename_i h'; rw [H m (by omega) (by simpa using h')]
theorem opsTo_len {h : List S127} {k : Nat} : ∀ m, (opsTo h k m).length = cnt h m
  | 0 => rfl
  | m + 1 => by
    unfold opsTo cnt
    split
    · exact opsTo_len m
    · rw [List.length_append, opsTo_len m]; rfl
theorem cnt_succ (h : List S127) (m : Nat) : cnt h (m + 1) = if (ev h m).f0 = true then cnt h m else cnt h m + 1 := rfl
theorem cnt_mono {h : List S127} {j : Nat} : ∀ {m : Nat}, j < m → (ev h j).f0 = false → cnt h j < cnt h m
  | 0, hj, _ => by omega
  | m + 1, hj, hf => by
    rcases Nat.lt_or_ge j m with h' | h'
    · have := cnt_mono (m := m) h' hf
      rw [cnt_succ]; split <;> omega
    · obtain rfl : j = m := by omega
      rw [cnt_succ, if_neg (by simp [hf])]
      exact Nat.lt_succ_self _
theorem opsTo_at {h : List S127} {k j : Nat} : ∀ {m : Nat}, j < m → (ev h j).f0 = false → (opsTo h k m)[cnt h j]? = some (opAt h k j)
  | 0, hj, _ => by omega
  | m + 1, hj, hf => by
    rcases Nat.lt_or_ge j m with h' | h'
    · have h1 := opsTo_at (k := k) (m := m) h' hf
      have h2 : cnt h j < (opsTo h k m).length := by rw [opsTo_len]; exact cnt_mono h' hf
      unfold opsTo
      split
      · exact h1
      · rw [List.getElem?_append_left h2]; exact h1
    · obtain rfl : j = m := by omega
      unfold opsTo
      rw [if_neg (by simp [hf]), List.getElem?_append_right (by rw [opsTo_len]; exact Nat.le_refl _), opsTo_len, Nat.sub_self]; rfl
theorem opsTo_set {h : List S127} {k k' j : Nat} : ∀ {m : Nat}, j < m → (ev h j).f0 = false → (∀ i, i < m → i ≠ j → (ev h i).f0 = false → opAt h k i = opAt h k' i) →
    opsTo h k' m = (opsTo h k m).set (cnt h j) (opAt h k' j)
  | 0, hj, _, _ => by omega
  | m + 1, hj, hf, H => by
    rcases Nat.lt_or_ge j m with h' | h'
    · have h1 := opsTo_set (m := m) h' hf (fun i hi => H i (by omega))
      have h2 : cnt h j < (opsTo h k m).length := by rw [opsTo_len]; exact cnt_mono h' hf
      unfold opsTo
      split
      · exact h1
      · rename_i hm
        rw [List.set_append_left _ _ h2, h1, H m (by omega) (by omega) (by simpa using hm)]
    · obtain rfl : j = m := by omega
      unfold opsTo
      rw [if_neg (by simp [hf]), if_neg (by simp [hf]), List.set_append_right _ _ (by rw [opsTo_len]; exact Nat.le_refl _), opsTo_len, Nat.sub_self,
        opsTo_congr (fun i hi hif => (H i (by omega) (by omega) hif).symm)]
      rfl
/-- What a reader holds after the first k events. -/
structure Inv (h : List S127) (k : Nat) (s : RS) : Prop where
  ops : s.ops = opsTo h k k
  opn : ∀ t i, s.opn t = some i → ∃ j, lastN h t k = some j ∧ (ev h j).f0 = false ∧ i = cnt h j
  pnd : ∀ t j, lastN h t k = some j → (ev h j).f0 = false → s.opn t = some (cnt h j)
  alt : ∀ j, j < k → (ev h j).f0 = false → firstM h (ev h j).f1 (k - (j + 1)) (j + 1) = none → lastN h (ev h j).f1 k = some j
theorem Inv.start (h : List S127) : Inv h 0 RS.none :=
  ⟨rfl, fun t i e => by simp [RS.none] at e, fun t j e => by simp [lastN] at e, fun j hj => by omega⟩
theorem opAt_same {h : List S127} {k j : Nat} (hj : j < k) (hn : ¬((ev h k).f0 = true ∧ (ev h k).f1 = (ev h j).f1)) : opAt h (k + 1) j = opAt h k j := by
  unfold opAt
  rw [show k + 1 - (j + 1) = (k - (j + 1)) + 1 by omega, firstM_ext, show j + 1 + (k - (j + 1)) = k by omega, if_neg hn]
  split <;> simp_all
theorem Inv.new {h : List S127} {k : Nat} {s : RS} (I : Inv h k s) (hf : (ev h k).f0 = false) (hn : s.opn (ev h k).f1 = none) :
    Inv h (k + 1) ⟨s.ops ++ [opNew (ev h k) k h.length], RS.set s.opn (ev h k).f1 (some s.ops.length)⟩ := by
  refine ⟨?_, ?_, ?_, ?_⟩
  · show s.ops ++ _ = _
    rw [opsTo, if_neg (by simp [hf]), I.ops, opsTo_congr (k := k + 1) (k' := k) (fun j hj _ => opAt_same hj (by simp [hf]))]
    congr 2
    unfold opAt
    rw [Nat.sub_self]; rfl
  · intro t i e
    simp only [RS.set] at e
    split at e
    · rename_i ht
      subst ht
      cases e
      refine ⟨k, by simp [lastN], hf, by rw [I.ops, opsTo_len]⟩
    · rename_i ht
      obtain ⟨j, h1, h2, h3⟩ := I.opn t i e
      exact ⟨j, by rw [lastN, if_neg (fun h' => ht h'.symm)]; exact h1, h2, h3⟩
  · intro t j e hj
    simp only [RS.set]
    rw [lastN] at e
    split at e
    · rename_i ht
      cases e
      rw [if_pos ht.symm, I.ops, opsTo_len]
    · rename_i ht
      rw [if_neg (fun h' => ht h'.symm)]
      exact I.pnd t j e hj
  · intro j hj hjf hm
    rcases Nat.lt_or_ge j k with h' | h'
    · rw [show k + 1 - (j + 1) = (k - (j + 1)) + 1 by omega, firstM_ext] at hm
      have hm' : firstM h (ev h j).f1 (k - (j + 1)) (j + 1) = none := by
        split at hm
        · cases hm
        · assumption
      have hl := I.alt j h' hjf hm'
      rw [lastN]
      by_cases ht : (ev h k).f1 = (ev h j).f1
      · have := I.pnd _ j hl hjf
        rw [← ht, hn] at this
        cases this
      · rw [if_neg ht]; exact hl
    · obtain rfl : j = k := by omega
      simp [lastN]
theorem Inv.fin {h : List S127} {k : Nat} {s : RS} (I : Inv h k s) (hf : (ev h k).f0 = true) {i : Nat} (hn : s.opn (ev h k).f1 = some i) {x : S78} (hx : s.ops[i]? = some x) :
    Inv h (k + 1) ⟨s.ops.set i (opEnd x (ev h k).f3 k), RS.set s.opn (ev h k).f1 none⟩ := by
  obtain ⟨j, hl, hjf, rfl⟩ := I.opn _ _ hn
  obtain ⟨hjk, hjt⟩ := lastN_some hl
  have hne : ∀ i, i < k → i ≠ j → (ev h i).f0 = false → opAt h (k + 1) i = opAt h k i := by
    intro i hi hij hif
    unfold opAt
    rw [show k + 1 - (i + 1) = (k - (i + 1)) + 1 by omega, firstM_ext]
    split
    · rename_i m hm; rw [hm]
    · rename_i hm
      rw [hm, show i + 1 + (k - (i + 1)) = k by omega]
      rw [if_neg]
      intro hh
      have := I.alt i hi hif hm
      rw [← hh.2, hl] at this
      exact hij (Option.some.inj this).symm
  have hnone : firstM h (ev h j).f1 (k - (j + 1)) (j + 1) = none := firstM_none (fun i h1 h2 => by rw [hjt]; exact lastN_after hl i (by omega) (by omega))
  refine ⟨?_, ?_, ?_, ?_⟩
  · show s.ops.set _ _ = _
    rw [opsTo, if_pos hf, opsTo_set (k := k) (k' := k + 1) (j := j) hjk hjf (fun i hi hij hif => (hne i hi hij hif).symm), I.ops]
    congr 1
    rw [I.ops, opsTo_at hjk hjf] at hx
    cases hx
    unfold opAt
    rw [show k + 1 - (j + 1) = (k - (j + 1)) + 1 by omega, firstM_ext, hnone, show j + 1 + (k - (j + 1)) = k by omega]
    show opEnd _ _ _ = opOf h j (if _ then _ else _)
    rw [if_pos ⟨hf, hjt.symm⟩]
    rfl
  · intro t i e
    simp only [RS.set] at e
    split at e
    · cases e
    · rename_i ht
      obtain ⟨j, h1, h2, h3⟩ := I.opn t i e
      exact ⟨j, by rw [lastN, if_neg (fun h' => ht h'.symm)]; exact h1, h2, h3⟩
  · intro t j e hj
    simp only [RS.set]
    rw [lastN] at e
    split at e
    · cases e
      rw [hf] at hj; cases hj
    · rename_i ht
      rw [if_neg (fun h' => ht h'.symm)]
      exact I.pnd t j e hj
  · intro i hi hif hm
    rcases Nat.lt_or_ge i k with h' | h'
    · rw [show k + 1 - (i + 1) = (k - (i + 1)) + 1 by omega, firstM_ext] at hm
      split at hm
      · cases hm
      · rename_i hm'
        have hl' := I.alt i h' hif hm'
        rw [show i + 1 + (k - (i + 1)) = k by omega] at hm
        rw [lastN, if_neg]
        · exact hl'
        · intro h''
          rw [if_pos ⟨hf, h''⟩] at hm
          cases hm
    · obtain rfl : i = k := by omega
      rw [hf] at hif; cases hif
theorem Inv.step {h : List S127} {k : Nat} {s : RS} (I : Inv h k s) :
    (evStep h.length k (ev h k) s).1 = errN h k ∧ (errN h k = 0 → Inv h (k + 1) (evStep h.length k (ev h k) s).2) := by
  unfold evStep errN
  by_cases hb : (ev h k).f1 < 0 ∨ 64 ≤ (ev h k).f1
  · have hb' : (ev h k).f1 < 0 ∨ 63 < (ev h k).f1 := by omega
    rw [if_pos hb, if_pos hb']
    exact ⟨rfl, fun h' => by cases h'⟩
  · have hb' : ¬((ev h k).f1 < 0 ∨ 63 < (ev h k).f1) := by omega
    rw [if_neg hb, if_neg hb']
    clear hb hb'
    cases hl : lastN h (ev h k).f1 k with
    | none =>
      have hn : s.opn (ev h k).f1 = none := by
        cases hs : s.opn (ev h k).f1 with
        | none => rfl
        | some i => obtain ⟨j, h1, _⟩ := I.opn _ _ hs; rw [hl] at h1; cases h1
      cases hf : (ev h k).f0 with
      | true => rw [hn]; exact ⟨rfl, fun h' => by cases h'⟩
      | false =>
        rw [hn]
        by_cases hd : difA (ev h k).f3 = true
        · simp [hd]
        · simp only [hd]; exact ⟨rfl, fun _ => I.new hf hn⟩
    | some j =>
      obtain ⟨hjk, hjt⟩ := lastN_some hl
      cases hjf : (ev h j).f0 with
      | true =>
        have hn : s.opn (ev h k).f1 = none := by
          cases hs : s.opn (ev h k).f1 with
          | none => rfl
          | some i => obtain ⟨j', h1, h2, _⟩ := I.opn _ _ hs; rw [hl] at h1; cases h1; rw [hjf] at h2; cases h2
        cases hf : (ev h k).f0 with
        | true => rw [hn]; simp [hjf]
        | false =>
          rw [hn]
          by_cases hd : difA (ev h k).f3 = true
          · simp [hd, hjf]
          · simp only [hd, hjf]; exact ⟨rfl, fun _ => I.new hf hn⟩
      | false =>
        have hn := I.pnd _ j hl hjf
        cases hf : (ev h k).f0 with
        | false => rw [hn]; simp [hjf]
        | true =>
          have hx : s.ops[cnt h j]? = some (opAt h k j) := by rw [I.ops]; exact opsTo_at hjk hjf
          rw [hn]
          have hc : (opAt h k j).f1 = (ev h j).f2 := by unfold opAt opOf; split <;> rfl
          by_cases hd : difC (ev h j).f2 (ev h k).f2 = true
          · simp [hx, hd, hjf, hc]
          · simp only [hx, hjf, hc, hd]; exact ⟨rfl, fun _ => I.fin hf hn hx⟩
theorem ev_drop {h : List S127} {k : Nat} (hk : k < h.length) : h.drop k = ev h k :: h.drop (k + 1) := by
  rw [List.drop_eq_getElem_cons hk]
  congr 1
  unfold ev rd_T127
  simp [hk]
theorem rdFrom_may {h : List S127} : ∀ r k s, r + k = h.length → Inv h k s →
    (rdFrom h.length (h.drop k) k s).1 = mayN h r k ∧ (mayN h r k = 0 → Inv h h.length (rdFrom h.length (h.drop k) k s).2) ∧ (mayN h r k ≠ 0 → (rdFrom h.length (h.drop k) k s).2 = RS.none)
  | 0, k, s, hr, I => by
    obtain rfl : k = h.length := by omega
    rw [List.drop_length]
    exact ⟨rfl, fun _ => I, fun h' => absurd rfl h'⟩
  | r + 1, k, s, hr, I => by
    have hk : k < h.length := by omega
    obtain ⟨h1, h2⟩ := I.step
    rw [ev_drop hk]
    unfold rdFrom mayN
    rw [h1]
    by_cases he : errN h k = 0
    · rw [if_pos he, if_pos he]
      exact rdFrom_may r (k + 1) _ (by omega) (h2 he)
    · rw [if_neg he, if_neg he]
      exact ⟨rfl, fun h' => absurd h' he, fun _ => rfl⟩
theorem rdAll_may (h : List S127) : (rdAll h).1 = mayN h h.length 0 ∧ (mayN h h.length 0 = 0 → Inv h h.length (rdAll h).2) ∧ (mayN h h.length 0 ≠ 0 → (rdAll h).2 = RS.none) :=
  rdFrom_may h.length 0 RS.none rfl (Inv.start h)
theorem wrap_up {i : Nat} (h : i ≤ 1099511627776) : wrap64 ((i : Int) + 1) = ((i + 1 : Nat) : Int) := by unfold wrap64; omega
theorem wrap_dn {i : Nat} (h : i ≤ 1099511627776) : wrap64 ((i : Int) - 1) = (i : Int) - 1 := by unfold wrap64; omega
theorem same_loop (l : List Int) (hl : l.length ≤ 1099511627776) : ∀ (d i k : Nat), d + i = l.length → d < k → boscagebase_SameInts.l0 k l l (i : Int) = some true
  | 0, i, k, h1, h2 => by
    obtain ⟨k, rfl⟩ : ∃ m, k = m + 1 := ⟨k - 1, by omega⟩
    simp only [boscagebase_SameInts.l0]
    rw [if_neg (by omega)]
  | d + 1, i, k, h1, h2 => by
    obtain ⟨k, rfl⟩ : ∃ m, k = m + 1 := ⟨k - 1, by omega⟩
    simp only [boscagebase_SameInts.l0]
    rw [if_pos (by omega), if_pos (by omega), if_pos (by omega), if_pos trivial, wrap_up (by omega)]
    exact same_loop l hl d (i + 1) k (by omega) (by omega)
theorem same_tells (l : List Int) (hl : l.length ≤ 1099511627776) {k : Nat} (hk : l.length < k) : boscagebase_SameInts.f k l l = some true := by
  unfold boscagebase_SameInts.f
  rw [if_pos rfl]
  exact same_loop l hl l.length 0 k (by omega) hk
theorem few_tells (l : List S127) : boscagelaw32_few.f l = some (l.take 60) := by
  unfold boscagelaw32_few.f
  have h : (mn (l.length : Int) 60) = ((min l.length 60 : Nat) : Int) := by unfold mn; split <;> omega
  rw [h, Option.bind_some, if_pos (by omega), if_pos (by omega), Option.bind_some, Int.toNat_natCast]
  have h2 : l.take (min l.length 60) = l.take 60 := by
    rcases Nat.le_total l.length 60 with h' | h'
    · rw [Nat.min_eq_left h', List.take_of_length_le (Nat.le_refl _), List.take_of_length_le h']
    · rw [Nat.min_eq_right h']
  rw [h2, if_pos (by simp only [List.length_nil, List.length_take]; omega), List.nil_append]
def lastI : Option Nat → Int
  | some j => (j : Int)
  | none => -1
theorem last_loop (h : List S127) (t : Int) (hl : h.length ≤ 70) : ∀ (n k : Nat), n ≤ h.length → n < k → boscageref32_last.l0 k h t ((n : Int) - 1) = some (lastI (lastN h t n))
  | 0, k, h1, h2 => by
    obtain ⟨k, rfl⟩ : ∃ m, k = m + 1 := ⟨k - 1, by omega⟩
    simp only [boscageref32_last.l0]
    rw [if_neg (by omega)]; rfl
  | n + 1, k, h1, h2 => by
    obtain ⟨k, rfl⟩ : ∃ m, k = m + 1 := ⟨k - 1, by omega⟩
    have e : ((n + 1 : Nat) : Int) - 1 = (n : Int) := by omega
    rw [e]
    simp only [boscageref32_last.l0]
    rw [if_pos (by omega), if_pos (by omega), if_pos (by omega), wrap_dn (by omega), last_loop h t hl n k (by omega) (by omega)]
    show (if (ev h n).f1 = t then _ else _) = some (lastI (if _ then _ else _))
    split <;> rfl
theorem last_tells (h : List S127) (t : Int) (hl : h.length ≤ 70) {n k : Nat} (hn : n ≤ h.length) (hk : n < k) : boscageref32_last.f k h t (n : Int) = some (lastI (lastN h t n)) := by
  unfold boscageref32_last.f
  rw [wrap_dn (by omega)]
  exact last_loop h t hl n k hn hk
theorem difA_eq (x : S76) : (!(x.f0 == 0) || (x.f1 || (!(x.f2.toList == ([] : List UInt8)) || (!(x.f3.toList == ([] : List UInt8)) || (!(x.f4 == 0)))))) = difA x := by
  have h : ∀ l : List UInt8, (l == []) = l.isEmpty := fun l => by cases l <;> rfl
  unfold difA
  rw [h, h]
theorem err_tells (h : List S127) (hl : h.length ≤ 70) {j k : Nat} (hj : j < h.length) (hk : j + 3 < k) : boscageref32_Err.f k h (j : Int) = some (errN h j) := by
  obtain ⟨k, rfl⟩ : ∃ m, k = m + 2 := ⟨k - 2, by omega⟩
  have key : ∀ b : Bool, (b = true ↔ ((ev h j).f1 < 0 ∨ 63 < (ev h j).f1)) → boscageref32_Err.j0 (k + 2) h j b ((ev h j).f0) ((ev h j).f1) ((ev h j).f2.f0) ((ev h j).f2.f1) ((ev h j).f2.f2) ((ev h j).f2.f3) ((ev h j).f2.f4) ((ev h j).f3.f0) ((ev h j).f3.f1) ((ev h j).f3.f2) ((ev h j).f3.f3) ((ev h j).f3.f4) = some (errN h j) := by
    intro b hb
    simp only [boscageref32_Err.j0]
    rw [last_tells h _ hl (by omega) (by omega), Option.bind_some]
    unfold errN
    by_cases hbt : b = true
    · rw [if_pos hbt, if_pos (hb.1 hbt)]
    · rw [if_neg hbt, if_neg (fun h' => hbt (hb.2 h'))]
      cases hl : lastN h (ev h j).f1 j with
      | none =>
        show (if (-1 : Int) ≥ 0 then _ else _) = _
        rw [if_neg (by omega)]
        simp only [boscageref32_Err.j1]
        cases hf : (ev h j).f0 with
        | true => rfl
        | false =>
          rw [difA_eq]
          show (if difA _ = true then _ else _) = some (if difA _ = true then _ else _)
          split <;> rfl
      | some i =>
        obtain ⟨h1, h2⟩ := lastN_some hl
        rw [show lastI (some i) = (i : Int) from rfl]
        rw [if_pos (by omega), if_pos (by omega), if_pos (by omega)]
        simp only [boscageref32_Err.j1]
        rw [difA_eq]
        rw [show (rd_T127 h (i : Int)) = ev h i from rfl]
        cases hf : (ev h j).f0 with
        | true =>
          cases hi : (ev h i).f0 with
          | true => rfl
          | false =>
            rw [if_neg (by decide), if_pos rfl, if_pos (by omega), if_pos (by omega)]
            show (if difC (ev h i).f2 (ev h j).f2 = true then some 4 else some 0) = some (if difC (ev h i).f2 (ev h j).f2 = true then (4 : Int) else 0)
            split <;> rfl
        | false =>
          cases hi : (ev h i).f0 with
          | false => rfl
          | true =>
            rw [if_neg (by decide), if_neg (by decide)]
            show (if difA (ev h j).f3 = true then some 4 else some 0) = some (if difA (ev h j).f3 = true then (4 : Int) else 0)
            split <;> rfl
  unfold boscageref32_Err.f
  rw [if_pos (by omega), if_pos (by omega)]
  rw [show (rd_T127 h (j : Int)) = ev h j from rfl]
  split
  · exact key true (by simp_all)
  · exact key _ (by simp only [decide_eq_true_eq]; omega)
theorem may_loop (h : List S127) (hl : h.length ≤ 70) : ∀ (r j k : Nat), r + j = h.length → 74 + r < k → boscageref32_May.l0 k h (j : Int) = some (mayN h r j)
  | 0, j, k, h1, h2 => by
    obtain ⟨k, rfl⟩ : ∃ m, k = m + 1 := ⟨k - 1, by omega⟩
    simp only [boscageref32_May.l0]
    rw [if_neg (by omega)]; rfl
  | r + 1, j, k, h1, h2 => by
    obtain ⟨k, rfl⟩ : ∃ m, k = m + 1 := ⟨k - 1, by omega⟩
    simp only [boscageref32_May.l0]
    rw [if_pos (by omega), err_tells h hl (by omega) (by omega), Option.bind_some, wrap_up (by omega)]
    unfold mayN
    split
    · exact may_loop h hl r (j + 1) k (by omega) (by omega)
    · rfl
theorem may_tells (h : List S127) (hl : h.length ≤ 70) {k : Nat} (hk : 200 ≤ k) : boscageref32_May.f k h = some (mayN h h.length 0) :=
  may_loop h hl h.length 0 k rfl (by omega)
theorem nil_toList : ((⟨#[]⟩ : ByteArray).toList) = [] := by
  unfold ByteArray.toList
  unfold ByteArray.toList.loop
  rfl
theorem works_tells {k : Nat} (hk : 200 ≤ k) : boscagelaw32_works.f k = some true := by
  unfold boscagelaw32_works.f
  rw [Option.bind_some]
  have hA : difA (⟨0, false, ⟨#[]⟩, ⟨#[]⟩, 0⟩ : S76) = false := by simp [difA]
  have hC : difC (⟨7, ⟨#[]⟩, ⟨#[]⟩, ⟨#[]⟩, 0⟩ : S74) ⟨7, ⟨#[]⟩, ⟨#[]⟩, ⟨#[]⟩, 0⟩ = false := by simp [difC]
  have h1 : ∀ a b c : S127, hist_Pending.f [a, b, c] = some (pend (rdAll [a, b, c]).2.opn, (rdAll [a, b, c]).1) := fun _ _ _ => rfl
  have h2 : ∀ a b c : S127, hist_Ops.f [a, b, c] = some ((rdAll [a, b, c]).2.ops, (rdAll [a, b, c]).1) := fun _ _ _ => rfl
  have h3 : ∀ a : S127, hist_May.f [a] = some (rdAll [a]).1 := fun _ => rfl
  rw [h1, h2, Option.bind_some, Option.bind_some]
  have hr : rdAll [(⟨false, 0, (⟨7, (⟨#[]⟩ : ByteArray), (⟨#[]⟩ : ByteArray), (⟨#[]⟩ : ByteArray), 0⟩ : S74), (⟨0, false, (⟨#[]⟩ : ByteArray), (⟨#[]⟩ : ByteArray), 0⟩ : S76)⟩ : S127), (⟨false, 1, (⟨7, (⟨#[]⟩ : ByteArray), (⟨#[]⟩ : ByteArray), (⟨#[]⟩ : ByteArray), 0⟩ : S74), (⟨0, false, (⟨#[]⟩ : ByteArray), (⟨#[]⟩ : ByteArray), 0⟩ : S76)⟩ : S127), (⟨true, 0, (⟨7, (⟨#[]⟩ : ByteArray), (⟨#[]⟩ : ByteArray), (⟨#[]⟩ : ByteArray), 0⟩ : S74), (⟨0, false, (⟨#[]⟩ : ByteArray), (⟨#[]⟩ : ByteArray), 0⟩ : S76)⟩ : S127)] = (0, ⟨[⟨0, ⟨7, ⟨#[]⟩, ⟨#[]⟩, ⟨#[]⟩, 0⟩, ⟨0, false, ⟨#[]⟩, ⟨#[]⟩, 0⟩, true, 0, 2⟩, ⟨1, ⟨7, ⟨#[]⟩, ⟨#[]⟩, ⟨#[]⟩, 0⟩, ⟨0, false, ⟨#[]⟩, ⟨#[]⟩, 0⟩, false, 1, 3⟩], RS.set (RS.set (RS.set RS.none.opn 0 (some 0)) 1 (some 1)) 0 none⟩) := by
    simp [rdAll, rdFrom, evStep, hA, hC, RS.none, RS.set, opNew, opEnd, zA]
  rw [hr]
  have hp : pend (RS.set (RS.set (RS.set RS.none.opn 0 (some 0)) 1 (some 1)) 0 none) = [1] := by decide
  simp only []
  rw [hp, same_tells _ (by simp) (by simp; omega), Option.bind_some, if_pos rfl, if_pos trivial, if_pos trivial, if_pos (by simp), if_pos (by simp), if_pos (by simp [rd_T78]), if_pos (by simp), if_neg (by simp [rd_T78]), if_pos (by simp)]
  rw [show ∀ a b c : S127, List.drop 2 [a, b, c] = [c] from fun _ _ _ => rfl, h3, Option.bind_some]
  have hz : (rdAll [(⟨true, 0, (⟨7, (⟨#[]⟩ : ByteArray), (⟨#[]⟩ : ByteArray), (⟨#[]⟩ : ByteArray), 0⟩ : S74), (⟨0, false, (⟨#[]⟩ : ByteArray), (⟨#[]⟩ : ByteArray), 0⟩ : S76)⟩ : S127)]).1 = 4 := by
    simp [rdAll, rdFrom, evStep, RS.none]
  rw [hz]; rfl
/-- What is wrong with an event behind a history. -/
def errE (h : List S127) (x : S127) : Int :=
  if x.f1 < 0 ∨ 63 < x.f1 then 2 else
  match lastN h x.f1 h.length with
  | some j => if (ev h j).f0 = x.f0 then 4 else
      if x.f0 = true then (if difC (ev h j).f2 x.f2 = true then 4 else 0) else (if difA x.f3 = true then 4 else 0)
  | none => if x.f0 = true then 4 else (if difA x.f3 = true then 4 else 0)
theorem ev_app {h : List S127} {x : S127} {j : Nat} (hj : j < h.length) : ev (h ++ [x]) j = ev h j := by
  unfold ev rd_T127
  simp [hj, List.getElem?_append_left]
theorem ev_end {h : List S127} {x : S127} : ev (h ++ [x]) h.length = x := by
  unfold ev rd_T127
  simp
theorem lastN_app {h : List S127} {x : S127} {t : Int} : ∀ {n : Nat}, n ≤ h.length → lastN (h ++ [x]) t n = lastN h t n
  | 0, _ => rfl
  | n + 1, hn => by
    unfold lastN
    rw [ev_app (by omega), lastN_app (by omega)]
theorem errN_app {h : List S127} {x : S127} {k : Nat} (hk : k < h.length) : errN (h ++ [x]) k = errN h k := by
  unfold errN
  rw [ev_app hk, lastN_app (by omega)]
  cases hl : lastN h (ev h k).f1 k with
  | none => rfl
  | some j =>
    have := (lastN_some hl).1
    simp only []
    rw [ev_app (by omega)]
theorem errN_end {h : List S127} {x : S127} : errN (h ++ [x]) h.length = errE h x := by
  unfold errN errE
  rw [ev_end, lastN_app (Nat.le_refl _)]
  cases hl : lastN h x.f1 h.length with
  | none => rfl
  | some j =>
    have := (lastN_some hl).1
    simp only []
    rw [ev_app (by omega)]
theorem mayN_app {h : List S127} {x : S127} : ∀ r k, r + k = h.length → mayN (h ++ [x]) (r + 1) k = if mayN h r k = 0 then errE h x else mayN h r k
  | 0, k, hr => by
    obtain rfl : k = h.length := by omega
    unfold mayN
    rw [errN_end]
    show (if errE h x = 0 then (0 : Int) else errE h x) = if (0 : Int) = 0 then errE h x else 0
    rw [if_pos rfl]
    split <;> simp_all
  | r + 1, k, hr => by
    rw [mayN, errN_app (by omega), mayN_app r (k + 1) (by omega)]
    conv => rhs; rw [mayN]
    by_cases he : errN h k = 0
    · simp only [if_pos he]
    · simp only [if_neg he]
theorem may_app (h : List S127) (x : S127) : mayN (h ++ [x]) (h ++ [x]).length 0 = if mayN h h.length 0 = 0 then errE h x else mayN h h.length 0 := by
  rw [List.length_append, List.length_singleton]
  exact mayN_app h.length 0 rfl
theorem rd_may (h : List S127) : (rdAll h).1 = mayN h h.length 0 := (rdAll_may h).1
theorem with_tells (h : List S127) (hl : h.length ≤ 60) (x : S127) : hist_with.f h x.f0 x.f1 x.f2.f0 x.f2.f1 x.f2.f2 x.f2.f3 x.f2.f4 x.f3.f0 x.f3.f1 x.f3.f2 x.f3.f3 x.f3.f4 =
    some (if mayN (h ++ [x]) (h ++ [x]).length 0 = 0 then (h ++ [x], 0) else ([], mayN (h ++ [x]) (h ++ [x]).length 0)) := by
  unfold hist_with.f cl_Event.f
  rw [if_pos (by omega), Option.bind_some, Option.bind_some, if_pos (by simp only [List.length_singleton]; omega), Option.bind_some]
  show (hist_May.f (h ++ [x])).bind _ = _
  unfold hist_May.f
  rw [if_pos (by rw [List.length_append, List.length_singleton]; omega), Option.bind_some, rd_may]
  split <;> rfl
theorem refAdd_tells (h : List S127) (hl : h.length ≤ 60) (t : Int) (c : S74) : boscageref32_Add.f h t c.f0 c.f1 c.f2 c.f3 c.f4 = some (h ++ [⟨false, t, c, ⟨0, false, ⟨#[]⟩, ⟨#[]⟩, 0⟩⟩]) := by
  unfold boscageref32_Add.f
  rw [Option.bind_some, if_pos (by simp only [List.length_nil]; omega), Option.bind_some, Option.bind_some, if_pos (by simp only [List.nil_append, List.length_singleton]; omega)]
  rfl
/-- The call of the document's last event of a thread. -/
def lastC (h : List S127) (t : Int) : S74 := match lastN h t h.length with
  | some j => (ev h j).f2
  | none => ⟨0, ⟨#[]⟩, ⟨#[]⟩, ⟨#[]⟩, 0⟩
theorem refEnd_tells (h : List S127) (hl : h.length ≤ 60) (t : Int) (a : S76) {k : Nat} (hk : 200 ≤ k) : boscageref32_End.f k h t a.f0 a.f1 a.f2 a.f3 a.f4 = some (h ++ [⟨true, t, lastC h t, a⟩]) := by
  unfold boscageref32_End.f lastC
  rw [last_tells h _ (by omega) (Nat.le_refl _) (by omega), Option.bind_some]
  cases hc : lastN h t h.length with
  | none =>
    rw [show lastI none = -1 from rfl, if_neg (by omega)]
    rw [Option.bind_some, if_pos (by simp only [List.length_nil]; omega), Option.bind_some, Option.bind_some, if_pos (by simp only [List.nil_append, List.length_singleton]; omega)]
    rfl
  | some j =>
    obtain ⟨hj, _⟩ := lastN_some hc
    rw [show lastI (some j) = (j : Int) from rfl, if_pos (by omega), if_pos (by omega), if_pos (by omega)]
    rw [Option.bind_some, if_pos (by simp only [List.length_nil]; omega), Option.bind_some, Option.bind_some, if_pos (by simp only [List.nil_append, List.length_singleton]; omega)]
    rfl
theorem sameE_loop (l : List S127) (hl : l.length ≤ 100) : ∀ (d i k : Nat), d + i = l.length → d < k → boscageref32_SameEvents.l0 k l l (i : Int) = some true
  | 0, i, k, h1, h2 => by
    obtain ⟨k, rfl⟩ : ∃ m, k = m + 1 := ⟨k - 1, by omega⟩
    simp only [boscageref32_SameEvents.l0]
    rw [if_neg (by omega)]
  | d + 1, i, k, h1, h2 => by
    obtain ⟨k, rfl⟩ : ∃ m, k = m + 1 := ⟨k - 1, by omega⟩
    simp only [boscageref32_SameEvents.l0]
    rw [if_pos (by omega), if_pos (by omega), if_pos (by omega), if_neg (by simp), wrap_up (by omega)]
    exact sameE_loop l hl d (i + 1) k (by omega) (by omega)
theorem sameE_tells (l : List S127) (hl : l.length ≤ 100) {k : Nat} (hk : 200 ≤ k) : boscageref32_SameEvents.f k l l = some true := by
  unfold boscageref32_SameEvents.f
  rw [if_pos rfl]
  exact sameE_loop l hl l.length 0 k (by omega) (by omega)
theorem endC_last {h : List S127} {s : RS} (I : Inv h h.length s) (t : Int) : (endC s t = lastC h t) ∨ ((∃ j, lastN h t h.length = some j ∧ (ev h j).f0 = true)) := by
  unfold endC lastC
  cases hl : lastN h t h.length with
  | none =>
    cases hs : s.opn t with
    | none => exact .inl rfl
    | some i => obtain ⟨j, h1, _⟩ := I.opn _ _ hs; rw [hl] at h1; cases h1
  | some j =>
    cases hj : (ev h j).f0 with
    | true => exact .inr ⟨j, rfl, hj⟩
    | false =>
      have hx : s.ops[cnt h j]? = some (opAt h h.length j) := by rw [I.ops]; exact opsTo_at (lastN_some hl).1 hj
      have hc : (opAt h h.length j).f1 = (ev h j).f2 := by unfold opAt opOf; split <;> rfl
      rw [I.pnd t j hl hj]
      left
      show (rd_T78 s.ops (cnt h j : Nat)).f1 = (ev h j).f2
      rw [← hc]
      unfold rd_T78
      rw [Int.toNat_natCast, List.getD_eq_getElem?_getD, hx]; rfl
/-- An answer's call counts only where a call is pending. -/
theorem errE_end {h : List S127} {s : RS} (I : Inv h h.length s) (t : Int) (a : S76) : errE h ⟨true, t, endC s t, a⟩ = errE h ⟨true, t, lastC h t, a⟩ ∧ (errE h ⟨true, t, lastC h t, a⟩ = 0 → endC s t = lastC h t) := by
  rcases endC_last I t with h1 | ⟨j, h1, h2⟩
  · rw [h1]; exact ⟨rfl, fun _ => rfl⟩
  · unfold errE
    simp only [h1, h2, if_true]
    refine ⟨trivial, ?_⟩
    split <;> intro h' <;> cases h'
theorem hEnd_tells (h : List S127) (hl : h.length ≤ 60) (t : Int) (ht : -9223372036854775808 ≤ t ∧ t ≤ 9223372036854775807) (a : S76) : hist_End.f h t a.f0 a.f1 a.f2 a.f3 a.f4 =
    some (if mayN (h ++ [(⟨true, t, lastC h t, a⟩ : S127)]) (h ++ [(⟨true, t, lastC h t, a⟩ : S127)]).length 0 = 0 then (h ++ [(⟨true, t, lastC h t, a⟩ : S127)], 0) else ([], mayN (h ++ [(⟨true, t, lastC h t, a⟩ : S127)]) (h ++ [(⟨true, t, lastC h t, a⟩ : S127)]).length 0)) := by
  obtain ⟨r1, r2, r3⟩ := rdAll_may h
  unfold hist_End.f
  rw [if_pos ⟨by omega, ht⟩, r1]
  by_cases hm : mayN h h.length 0 = 0
  · have I := r2 hm
    obtain ⟨e1, e2⟩ := errE_end I t a
    have := with_tells h hl ⟨true, t, endC (rdAll h).2 t, a⟩
    rw [if_pos hm, this]
    simp only [may_app, if_pos hm]
    rw [e1]
    by_cases he : errE h ⟨true, t, lastC h t, a⟩ = 0
    · rw [if_pos he, if_pos he, e2 he]
    · rw [if_neg he, if_neg he]
  · rw [if_neg hm]
    simp only [may_app, if_neg hm]
theorem histAdds_true (l : List S127) (t : Int) (ht : -9223372036854775808 ≤ t ∧ t ≤ 9223372036854775807) (c : S74) (a : S76) : boscagelaw32_HistAdds.f 1000 l t c.f0 c.f1 c.f2 c.f3 c.f4 a.f0 a.f1 a.f2 a.f3 a.f4 = some true := by
  have hl : (l.take 60).length ≤ 60 := by rw [List.length_take]; omega
  have htt : (l.take 60).take 60 = l.take 60 := by rw [List.take_take]; rfl
  unfold boscagelaw32_HistAdds.f
  simp only [few_tells, Option.bind_some, htt]
  generalize l.take 60 = h at hl
  unfold hist_Add.f
  have hw := with_tells h hl ⟨false, t, c, ⟨0, false, ⟨#[]⟩, ⟨#[]⟩, 0⟩⟩
  dsimp only at hw
  rw [hw, hEnd_tells h hl t ht a, refAdd_tells h hl t c, refEnd_tells h hl t a (by omega)]
  simp only [Option.bind_some]
  have l1 : (h ++ [(⟨false, t, c, ⟨0, false, ⟨#[]⟩, ⟨#[]⟩, 0⟩⟩ : S127)]).length ≤ 61 := by rw [List.length_append, List.length_singleton]; omega
  have l2 : (h ++ [(⟨true, t, lastC h t, a⟩ : S127)]).length ≤ 61 := by rw [List.length_append, List.length_singleton]; omega
  generalize h ++ [(⟨false, t, c, ⟨0, false, ⟨#[]⟩, ⟨#[]⟩, 0⟩⟩ : S127)] = u at l1
  generalize h ++ [(⟨true, t, lastC h t, a⟩ : S127)] = v at l2
  rw [may_tells u (by omega) (by omega), may_tells v (by omega) (by omega), Option.bind_some]
  have e : ∀ z : List S127, (if mayN z z.length 0 = 0 then (z, (0 : Int)) else ([], mayN z z.length 0)) = (if mayN z z.length 0 = 0 then z else [], mayN z z.length 0) := by
    intro z
    split <;> simp_all
  rw [e, e]
  simp only [if_true, Option.bind_some, boscagelaw32_HistAdds.j0]
  rw [if_neg (by simp)]
  have n0 := sameE_tells [] (by simp) (k := 998) (by omega)
  have nu := sameE_tells u (by omega) (k := 998) (by omega)
  have nv := sameE_tells v (by omega) (k := 998) (by omega)
  have hwk := works_tells (k := 998) (by omega)
  by_cases hu : mayN u u.length 0 = 0
  · rw [if_pos hu, if_pos hu]
    simp only [boscagelaw32_HistAdds.j1]
    by_cases hv : mayN v v.length 0 = 0
    · simp only [if_pos hv, nu, nv, Option.bind_some, hwk, if_true]
    · simp only [if_neg hv, nu, n0, Option.bind_some, hwk, if_true]
  · rw [if_neg hu, if_neg hu]
    simp only [boscagelaw32_HistAdds.j1]
    by_cases hv : mayN v v.length 0 = 0
    · simp only [if_pos hv, n0, nv, Option.bind_some, hwk, if_true]
    · simp only [if_neg hv, n0, Option.bind_some, hwk, if_true]
end Go.Proofs.Ytipdhjdlfdbkiaa.PHistAdds
