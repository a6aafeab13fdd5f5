/- The plain law of HistOps: what the printed functions compute answers true. -/
import Derived.Test.YtipdhjdlfdbkiaaPHistOpsx
namespace Go.Proofs.Ytipdhjdlfdbkiaa.PHistOps
open Go.RowKit Go.Proofs.YtipdhjdlfdbkiaaW.PrintWords Go.Proofs.YtipdhjdlfdbkiaaW.PrintLast Go.Proofs.YtipdhjdlfdbkiaaW.PrintMore
/-! The plain law of a history: words over its events. -/
def ev (h : List S127) (j : Nat) : S127 := rd_T127 h (j : Int)
def lastN (h : List S127) (t : Int) : Nat → Option Nat
  | 0 => none
  | n + 1 => if (ev h n).f1 = t then some n else lastN h t n
def errN (h : List S127) (k : Nat) : Int :=
  if (ev h k).f1 < 0 ∨ 63 < (ev h k).f1 then 2 else
  match lastN h (ev h k).f1 k with
  | some j => if (ev h j).f0 = (ev h k).f0 then 4 else
      if (ev h k).f0 = true then (if difC (ev h j).f2 (ev h k).f2 = true then 4 else 0) else (if difA (ev h k).f3 = true then 4 else 0)
  | none => if (ev h k).f0 = true then 4 else (if difA (ev h k).f3 = true then 4 else 0)
def mayN (h : List S127) : Nat → Nat → Int
  | 0, _ => 0
  | r + 1, k => if errN h k = 0 then mayN h r (k + 1) else errN h k
def firstM (h : List S127) (t : Int) : Nat → Nat → Option Nat
  | 0, _ => none
  | n + 1, a => if (ev h a).f0 = true ∧ (ev h a).f1 = t then some a else firstM h t n (a + 1)
def opOf (h : List S127) (j : Nat) : Option Nat → S78
  | none => opNew (ev h j) j h.length
  | some m => opEnd (opNew (ev h j) j h.length) (ev h m).f3 m
def opAt (h : List S127) (k j : Nat) : S78 := opOf h j (firstM h (ev h j).f1 (k - (j + 1)) (j + 1))
def opsTo (h : List S127) (k : Nat) : Nat → List S78
  | 0 => []
  | m + 1 => if (ev h m).f0 = true then opsTo h k m else opsTo h k m ++ [opAt h k m]
def cnt (h : List S127) : Nat → Nat
  | 0 => 0
  | m + 1 => if (ev h m).f0 = true then cnt h m else cnt h m + 1
def c80 (x : S78) : S80 := ⟨x.f0, x.f1, x.f2, x.f3, x.f4, x.f5⟩

theorem lastN_some {h : List S127} {t : Int} {j : Nat} : ∀ {n : Nat}, lastN h t n = some j → j < n ∧ (ev h j).f1 = t
  | 0, e => by cases e
  | n + 1, e => by
    unfold lastN at e
    split at e
    case isTrue h' => cases e; exact ⟨Nat.lt_succ_self _, h'⟩
    case isFalse => have := lastN_some e; exact ⟨by omega, this.2⟩
theorem lastN_after {h : List S127} {t : Int} {j : Nat} : ∀ {n : Nat}, lastN h t n = some j → ∀ i, j < i → i < n → (ev h i).f1 ≠ t
  | 0, e, _, _, _ => by cases e
  | n + 1, e, i, h1, h2 => by
    unfold lastN at e
    split at e
    case isTrue h' => cases e; omega
    case isFalse h' =>
      rcases Nat.lt_or_ge i n with h3 | h3
      · exact lastN_after e i h1 h3
      · obtain rfl : i = n := by omega
        exact h'
theorem firstM_none {h : List S127} {t : Int} : ∀ {n a : Nat}, (∀ i, a ≤ i → i < a + n → (ev h i).f1 ≠ t) → firstM h t n a = none
  | 0, _, _ => rfl
  | n + 1, a, H => by
    rw [firstM, if_neg (fun h' => H a (Nat.le_refl _) (by omega) h'.2)]
    exact firstM_none (fun i h1 h2 => H i (by omega) (by omega))
theorem firstM_ext (h : List S127) (t : Int) : ∀ n a, firstM h t (n + 1) a = match firstM h t n a with
    | some m => some m
    | none => if (ev h (a + n)).f0 = true ∧ (ev h (a + n)).f1 = t then some (a + n) else none
  | 0, a => by simp [firstM]
  | n + 1, a => by
    rw [firstM, firstM_ext h t n (a + 1)]
    conv => rhs; rw [firstM]
    rw [show a + 1 + n = a + (n + 1) by omega]
    split
    · rfl
    · rfl
theorem opsTo_congr {h : List S127} {k k' : Nat} : ∀ {m : Nat}, (∀ j, j < m → (ev h j).f0 = false → opAt h k j = opAt h k' j) → opsTo h k m = opsTo h k' m
  | 0, _ => rfl
  | m + 1, H => by
    unfold opsTo
    rw [opsTo_congr (fun j hj => H j (by omega))]
    split
    · rfl
    · rename_i h'; rw [H m (by omega) (by simpa using h')]
theorem opsTo_len {h : List S127} {k : Nat} : ∀ m, (opsTo h k m).length = cnt h m
  | 0 => rfl
  | m + 1 => by
    unfold opsTo cnt
    split
    · exact opsTo_len m
    · rw [List.length_append, opsTo_len m]; rfl
theorem cnt_succ (h : List S127) (m : Nat) : cnt h (m + 1) = if (ev h m).f0 = true then cnt h m else cnt h m + 1 := rfl
theorem cnt_mono {h : List S127} {j : Nat} : ∀ {m : Nat}, j < m → (ev h j).f0 = false → cnt h j < cnt h m
  | 0, hj, _ => by omega
  | m + 1, hj, hf => by
    rcases Nat.lt_or_ge j m with h' | h'
    · have := cnt_mono (m := m) h' hf
      rw [cnt_succ]; split <;> omega
    · obtain rfl : j = m := by omega
      rw [cnt_succ, if_neg (by simp [hf])]
      exact Nat.lt_succ_self _
theorem opsTo_at {h : List S127} {k j : Nat} : ∀ {m : Nat}, j < m → (ev h j).f0 = false → (opsTo h k m)[cnt h j]? = some (opAt h k j)
  | 0, hj, _ => by omega
  | m + 1, hj, hf => by
    rcases Nat.lt_or_ge j m with h' | h'
    · have h1 := opsTo_at (k := k) (m := m) h' hf
      have h2 : cnt h j < (opsTo h k m).length := by rw [opsTo_len]; exact cnt_mono h' hf
      unfold opsTo
      split
      · exact h1
      · rw [List.getElem?_append_left h2]; exact h1
    · obtain rfl : j = m := by omega
      unfold opsTo
      rw [if_neg (by simp [hf]), List.getElem?_append_right (by rw [opsTo_len]; exact Nat.le_refl _), opsTo_len, Nat.sub_self]; rfl
theorem opsTo_set {h : List S127} {k k' j : Nat} : ∀ {m : Nat}, j < m → (ev h j).f0 = false → (∀ i, i < m → i ≠ j → (ev h i).f0 = false → opAt h k i = opAt h k' i) →
    opsTo h k' m = (opsTo h k m).set (cnt h j) (opAt h k' j)
  | 0, hj, _, _ => by omega
  | m + 1, hj, hf, H => by
    rcases Nat.lt_or_ge j m with h' | h'
    · have h1 := opsTo_set (m := m) h' hf (fun i hi => H i (by omega))
      have h2 : cnt h j < (opsTo h k m).length := by rw [opsTo_len]; exact cnt_mono h' hf
      unfold opsTo
      split
      · exact h1
      · rename_i hm
        rw [List.set_append_left _ _ h2, h1, H m (by omega) (by omega) (by simpa using hm)]
    · obtain rfl : j = m := by omega
      unfold opsTo
      rw [if_neg (by simp [hf]), if_neg (by simp [hf]), List.set_append_right _ _ (by rw [opsTo_len]; exact Nat.le_refl _), opsTo_len, Nat.sub_self,
        opsTo_congr (fun i hi hif => (H i (by omega) (by omega) hif).symm)]
      rfl

/-- What a reader holds after the first k events. -/
structure Inv (h : List S127) (k : Nat) (s : RS) : Prop where
  ops : s.ops = opsTo h k k
  opn : ∀ t i, s.opn t = some i → ∃ j, lastN h t k = some j ∧ (ev h j).f0 = false ∧ i = cnt h j
  pnd : ∀ t j, lastN h t k = some j → (ev h j).f0 = false → s.opn t = some (cnt h j)
  alt : ∀ j, j < k → (ev h j).f0 = false → firstM h (ev h j).f1 (k - (j + 1)) (j + 1) = none → lastN h (ev h j).f1 k = some j

theorem Inv.start (h : List S127) : Inv h 0 RS.none :=
  ⟨rfl, fun t i e => by simp [RS.none] at e, fun t j e => by simp [lastN] at e, fun j hj => by omega⟩

theorem opAt_same {h : List S127} {k j : Nat} (hj : j < k) (hn : ¬((ev h k).f0 = true ∧ (ev h k).f1 = (ev h j).f1)) : opAt h (k + 1) j = opAt h k j := by
  unfold opAt
  rw [show k + 1 - (j + 1) = (k - (j + 1)) + 1 by omega, firstM_ext, show j + 1 + (k - (j + 1)) = k by omega, if_neg hn]
  split <;> simp_all

theorem Inv.new {h : List S127} {k : Nat} {s : RS} (I : Inv h k s) (hf : (ev h k).f0 = false) (hn : s.opn (ev h k).f1 = none) :
    Inv h (k + 1) ⟨s.ops ++ [opNew (ev h k) k h.length], RS.set s.opn (ev h k).f1 (some s.ops.length)⟩ := by
  refine ⟨?_, ?_, ?_, ?_⟩
  · show s.ops ++ _ = _
    rw [opsTo, if_neg (by simp [hf]), I.ops, opsTo_congr (k := k + 1) (k' := k) (fun j hj _ => opAt_same hj (by simp [hf]))]
    congr 2
    unfold opAt
    rw [Nat.sub_self]; rfl
  · intro t i e
    simp only [RS.set] at e
    split at e
    · rename_i ht
      subst ht
      cases e
      refine ⟨k, by simp [lastN], hf, by rw [I.ops, opsTo_len]⟩
    · rename_i ht
      obtain ⟨j, h1, h2, h3⟩ := I.opn t i e
      exact ⟨j, by rw [lastN, if_neg (fun h' => ht h'.symm)]; exact h1, h2, h3⟩
  · intro t j e hj
    simp only [RS.set]
    rw [lastN] at e
    split at e
    · rename_i ht
      cases e
      rw [if_pos ht.symm, I.ops, opsTo_len]
    · rename_i ht
      rw [if_neg (fun h' => ht h'.symm)]
      exact I.pnd t j e hj
  · intro j hj hjf hm
    rcases Nat.lt_or_ge j k with h' | h'
    · rw [show k + 1 - (j + 1) = (k - (j + 1)) + 1 by omega, firstM_ext] at hm
      have hm' : firstM h (ev h j).f1 (k - (j + 1)) (j + 1) = none := by
        split at hm
        · cases hm
        · assumption
      have hl := I.alt j h' hjf hm'
      rw [lastN]
      by_cases ht : (ev h k).f1 = (ev h j).f1
      · have := I.pnd _ j hl hjf
        rw [← ht, hn] at this
        cases this
      · rw [if_neg ht]; exact hl
    · obtain rfl : j = k := by omega
      simp [lastN]

theorem Inv.fin {h : List S127} {k : Nat} {s : RS} (I : Inv h k s) (hf : (ev h k).f0 = true) {i : Nat} (hn : s.opn (ev h k).f1 = some i) {x : S78} (hx : s.ops[i]? = some x) :
    Inv h (k + 1) ⟨s.ops.set i (opEnd x (ev h k).f3 k), RS.set s.opn (ev h k).f1 none⟩ := by
  obtain ⟨j, hl, hjf, rfl⟩ := I.opn _ _ hn
  obtain ⟨hjk, hjt⟩ := lastN_some hl
  have hne : ∀ i, i < k → i ≠ j → (ev h i).f0 = false → opAt h (k + 1) i = opAt h k i := by
    intro i hi hij hif
    unfold opAt
    rw [show k + 1 - (i + 1) = (k - (i + 1)) + 1 by omega, firstM_ext]
    split
    · rename_i m hm; rw [hm]
    · rename_i hm
      rw [hm, show i + 1 + (k - (i + 1)) = k by omega]
      rw [if_neg]
      intro hh
      have := I.alt i hi hif hm
      rw [← hh.2, hl] at this
      exact hij (Option.some.inj this).symm
  have hnone : firstM h (ev h j).f1 (k - (j + 1)) (j + 1) = none := firstM_none (fun i h1 h2 => by rw [hjt]; exact lastN_after hl i (by omega) (by omega))
  refine ⟨?_, ?_, ?_, ?_⟩
  · show s.ops.set _ _ = _
    rw [opsTo, if_pos hf, opsTo_set (k := k) (k' := k + 1) (j := j) hjk hjf (fun i hi hij hif => (hne i hi hij hif).symm), I.ops]
    congr 1
    rw [I.ops, opsTo_at hjk hjf] at hx
    cases hx
    unfold opAt
    rw [show k + 1 - (j + 1) = (k - (j + 1)) + 1 by omega, firstM_ext, hnone, show j + 1 + (k - (j + 1)) = k by omega]
    show opEnd _ _ _ = opOf h j (if _ then _ else _)
    rw [if_pos ⟨hf, hjt.symm⟩]
    rfl
  · intro t i e
    simp only [RS.set] at e
    split at e
    · cases e
    · rename_i ht
      obtain ⟨j, h1, h2, h3⟩ := I.opn t i e
      exact ⟨j, by rw [lastN, if_neg (fun h' => ht h'.symm)]; exact h1, h2, h3⟩
  · intro t j e hj
    simp only [RS.set]
    rw [lastN] at e
    split at e
    · cases e
      rw [hf] at hj; cases hj
    · rename_i ht
      rw [if_neg (fun h' => ht h'.symm)]
      exact I.pnd t j e hj
  · intro i hi hif hm
    rcases Nat.lt_or_ge i k with h' | h'
    · rw [show k + 1 - (i + 1) = (k - (i + 1)) + 1 by omega, firstM_ext] at hm
      split at hm
      · cases hm
      · rename_i hm'
        have hl' := I.alt i h' hif hm'
        rw [show i + 1 + (k - (i + 1)) = k by omega] at hm
        rw [lastN, if_neg]
        · exact hl'
        · intro h''
          rw [if_pos ⟨hf, h''⟩] at hm
          cases hm
    · obtain rfl : i = k := by omega
      rw [hf] at hif; cases hif

theorem Inv.step {h : List S127} {k : Nat} {s : RS} (I : Inv h k s) :
    (evStep h.length k (ev h k) s).1 = errN h k ∧ (errN h k = 0 → Inv h (k + 1) (evStep h.length k (ev h k) s).2) := by
  unfold evStep errN
  by_cases hb : (ev h k).f1 < 0 ∨ 64 ≤ (ev h k).f1
  · have hb' : (ev h k).f1 < 0 ∨ 63 < (ev h k).f1 := by omega
    rw [if_pos hb, if_pos hb']
    exact ⟨rfl, fun h' => by cases h'⟩
  · have hb' : ¬((ev h k).f1 < 0 ∨ 63 < (ev h k).f1) := by omega
    rw [if_neg hb, if_neg hb']
    clear hb hb'
    cases hl : lastN h (ev h k).f1 k with
    | none =>
      have hn : s.opn (ev h k).f1 = none := by
        cases hs : s.opn (ev h k).f1 with
        | none => rfl
        | some i => obtain ⟨j, h1, _⟩ := I.opn _ _ hs; rw [hl] at h1; cases h1
      cases hf : (ev h k).f0 with
      | true => rw [hn]; exact ⟨rfl, fun h' => by cases h'⟩
      | false =>
        rw [hn]
        by_cases hd : difA (ev h k).f3 = true
        · simp [hd]
        · simp only [hd]; exact ⟨rfl, fun _ => I.new hf hn⟩
    | some j =>
      obtain ⟨hjk, hjt⟩ := lastN_some hl
      cases hjf : (ev h j).f0 with
      | true =>
        have hn : s.opn (ev h k).f1 = none := by
          cases hs : s.opn (ev h k).f1 with
          | none => rfl
          | some i => obtain ⟨j', h1, h2, _⟩ := I.opn _ _ hs; rw [hl] at h1; cases h1; rw [hjf] at h2; cases h2
        cases hf : (ev h k).f0 with
        | true => rw [hn]; simp [hjf]
        | false =>
          rw [hn]
          by_cases hd : difA (ev h k).f3 = true
          · simp [hd, hjf]
          · simp only [hd, hjf]; exact ⟨rfl, fun _ => I.new hf hn⟩
      | false =>
        have hn := I.pnd _ j hl hjf
        cases hf : (ev h k).f0 with
        | false => rw [hn]; simp [hjf]
        | true =>
          have hx : s.ops[cnt h j]? = some (opAt h k j) := by rw [I.ops]; exact opsTo_at hjk hjf
          rw [hn]
          have hc : (opAt h k j).f1 = (ev h j).f2 := by unfold opAt opOf; split <;> rfl
          by_cases hd : difC (ev h j).f2 (ev h k).f2 = true
          · simp [hx, hd, hjf, hc]
          · simp only [hx, hjf, hc, hd]; exact ⟨rfl, fun _ => I.fin hf hn hx⟩

theorem ev_drop {h : List S127} {k : Nat} (hk : k < h.length) : h.drop k = ev h k :: h.drop (k + 1) := by
  rw [List.drop_eq_getElem_cons hk]
  congr 1
  unfold ev rd_T127
  simp [hk]

theorem rdFrom_may {h : List S127} : ∀ r k s, r + k = h.length → Inv h k s →
    (rdFrom h.length (h.drop k) k s).1 = mayN h r k ∧ (mayN h r k = 0 → Inv h h.length (rdFrom h.length (h.drop k) k s).2) ∧ (mayN h r k ≠ 0 → (rdFrom h.length (h.drop k) k s).2 = RS.none)
  | 0, k, s, hr, I => by
    obtain rfl : k = h.length := by omega
    rw [List.drop_length]
    exact ⟨rfl, fun _ => I, fun h' => absurd rfl h'⟩
  | r + 1, k, s, hr, I => by
    have hk : k < h.length := by omega
    obtain ⟨h1, h2⟩ := I.step
    rw [ev_drop hk]
    unfold rdFrom mayN
    rw [h1]
    by_cases he : errN h k = 0
    · rw [if_pos he, if_pos he]
      exact rdFrom_may r (k + 1) _ (by omega) (h2 he)
    · rw [if_neg he, if_neg he]
      exact ⟨rfl, fun h' => absurd h' he, fun _ => rfl⟩

theorem rdAll_may (h : List S127) : (rdAll h).1 = mayN h h.length 0 ∧ (mayN h h.length 0 = 0 → Inv h h.length (rdAll h).2) ∧ (mayN h h.length 0 ≠ 0 → (rdAll h).2 = RS.none) :=
  rdFrom_may h.length 0 RS.none rfl (Inv.start h)

theorem refDn_of {h : List S127} {j : Nat} : ∀ d, d ≤ h.length → refDn h j d = c80 (opOf h j (firstM h (ev h j).f1 d (h.length - d)))
  | 0, _ => rfl
  | d + 1, hd => by
    have e1 : (h.length : Int) - 1 - (d : Int) = ((h.length - (d + 1) : Nat) : Int) := by omega
    unfold refDn firstM
    rw [refDn_of d (by omega), e1, show h.length - (d + 1) + 1 = h.length - d by omega]
    show (if (ev h _).f0 = true ∧ (ev h _).f1 = (ev h j).f1 then _ else _) = _
    split
    · show _ = c80 (opOf h j (some _))
      cases firstM h (ev h j).f1 d (h.length - d) <;> rfl
    · rfl
theorem refTo_of {h : List S127} : ∀ m, m ≤ h.length → refTo h m = (opsTo h h.length m).map c80
  | 0, _ => rfl
  | m + 1, hm => by
    unfold refTo opsTo
    rw [refTo_of m (by omega)]
    show (if (ev h m).f0 = true then _ else _) = _
    split
    · rfl
    · rw [List.map_append, List.map_singleton, refDn_of _ (by omega), show h.length - (h.length - (m + 1)) = m + 1 by omega]
      rfl
theorem refOps_of (h : List S127) : refOps h = (opsTo h h.length h.length).map c80 := refTo_of _ (Nat.le_refl _)
/-- The threads whose last event is an unanswered call. -/
def pendN (h : List S127) : List Int := ((List.range 64).map Int.ofNat).filter fun t => match lastN h t h.length with
  | some j => !(ev h j).f0
  | none => false
theorem pend_of_inv {h : List S127} {s : RS} (I : Inv h h.length s) : pend s.opn = pendN h := by
  unfold pend pendN
  apply List.filter_congr
  intro t _
  cases hl : lastN h t h.length with
  | none =>
    cases hs : s.opn t with
    | none => rfl
    | some i => obtain ⟨j, h1, _⟩ := I.opn _ _ hs; rw [hl] at h1; cases h1
  | some j =>
    cases hjf : (ev h j).f0 with
    | false => rw [I.pnd t j hl hjf]; simp [hjf]
    | true =>
      cases hs : s.opn t with
      | none => simp [hjf]
      | some i => obtain ⟨j', h1, h2, _⟩ := I.opn _ _ hs; rw [hl] at h1; cases h1; rw [hjf] at h2; cases h2
theorem wrap_up {i : Nat} (h : i ≤ 1099511627776) : wrap64 ((i : Int) + 1) = ((i + 1 : Nat) : Int) := by unfold wrap64; omega
theorem wrap_dn {i : Nat} (h : i ≤ 1099511627776) : wrap64 ((i : Int) - 1) = (i : Int) - 1 := by unfold wrap64; omega
theorem same_loop (l : List Int) (hl : l.length ≤ 1099511627776) : ∀ (d i k : Nat), d + i = l.length → d < k → boscagebase_SameInts.l0 k l l (i : Int) = some true
  | 0, i, k, h1, h2 => by
    obtain ⟨k, rfl⟩ : ∃ m, k = m + 1 := ⟨k - 1, by omega⟩
    simp only [boscagebase_SameInts.l0]
    rw [if_neg (by omega)]
  | d + 1, i, k, h1, h2 => by
    obtain ⟨k, rfl⟩ : ∃ m, k = m + 1 := ⟨k - 1, by omega⟩
    simp only [boscagebase_SameInts.l0]
    rw [if_pos (by omega), if_pos (by omega), if_pos (by omega), if_pos trivial, wrap_up (by omega)]
    exact same_loop l hl d (i + 1) k (by omega) (by omega)
theorem same_tells (l : List Int) (hl : l.length ≤ 1099511627776) {k : Nat} (hk : l.length < k) : boscagebase_SameInts.f k l l = some true := by
  unfold boscagebase_SameInts.f
  rw [if_pos rfl]
  exact same_loop l hl l.length 0 k (by omega) hk
theorem few_tells (l : List S127) : boscagelaw32_few.f l = some (l.take 60) := by
  unfold boscagelaw32_few.f
  have h : (mn (l.length : Int) 60) = ((min l.length 60 : Nat) : Int) := by unfold mn; split <;> omega
  rw [h, Option.bind_some, if_pos (by omega), if_pos (by omega), Option.bind_some, Int.toNat_natCast]
  have h2 : l.take (min l.length 60) = l.take 60 := by
    rcases Nat.le_total l.length 60 with h' | h'
    · rw [Nat.min_eq_left h', List.take_of_length_le (Nat.le_refl _), List.take_of_length_le h']
    · rw [Nat.min_eq_right h']
  rw [h2, if_pos (by simp only [List.length_nil, List.length_take]; omega), List.nil_append]
def lastI : Option Nat → Int
  | some j => (j : Int)
  | none => -1
theorem last_loop (h : List S127) (t : Int) (hl : h.length ≤ 60) : ∀ (n k : Nat), n ≤ h.length → n < k → boscageref32_last.l0 k h t ((n : Int) - 1) = some (lastI (lastN h t n))
  | 0, k, h1, h2 => by
    obtain ⟨k, rfl⟩ : ∃ m, k = m + 1 := ⟨k - 1, by omega⟩
    simp only [boscageref32_last.l0]
    rw [if_neg (by omega)]; rfl
  | n + 1, k, h1, h2 => by
    obtain ⟨k, rfl⟩ : ∃ m, k = m + 1 := ⟨k - 1, by omega⟩
    have e : ((n + 1 : Nat) : Int) - 1 = (n : Int) := by omega
    rw [e]
    simp only [boscageref32_last.l0]
    rw [if_pos (by omega), if_pos (by omega), if_pos (by omega), wrap_dn (by omega), last_loop h t hl n k (by omega) (by omega)]
    show (if (ev h n).f1 = t then _ else _) = some (lastI (if _ then _ else _))
    split <;> rfl
theorem last_tells (h : List S127) (t : Int) (hl : h.length ≤ 60) {n k : Nat} (hn : n ≤ h.length) (hk : n < k) : boscageref32_last.f k h t (n : Int) = some (lastI (lastN h t n)) := by
  unfold boscageref32_last.f
  rw [wrap_dn (by omega)]
  exact last_loop h t hl n k hn hk
theorem difA_eq (x : S76) : (!(x.f0 == 0) || (x.f1 || (!(x.f2.toList == ([] : List UInt8)) || (!(x.f3.toList == ([] : List UInt8)) || (!(x.f4 == 0)))))) = difA x := by
  have h : ∀ l : List UInt8, (l == []) = l.isEmpty := fun l => by cases l <;> rfl
  unfold difA
  rw [h, h]
theorem err_tells (h : List S127) (hl : h.length ≤ 60) {j k : Nat} (hj : j < h.length) (hk : j + 3 < k) : boscageref32_Err.f k h (j : Int) = some (errN h j) := by
  obtain ⟨k, rfl⟩ : ∃ m, k = m + 2 := ⟨k - 2, by omega⟩
  have key : ∀ b : Bool, (b = true ↔ ((ev h j).f1 < 0 ∨ 63 < (ev h j).f1)) → boscageref32_Err.j0 (k + 2) h j b ((ev h j).f0) ((ev h j).f1) ((ev h j).f2.f0) ((ev h j).f2.f1) ((ev h j).f2.f2) ((ev h j).f2.f3) ((ev h j).f2.f4) ((ev h j).f3.f0) ((ev h j).f3.f1) ((ev h j).f3.f2) ((ev h j).f3.f3) ((ev h j).f3.f4) = some (errN h j) := by
    intro b hb
    simp only [boscageref32_Err.j0]
    rw [last_tells h _ hl (by omega) (by omega), Option.bind_some]
    unfold errN
    by_cases hbt : b = true
    · rw [if_pos hbt, if_pos (hb.1 hbt)]
    · rw [if_neg hbt, if_neg (fun h' => hbt (hb.2 h'))]
      cases hl : lastN h (ev h j).f1 j with
      | none =>
        show (if (-1 : Int) ≥ 0 then _ else _) = _
        rw [if_neg (by omega)]
        simp only [boscageref32_Err.j1]
        cases hf : (ev h j).f0 with
        | true => rfl
        | false =>
          rw [difA_eq]
          show (if difA _ = true then _ else _) = some (if difA _ = true then _ else _)
          split <;> rfl
      | some i =>
        obtain ⟨h1, h2⟩ := lastN_some hl
        rw [show lastI (some i) = (i : Int) from rfl]
        rw [if_pos (by omega), if_pos (by omega), if_pos (by omega)]
        simp only [boscageref32_Err.j1]
        rw [difA_eq]
        rw [show (rd_T127 h (i : Int)) = ev h i from rfl]
        cases hf : (ev h j).f0 with
        | true =>
          cases hi : (ev h i).f0 with
          | true => rfl
          | false =>
            rw [if_neg (by decide), if_pos rfl, if_pos (by omega), if_pos (by omega)]
            show (if difC (ev h i).f2 (ev h j).f2 = true then some 4 else some 0) = some (if difC (ev h i).f2 (ev h j).f2 = true then (4 : Int) else 0)
            split <;> rfl
        | false =>
          cases hi : (ev h i).f0 with
          | false => rfl
          | true =>
            rw [if_neg (by decide), if_neg (by decide)]
            show (if difA (ev h j).f3 = true then some 4 else some 0) = some (if difA (ev h j).f3 = true then (4 : Int) else 0)
            split <;> rfl
  unfold boscageref32_Err.f
  rw [if_pos (by omega), if_pos (by omega)]
  rw [show (rd_T127 h (j : Int)) = ev h j from rfl]
  split
  · exact key true (by simp_all)
  · exact key _ (by simp only [decide_eq_true_eq]; omega)
theorem may_loop (h : List S127) (hl : h.length ≤ 60) : ∀ (r j k : Nat), r + j = h.length → 64 + r < k → boscageref32_May.l0 k h (j : Int) = some (mayN h r j)
  | 0, j, k, h1, h2 => by
    obtain ⟨k, rfl⟩ : ∃ m, k = m + 1 := ⟨k - 1, by omega⟩
    simp only [boscageref32_May.l0]
    rw [if_neg (by omega)]; rfl
  | r + 1, j, k, h1, h2 => by
    obtain ⟨k, rfl⟩ : ∃ m, k = m + 1 := ⟨k - 1, by omega⟩
    simp only [boscageref32_May.l0]
    rw [if_pos (by omega), err_tells h hl (by omega) (by omega), Option.bind_some, wrap_up (by omega)]
    unfold mayN
    split
    · exact may_loop h hl r (j + 1) k (by omega) (by omega)
    · rfl
theorem may_tells (h : List S127) (hl : h.length ≤ 60) {k : Nat} (hk : 200 ≤ k) : boscageref32_May.f k h = some (mayN h h.length 0) :=
  may_loop h hl h.length 0 k rfl (by omega)
def pendB (h : List S127) (t : Int) : Bool := match lastN h t h.length with
  | some j => !(ev h j).f0
  | none => false
theorem pend_loop (h : List S127) (hl : h.length ≤ 60) : ∀ (d t k : Nat) (acc : List Int), d + t = 64 → 64 + d < k → acc.length ≤ t →
    boscageref32_Pending.l0 k h acc (t : Int) = some (acc ++ ((List.range' t d).map Int.ofNat).filter (pendB h))
  | 0, t, k, acc, h1, h2, h3 => by
    obtain ⟨k, rfl⟩ : ∃ m, k = m + 1 := ⟨k - 1, by omega⟩
    simp only [boscageref32_Pending.l0]
    rw [if_neg (by omega)]
    simp
  | d + 1, t, k, acc, h1, h2, h3 => by
    obtain ⟨k, rfl⟩ : ∃ m, k = m + 1 := ⟨k - 1, by omega⟩
    simp only [boscageref32_Pending.l0]
    rw [if_pos (by omega), last_tells h _ hl (Nat.le_refl _) (by omega), Option.bind_some, wrap_up (by omega)]
    rw [List.range'_succ, List.map_cons, List.filter_cons]
    have e : pendB h (Int.ofNat t) = match lastN h (t : Int) h.length with
      | some j => !(ev h j).f0
      | none => false := rfl
    rw [e]
    cases hc : lastN h (t : Int) h.length with
    | none =>
      rw [show lastI none = -1 from rfl, if_neg (by omega), pend_loop h hl d (t + 1) k acc (by omega) (by omega) (by omega)]
      simp
    | some j =>
      obtain ⟨hj, _⟩ := lastN_some hc
      rw [show lastI (some j) = (j : Int) from rfl, if_pos (by omega), if_pos (by omega), if_pos (by omega), show rd_T127 h (j : Int) = ev h j from rfl]
      cases hf : (ev h j).f0 with
      | true =>
        rw [if_pos rfl, pend_loop h hl d (t + 1) k acc (by omega) (by omega) (by omega)]
        simp [hf]
      | false =>
        rw [if_neg (by decide), if_pos (by omega), pend_loop h hl d (t + 1) k _ (by omega) (by omega) (by rw [List.length_append, List.length_singleton]; omega)]
        simp [hf]
theorem pend_tells (h : List S127) (hl : h.length ≤ 60) {k : Nat} (hk : 200 ≤ k) : boscageref32_Pending.f k h = some (pendN h) := by
  unfold boscageref32_Pending.f
  rw [show (0 : Int) = ((0 : Nat) : Int) from rfl, pend_loop h hl 64 0 k [] rfl (by omega) (Nat.le_refl _), List.nil_append, ← List.range_eq_range']
  rfl
theorem pendN_len (h : List S127) : (pendN h).length ≤ 64 := by
  unfold pendN
  refine Nat.le_trans (List.length_filter_le _ _) ?_
  simp
theorem opsTo_small (h : List S127) (k : Nat) : ∀ m, (opsTo h k m).length ≤ m
  | 0 => Nat.le_refl _
  | m + 1 => by
    unfold opsTo
    have := opsTo_small h k m
    split
    · omega
    · rw [List.length_append, List.length_singleton]; omega
theorem nil_toList : ((⟨#[]⟩ : ByteArray).toList) = [] := by
  unfold ByteArray.toList
  unfold ByteArray.toList.loop
  rfl
theorem works_tells {k : Nat} (hk : 200 ≤ k) : boscagelaw32_works.f k = some true := by
  unfold boscagelaw32_works.f
  rw [Option.bind_some]
  have hA : difA (⟨0, false, ⟨#[]⟩, ⟨#[]⟩, 0⟩ : S76) = false := by simp [difA]
  have hC : difC (⟨7, ⟨#[]⟩, ⟨#[]⟩, ⟨#[]⟩, 0⟩ : S74) ⟨7, ⟨#[]⟩, ⟨#[]⟩, ⟨#[]⟩, 0⟩ = false := by simp [difC]
  have h1 : ∀ a b c : S127, hist_Pending.f [a, b, c] = some (pend (rdAll [a, b, c]).2.opn, (rdAll [a, b, c]).1) := fun _ _ _ => rfl
  have h2 : ∀ a b c : S127, hist_Ops.f [a, b, c] = some ((rdAll [a, b, c]).2.ops, (rdAll [a, b, c]).1) := fun _ _ _ => rfl
  have h3 : ∀ a : S127, hist_May.f [a] = some (rdAll [a]).1 := fun _ => rfl
  rw [h1, h2, Option.bind_some, Option.bind_some]
  have hr : rdAll [(⟨false, 0, (⟨7, (⟨#[]⟩ : ByteArray), (⟨#[]⟩ : ByteArray), (⟨#[]⟩ : ByteArray), 0⟩ : S74), (⟨0, false, (⟨#[]⟩ : ByteArray), (⟨#[]⟩ : ByteArray), 0⟩ : S76)⟩ : S127), (⟨false, 1, (⟨7, (⟨#[]⟩ : ByteArray), (⟨#[]⟩ : ByteArray), (⟨#[]⟩ : ByteArray), 0⟩ : S74), (⟨0, false, (⟨#[]⟩ : ByteArray), (⟨#[]⟩ : ByteArray), 0⟩ : S76)⟩ : S127), (⟨true, 0, (⟨7, (⟨#[]⟩ : ByteArray), (⟨#[]⟩ : ByteArray), (⟨#[]⟩ : ByteArray), 0⟩ : S74), (⟨0, false, (⟨#[]⟩ : ByteArray), (⟨#[]⟩ : ByteArray), 0⟩ : S76)⟩ : S127)] = (0, ⟨[⟨0, ⟨7, ⟨#[]⟩, ⟨#[]⟩, ⟨#[]⟩, 0⟩, ⟨0, false, ⟨#[]⟩, ⟨#[]⟩, 0⟩, true, 0, 2⟩, ⟨1, ⟨7, ⟨#[]⟩, ⟨#[]⟩, ⟨#[]⟩, 0⟩, ⟨0, false, ⟨#[]⟩, ⟨#[]⟩, 0⟩, false, 1, 3⟩], RS.set (RS.set (RS.set RS.none.opn 0 (some 0)) 1 (some 1)) 0 none⟩) := by
    simp [rdAll, rdFrom, evStep, hA, hC, RS.none, RS.set, opNew, opEnd, zA]
  rw [hr]
  have hp : pend (RS.set (RS.set (RS.set RS.none.opn 0 (some 0)) 1 (some 1)) 0 none) = [1] := by decide
  simp only []
  rw [hp, same_tells _ (by simp) (by simp; omega), Option.bind_some, if_pos rfl, if_pos trivial, if_pos trivial, if_pos (by simp), if_pos (by simp), if_pos (by simp [rd_T78]), if_pos (by simp), if_neg (by simp [rd_T78]), if_pos (by simp)]
  rw [show ∀ a b c : S127, List.drop 2 [a, b, c] = [c] from fun _ _ _ => rfl, h3, Option.bind_some]
  have hz : (rdAll [(⟨true, 0, (⟨7, (⟨#[]⟩ : ByteArray), (⟨#[]⟩ : ByteArray), (⟨#[]⟩ : ByteArray), 0⟩ : S74), (⟨0, false, (⟨#[]⟩ : ByteArray), (⟨#[]⟩ : ByteArray), 0⟩ : S76)⟩ : S127)]).1 = 4 := by
    simp [rdAll, rdFrom, evStep, RS.none]
  rw [hz]; rfl
theorem rd78_map (l : List S78) (i : Nat) (hi : i < l.length) : rd_T80 (l.map c80) (i : Int) = c80 (rd_T78 l (i : Int)) := by
  unfold rd_T80 rd_T78
  simp [hi]
theorem ops_loop (l : List S78) (hl : l.length ≤ 100) : ∀ (d i k : Nat), d + i = l.length → 200 + d < k → boscagelaw32_HistOps.l0 k l (l.map c80) (i : Int) = some true
  | 0, i, k, h1, h2 => by
    obtain ⟨k, rfl⟩ : ∃ m, k = m + 1 := ⟨k - 1, by omega⟩
    simp only [boscagelaw32_HistOps.l0]
    rw [if_neg (by rw [List.length_map]; omega), works_tells (by omega)]; rfl
  | d + 1, i, k, h1, h2 => by
    obtain ⟨k, rfl⟩ : ∃ m, k = m + 1 := ⟨k - 1, by omega⟩
    simp only [boscagelaw32_HistOps.l0]
    rw [if_pos (by rw [List.length_map]; omega), if_pos (by omega), if_pos (by omega), wrap_up (by omega)]
    simp only [boscagelaw32_Give.f, Option.bind_some]
    rw [rd78_map l i (by omega)]
    rw [if_neg (by simp [c80])]
    exact ops_loop l hl d (i + 1) k (by omega) (by omega)
theorem histOps_true (l : List S127) : boscagelaw32_HistOps.f 1000 l = some true := by
  have hl : (l.take 60).length ≤ 60 := by rw [List.length_take]; omega
  have htt : (l.take 60).take 60 = l.take 60 := by rw [List.take_take]; rfl
  unfold boscagelaw32_HistOps.f
  simp only [few_tells, Option.bind_some, htt]
  generalize l.take 60 = h at hl
  obtain ⟨r1, r2, r3⟩ := rdAll_may h
  rw [may_tells h hl (by omega), Option.bind_some]
  unfold hist_Ops.f hist_Pending.f hist_May.f
  rw [if_pos (by omega)]
  simp only [if_pos (show h.length ≤ 1000000 by omega), Option.bind_some, r1]
  rw [if_pos trivial, if_pos trivial]
  simp only [boscagelaw32_HistOps.j0]
  rw [if_neg (by simp)]
  by_cases hm : mayN h h.length 0 = 0
  · have I := r2 hm
    rw [if_pos hm]
    unfold ref32_Ops.f
    rw [if_pos (by omega), Option.bind_some, refOps_of, I.ops, List.length_map, if_pos rfl, pend_tells h hl (by omega), Option.bind_some, pend_of_inv I, same_tells _ (by have := pendN_len h; omega) (by have := pendN_len h; omega), Option.bind_some]
    simp only [boscagelaw32_HistOps.j1]
    rw [if_neg (by decide)]
    have := opsTo_small h h.length h.length
    exact ops_loop _ (by omega) (opsTo h h.length h.length).length 0 _ (by omega) (by omega)
  · rw [if_neg hm, r3 hm, works_tells (by omega)]
    rfl
end Go.Proofs.Ytipdhjdlfdbkiaa.PHistOps
