/- What the functions of the law PairChanges compute, and that the law tells true. -/
import Derived.Test.YtipdhjdlfdbkiaaPPairChangesx
namespace Go.Proofs.Ytipdhjdlfdbkiaa.PurePairChanges
open Go.RowKit Go.Proofs.Ytipdhjdlfdbkiaa.PPairChanges Go.Proofs.YtipdhjdlfdbkiaaW.PrintWords Go.Proofs.YtipdhjdlfdbkiaaW.PrintLast Go.Proofs.YtipdhjdlfdbkiaaW.PrintMore
/-! ### what the printed functions tell -/
def OkB (B : Nat) (l : List S56) : Prop := l.length ≤ B ∧ ∀ p ∈ l, p.f0.size ≤ 1099511627776
theorem OkB.fit {B : Nat} {l : List S56} (h : OkB B l) (hB : B ≤ 1099511627776) : fit l = true := by
  unfold Go.Proofs.Ytipdhjdlfdbkiaa.PPairChanges.fit
  simp only [Bool.and_eq_true, decide_eq_true_eq, List.all_eq_true]
  exact ⟨by have := h.1; omega, h.2⟩
theorem OkB.mono {B C : Nat} {l : List S56} (h : OkB B l) (hB : B ≤ C) : OkB C l := ⟨by have := h.1; omega, h.2⟩
theorem OkB.put {B : Nat} {l : List S56} (h : OkB B l) (p : S56) (hp : p.f0.size ≤ 1099511627776) : OkB (B + 1) (putL l p) := by
  have h1 := h.1
  unfold putL
  split
  · refine ⟨by rw [List.length_set]; omega, fun q hq => ?_⟩
    rcases List.mem_or_eq_of_mem_set hq with h2 | h2
    · exact h.2 q h2
    · rw [h2]; exact hp
  · refine ⟨by simp only [List.length_append, List.length_cons, List.length_take, List.length_drop]; have := low_le l p.f0; omega, fun q hq => ?_⟩
    rw [List.mem_append, List.mem_cons] at hq
    rcases hq with hq | hq | hq
    · exact h.2 q (List.mem_of_mem_take hq)
    · rw [hq]; exact hp
    · exact h.2 q (List.mem_of_mem_drop hq)
theorem OkB.fold {B : Nat} : ∀ (l acc : List S56), OkB B acc → (∀ p ∈ l, p.f0.size ≤ 1099511627776) → OkB (B + l.length) (l.foldl putL acc)
  | [], _, h, _ => h
  | p :: l, acc, h, hl => by
    have := OkB.fold l _ (h.put p (hl p (by simp))) (fun q hq => hl q (by simp [hq]))
    rw [List.foldl_cons, List.length_cons]
    exact this.mono (by omega)
theorem OkB.mk {B : Nat} {l : List S56} (h : OkB B l) : OkB B (mkL l) := by
  have : OkB 0 ([] : List S56) := ⟨by simp, by simp⟩
  exact (OkB.fold l [] this h.2).mono (by have := h.1; omega)
theorem OkB.ord {B : Nat} {l : List S56} (h : OkB B l) : OkB B (ordL l) := by rw [ord_mk]; exact h.mk
theorem OkB.drop {B : Nat} {l : List S56} (h : OkB B l) (key : ByteArray) : OkB B (dropL l key) := by
  unfold dropL
  split
  · exact ⟨by have := List.length_eraseIdx_le l (low l key); have := h.1; omega, fun q hq => h.2 q (List.mem_of_mem_eraseIdx hq)⟩
  · exact h
theorem rd_at {l : List S56} {i : Nat} {p : S56} (h : l[i]? = some p) : rd_T56 l (i : Int) = p := by
  unfold rd_T56
  rw [Int.toNat_natCast, List.getD_eq_getElem?_getD, h]; rfl
theorem wrap_up {i : Nat} (h : i ≤ 1099511627776) : wrap64 ((i : Int) + 1) = ((i + 1 : Nat) : Int) := by unfold wrap64; omega
theorem wrap_dn {i : Nat} (h : i ≤ 1099511627776) (h0 : 1 ≤ i) : wrap64 ((i : Int) - 1) = ((i - 1 : Nat) : Int) := by unfold wrap64; omega
theorem cmp_tells {B : Nat} {l : List S56} (h : OkB B l) {p q : S56} (hp : p ∈ l) (hq : q ∈ l) : order_Compare.f p.f0 q.f0 = some (cmpS p.f0 q.f0) := by
  unfold order_Compare.f; rw [if_pos ⟨h.2 p hp, h.2 q hq⟩]
theorem is_loop {B : Nat} {l : List S56} (h : OkB B l) (hB : B ≤ 1099511627776) : ∀ (d i k : Nat), 1 ≤ i → i ≤ l.length → l.length - i = d → d < k → pair_Is.l0 k l (l.length : Int) (i : Int) = some (srt (l.drop (i - 1)))
  | 0, i, k, h1, h2, h3, h4 => by
    obtain ⟨k, rfl⟩ : ∃ m, k = m + 1 := ⟨k - 1, by omega⟩
    have hi : i = l.length := by omega
    simp only [pair_Is.l0]
    rw [if_neg (by omega)]
    have : (l.drop (i - 1)).length = 1 := by rw [List.length_drop]; omega
    obtain ⟨a, ha⟩ := List.length_eq_one_iff.1 this
    rw [ha]; rfl
  | d + 1, i, k, h1, h2, h3, h4 => by
    obtain ⟨k, rfl⟩ : ∃ m, k = m + 1 := ⟨k - 1, by omega⟩
    have hl := h.1
    have hp : l[i - 1]? = some l[i - 1] := List.getElem?_eq_getElem (by omega)
    have hq : l[i]? = some l[i] := List.getElem?_eq_getElem (by omega)
    simp only [pair_Is.l0]
    rw [if_pos (by omega), if_pos (by omega), wrap_dn (by omega) h1, if_pos (by omega), if_pos (by omega), if_pos (by omega), if_pos (by omega), rd_at hp, rd_at hq, cmp_tells h (List.getElem_mem _) (List.getElem_mem _), Option.bind_some, wrap_up (by omega), is_loop h hB d (i + 1) k (by omega) (by omega) (by omega) (by omega)]
    have e1 : l.drop (i - 1) = l[i - 1] :: l.drop i := by
      rw [List.drop_eq_getElem_cons (by omega)]; congr 2; omega
    have e2 : l.drop i = l[i] :: l.drop (i + 1) := List.drop_eq_getElem_cons (by omega)
    rw [e1, Nat.add_sub_cancel]
    have e3 : srt (l[i - 1] :: l.drop i) = (decide (cmpS l[i - 1].f0 l[i].f0 < 0) && srt (l.drop i)) := by rw [e2]; rfl
    rw [e3]
    by_cases hc : cmpS l[i - 1].f0 l[i].f0 ≥ 0
    · rw [if_pos hc, decide_eq_false (by omega)]; rfl
    · rw [if_neg hc, decide_eq_true (by omega)]; rfl
theorem is_tells {B : Nat} {l : List S56} (h : OkB B l) (hB : B ≤ 1099511627776) {k : Nat} (hk : B < k) : pair_Is.f k l = some (srt l) := by
  unfold pair_Is.f
  have hl := h.1
  obtain ⟨k, rfl⟩ : ∃ m, k = m + 1 := ⟨k - 1, by omega⟩
  by_cases h0 : l.length = 0
  · obtain rfl := List.eq_nil_of_length_eq_zero h0
    simp only [pair_Is.l0]
    rw [if_neg (by simp)]; rfl
  · simp only [pair_Is.l0]
    rw [if_pos (by omega), if_neg (by omega), show wrap64 ((0 : Int) + 1) = ((1 : Nat) : Int) from by unfold wrap64; omega, is_loop h hB (l.length - 1) 1 k (by omega) (by omega) rfl (by omega)]
    rfl
theorem place_tells {B : Nat} {l : List S56} (h : OkB B l) (hB : B ≤ 1099511627776) (hs : Sd l) {key : ByteArray} (hk : key.size ≤ 1099511627776) : pair_place.f l key = some ((low l key : Int), isAt l key) := by
  unfold pair_place.f
  rw [if_pos (by simp only [Bool.and_eq_true, decide_eq_true_eq]; exact ⟨⟨(srt_iff l).2 hs, h.fit hB⟩, hk⟩)]
theorem put_tells {B : Nat} {l : List S56} (h : OkB B l) (hB : B + 1 ≤ 1099511627776) (hs : Sd l) {a b : ByteArray} (hk : a.size ≤ 1099511627776) : pair_put.f l a b = some (putL l ⟨a, b⟩) := by
  unfold pair_put.f
  have := h.1
  rw [if_pos ⟨by simp only [Bool.and_eq_true, decide_eq_true_eq]; exact ⟨⟨(srt_iff l).2 hs, h.fit (by omega)⟩, hk⟩, by omega⟩]
theorem mk_loop {l : List S56} {C : Nat} (hl : OkB C l) : ∀ (d i k B : Nat) (acc : List S56), OkB B acc → Sd acc → B + d + C + 1 ≤ 1099511627776 → i ≤ l.length → l.length - i = d → d < k → pair_Make.l0 k acc l (l.length : Int) (i : Int) = some ((l.drop i).foldl putL acc)
  | 0, i, k, B, acc, h, hs, hB, h2, h3, h4 => by
    obtain ⟨k, rfl⟩ : ∃ m, k = m + 1 := ⟨k - 1, by omega⟩
    simp only [pair_Make.l0]
    rw [if_neg (by omega), List.drop_eq_nil_of_le (by omega)]; rfl
  | d + 1, i, k, B, acc, h, hs, hB, h2, h3, h4 => by
    obtain ⟨k, rfl⟩ : ∃ m, k = m + 1 := ⟨k - 1, by omega⟩
    have hll := hl.1
    have hp : l[i]? = some l[i] := List.getElem?_eq_getElem (by omega)
    have hsz : l[i].f0.size ≤ 1099511627776 := hl.2 _ (List.getElem_mem _)
    simp only [pair_Make.l0]
    rw [if_pos (by omega), if_pos (by omega), if_pos (by omega), rd_at hp, put_tells h (by omega) hs hsz, Option.bind_some, wrap_up (by omega), mk_loop hl d (i + 1) k (B + 1) _ (h.put _ hsz) (sd_put hs _) (by omega) (by omega) (by omega) (by omega), List.drop_eq_getElem_cons (show i < l.length by omega)]
    rfl
theorem mk_tells {B : Nat} {l : List S56} (h : OkB B l) (hB : B + B + 1 ≤ 1099511627776) {k : Nat} (hk : B < k) : pair_Make.f k l = some (mkL l) := by
  unfold pair_Make.f
  have := h.1
  rw [show (0 : Int) = ((0 : Nat) : Int) from rfl, mk_loop h l.length 0 k 0 [] ⟨by simp, by simp⟩ List.Pairwise.nil (by omega) (by omega) (by omega) (by omega)]
  rfl
theorem works_tells {k : Nat} (hk : 10 < k) : boscagelaw07_works.f k = some true := by
  unfold boscagelaw07_works.f
  rw [mk_tells (B := 3) ⟨by simp, by intro p hp; simp at hp; rcases hp with rfl | rfl | rfl <;> decide⟩ (by omega) (by omega), Option.bind_some]
  decide +kernel
theorem bytes_eq {a b : ByteArray} : a.toList = b.toList ↔ a = b := by
  constructor
  · intro h
    rw [ByteArray.toList_eq, ByteArray.toList_eq] at h
    cases a; cases b
    simpa [Array.ext_iff] using h
  · rintro rfl; rfl
def cutB (s : ByteArray) : ByteArray := s.extract 0 (min s.size 40)
theorem cut_tells (s : ByteArray) : boscagebase_Cut.f s 40 = some (cutB s) := by
  unfold boscagebase_Cut.f cutB mn
  by_cases h : (40 : Int) < (s.size : Int)
  · rw [if_pos h, if_pos (by omega), if_pos (by omega)]
    have e1 : min s.size 40 = 40 := by omega
    rw [e1]; rfl
  · rw [if_neg h, if_pos (by omega), if_pos (by omega)]
    have e1 : min s.size 40 = s.size := by omega
    rw [e1]; rfl
theorem cutB_size (s : ByteArray) : (cutB s).size ≤ 40 := by unfold cutB; rw [ByteArray.size_extract]; omega
theorem cutB_cut (s : ByteArray) : cutB (cutB s) = cutB s := by
  have h := cutB_size s
  have e : min (cutB s).size 40 = (cutB s).size := by omega
  rw [show cutB (cutB s) = (cutB s).extract 0 (min (cutB s).size 40) from rfl, e]
  simp
def fewL (l : List S56) : List S56 := (l.take 40).map fun p => ⟨cutB p.f0, cutB p.f1⟩
theorem few_loop (l : List S56) : ∀ (d i k : Nat) (acc : List S56), i ≤ l.length → i ≤ 40 → acc.length = i → 40 - i = d → 2 * d + 2 < k → boscagelaw07_Few.l0 k l acc (i : Int) = some (acc ++ ((l.take 40).drop i).map fun p => ⟨cutB p.f0, cutB p.f1⟩)
  | d, i, k, acc, h1, h2, h3, h4, h5 => by
    obtain ⟨k, rfl⟩ : ∃ m, k = m + 2 := ⟨k - 2, by omega⟩
    simp only [boscagelaw07_Few.l0]
    by_cases hi : i < l.length ∧ i < 40
    · obtain ⟨hi1, hi2⟩ := hi
      obtain ⟨d, rfl⟩ : ∃ e, d = e + 1 := ⟨d - 1, by omega⟩
      have hp : l[i]? = some l[i] := List.getElem?_eq_getElem hi1
      rw [if_pos (by omega), decide_eq_true (by omega)]
      simp only [boscagelaw07_Few.j1, if_true]
      rw [if_pos (by omega), if_pos (by omega), rd_at hp, cut_tells, Option.bind_some, cut_tells, Option.bind_some, if_pos (by omega), wrap_up (by omega), few_loop l d (i + 1) k _ (by omega) (by omega) (by simp [h3]) (by omega) (by omega)]
      have e : (l.take 40).drop i = l[i] :: (l.take 40).drop (i + 1) := by
        rw [List.drop_eq_getElem_cons (by rw [List.length_take]; omega)]; congr 1; rw [List.getElem_take]
      rw [e, List.map_cons, List.append_assoc]; rfl
    · have e : (l.take 40).drop i = [] := List.drop_eq_nil_of_le (by rw [List.length_take]; omega)
      rw [e, List.map_nil, List.append_nil]
      by_cases hi1 : i < l.length
      · rw [if_pos (by omega), decide_eq_false (by omega)]
        simp only [boscagelaw07_Few.j1]
        rw [if_neg (by simp)]
      · rw [if_neg (by omega)]
        simp only [boscagelaw07_Few.j1]
        rw [if_neg (by simp)]
theorem few_tells (l : List S56) {k : Nat} (hk : 90 < k) : boscagelaw07_Few.f k l = some (fewL l) := by
  unfold boscagelaw07_Few.f
  rw [show (0 : Int) = ((0 : Nat) : Int) from rfl, few_loop l 40 0 k [] (by omega) (by omega) rfl rfl (by omega)]
  rfl
theorem fewL_ok (l : List S56) : OkB 40 (fewL l) := by
  refine ⟨by simp [fewL]; omega, fun p hp => ?_⟩
  simp only [fewL, List.mem_map] at hp
  obtain ⟨q, _, rfl⟩ := hp
  have := cutB_size q.f0
  show (cutB q.f0).size ≤ _
  omega
theorem fewL_few (l : List S56) : fewL (fewL l) = fewL l := by
  unfold fewL
  rw [List.take_of_length_le (by simp; omega), List.map_map]
  refine List.map_congr_left fun p _ => ?_
  show (⟨cutB (cutB p.f0), cutB (cutB p.f1)⟩ : S56) = _
  rw [cutB_cut, cutB_cut]
theorem ord_tells {B : Nat} {l : List S56} (h : OkB B l) (hB : B + B + 1 ≤ 1099511627776) {k : Nat} (hk : B < k) : pair_ordered.f k l = some (ordL l) := by
  unfold pair_ordered.f ordL
  rw [is_tells h (by omega) hk, Option.bind_some]
  by_cases hs : srt l = true
  · rw [if_pos hs, if_pos hs]
  · rw [if_neg hs, if_neg hs, mk_tells h hB hk, Option.bind_some]
theorem Put_tells {B : Nat} {l : List S56} (h : OkB B l) (hB : B + B + 1 ≤ 1099511627776) {a b : ByteArray} (hkey : a.size ≤ 1099511627776) {k : Nat} (hk : B < k) : pair_Put.f k l a b = some (putL (ordL l) ⟨a, b⟩) := by
  unfold pair_Put.f
  rw [ord_tells h hB hk, Option.bind_some, put_tells h.ord (by omega) (sd_ord l) hkey, Option.bind_some]
theorem Drop_tells {B : Nat} {l : List S56} (h : OkB B l) (hB : B + B + 1 ≤ 100000000000) {key : ByteArray} (hkey : key.size ≤ 1099511627776) {k : Nat} (hk : B < k) : pair_Drop.f k l key = some (dropL (ordL l) key) := by
  unfold pair_Drop.f cl_Pair.f
  have ho := h.ord
  have hl := ho.1
  rw [ord_tells h (by omega) hk, Option.bind_some, if_pos (by omega), Option.bind_some, place_tells ho (by omega) (sd_ord l) hkey, Option.bind_some]
  show (if isAt (ordL l) key = true then _ else _) = _
  unfold dropL
  by_cases ha : isAt (ordL l) key = true
  · rw [if_pos ha, if_pos ha]
    have := isAt_lt ha
    show (de_Pair.f _ ((low (ordL l) key : Nat) : Int) (wrap64 (((low (ordL l) key : Nat) : Int) + 1))).bind _ = _
    unfold de_Pair.f
    rw [wrap_up (by omega), if_pos ⟨by omega, by omega, by omega⟩, Option.bind_some, Int.toNat_natCast]
  · rw [if_neg ha, if_neg ha]
/-! ### the reference's answers -/
theorem lastV_char (key v : ByteArray) : ∀ (l : List S56) (acc : Option ByteArray), l.foldl (fun a p => if p.f0 = key then some p.f1 else a) acc = some v ↔ (∃ a p b, l = a ++ p :: b ∧ p = (⟨key, v⟩ : S56) ∧ ∀ q ∈ b, q.f0 ≠ key) ∨ (acc = some v ∧ ∀ q ∈ l, q.f0 ≠ key)
  | [], acc => by simp
  | p :: l, acc => by
    rw [List.foldl_cons, lastV_char key v l]
    constructor
    · rintro (⟨a, q, b, h1, h2, h3⟩ | ⟨h1, h2⟩)
      · exact .inl ⟨p :: a, q, b, by rw [h1]; rfl, h2, h3⟩
      · by_cases hk : p.f0 = key
        · rw [if_pos hk] at h1
          refine .inl ⟨[], p, l, rfl, ?_, h2⟩
          cases p
          simp only [Option.some.injEq] at h1
          simp only at hk
          rw [hk, h1]
        · rw [if_neg hk] at h1
          refine .inr ⟨h1, fun q hq => ?_⟩
          rcases List.mem_cons.1 hq with rfl | hq
          · exact hk
          · exact h2 q hq
    · rintro (⟨a, q, b, h1, h2, h3⟩ | ⟨h1, h2⟩)
      · cases a with
        | nil =>
          simp only [List.nil_append, List.cons.injEq] at h1
          obtain ⟨rfl, rfl⟩ := h1
          exact .inr ⟨by rw [h2, if_pos rfl], h3⟩
        | cons a0 a =>
          simp only [List.cons_append, List.cons.injEq] at h1
          obtain ⟨rfl, rfl⟩ := h1
          exact .inl ⟨a, q, b, rfl, h2, h3⟩
      · exact .inr ⟨by rw [if_neg (h2 p (by simp))]; exact h1, fun q hq => h2 q (by simp [hq])⟩
theorem lastB_iff {l : List S56} {i : Nat} : lastB l i = true ↔ ∀ q ∈ l.drop (i + 1), q.f0 ≠ (elt l i).f0 := by
  unfold lastB
  simp only [List.all_eq_true, decide_eq_true_eq]
theorem elt_drop {l : List S56} {i j : Nat} (hj : i < j) (h : j < l.length) : elt l j ∈ l.drop (i + 1) := by
  have : (l.drop (i + 1))[j - (i + 1)]? = some (elt l j) := by
    rw [List.getElem?_drop, show i + 1 + (j - (i + 1)) = j from by omega]
    exact elt_at h
  exact List.mem_of_getElem? this
theorem refTo_inv (l : List S56) : ∀ i, i ≤ l.length → Sd (refTo l i) ∧ (∀ p ∈ refTo l i, ∃ j, j < i ∧ lastB l j = true ∧ elt l j = p) ∧ ∀ j, j < i → lastB l j = true → elt l j ∈ refTo l i
  | 0, _ => ⟨List.Pairwise.nil, (fun p hp => by cases hp), fun j hj => by omega⟩
  | i + 1, hi => by
    obtain ⟨h1, h2, h3⟩ := refTo_inv l i (by omega)
    unfold refTo
    by_cases hl : lastB l i = true
    · rw [if_pos hl]
      have hna : isAt (refTo l i) (elt l i).f0 = false := by
        cases h : isAt (refTo l i) (elt l i).f0 with
        | false => rfl
        | true =>
          obtain ⟨p, hp, hpk⟩ := isAt_low h
          obtain ⟨j, hj, hjl, hje⟩ := h2 p (List.mem_of_getElem? hp)
          have := (lastB_iff.1 hjl) (elt l i) (elt_drop hj (by omega))
          rw [hje, hpk] at this
          exact absurd rfl this
      have he : refIns (refTo l i) (elt l i) = putL (refTo l i) (elt l i) := by
        unfold refIns putL
        rw [hna]
        rfl
      refine ⟨by rw [he]; exact sd_put h1 _, fun p hp => ?_, fun j hj hjl => ?_⟩
      · rcases refIns_mem hp with hp | hp
        · obtain ⟨j, hj, hjl, hje⟩ := h2 p hp
          exact ⟨j, by omega, hjl, hje⟩
        · exact ⟨i, by omega, hl, hp.symm⟩
      · unfold refIns
        rw [List.mem_append, List.mem_cons]
        by_cases hji : j = i
        · subst hji; exact .inr (.inl rfl)
        · have := h3 j (by omega) hjl
          rw [← List.take_append_drop (low (refTo l i) (elt l i).f0) (refTo l i), List.mem_append] at this
          rcases this with h | h
          · exact .inl h
          · exact .inr (.inr h)
    · rw [if_neg hl]
      refine ⟨h1, fun p hp => ?_, fun j hj hjl => ?_⟩
      · obtain ⟨j, hj, hjl, hje⟩ := h2 p hp
        exact ⟨j, by omega, hjl, hje⟩
      · by_cases hji : j = i
        · subst hji; exact absurd hjl hl
        · exact h3 j (by omega) hjl
theorem ref_mk (l : List S56) : refTo l l.length = mkL l := by
  obtain ⟨h1, h2, h3⟩ := refTo_inv l l.length (Nat.le_refl _)
  refine sd_lk h1 (sd_mkL l) fun key => ?_
  rw [lk_mkL]
  refine Option.ext fun v => ?_
  unfold lastV
  rw [lk_some h1, lastV_char]
  constructor
  · intro hm
    obtain ⟨j, hj, hjl, hje⟩ := h2 _ hm
    refine .inl ⟨l.take j, elt l j, l.drop (j + 1), ?_, hje, ?_⟩
    · have := elt_at hj
      rw [List.getElem?_eq_getElem hj] at this
      rw [← Option.some.inj this, List.getElem_cons_drop, List.take_append_drop]
    · have := lastB_iff.1 hjl
      rw [hje] at this
      exact this
  · rintro (⟨a, p, b, rfl, hp, hb⟩ | ⟨h, _⟩)
    · have he : elt (a ++ p :: b) a.length = p := by
        have h := elt_at (l := a ++ p :: b) (i := a.length) (by simp)
        rw [List.getElem?_append_right (Nat.le_refl _), Nat.sub_self] at h
        exact (Option.some.inj h).symm
      have := h3 a.length (by simp) (lastB_iff.2 (fun q hq => by
        rw [he, hp]
        have e1 : (a ++ p :: b).drop (a.length + 1) = b := by
          rw [← List.drop_drop, List.drop_left]; rfl
        rw [e1] at hq
        exact hb q hq))
      rw [he] at this
      rw [← hp]
      exact this
    · cases h
theorem refmake_tells {B : Nat} {l : List S56} (h : OkB B l) (hB : B ≤ 1000000) : boscageref07_Make.f l = some (mkL l) := by
  unfold boscageref07_Make.f
  have hl := h.1
  rw [if_pos (by simp only [Bool.and_eq_true, decide_eq_true_eq]; exact ⟨h.fit (by omega), by omega⟩), ref_mk]
theorem less_any (a b : ByteArray) {B : Nat} (ha : a.size ≤ B) (hb : b.size ≤ 1099511627776) (hB : B ≤ 1099511627776) {k : Nat} (hk : 2 * B + 2 < k) : boscageref01_Less.f k a b = some (decide (cmpS a b < 0)) := by
  unfold boscageref01_Less.f
  exact less_loop a b (by omega) hb a.size 0 _ (by omega) (by omega) (by omega) (fun j hj => by omega) (by omega)
/-- Few bindings, with short keys. -/
def Sh (l : List S56) : Prop := OkB 41 l ∧ ∀ p ∈ l, p.f0.size ≤ 40
theorem same_loop (l : List S56) : ∀ (d i k : Nat), l.length - i = d → i ≤ l.length → l.length ≤ 1099511627776 → d < k → boscageref07_Same.l0 k l l (i : Int) = some true
  | d, i, k, hd, hi, hl, hk => by
    obtain ⟨k, rfl⟩ : ∃ m, k = m + 1 := ⟨k - 1, by omega⟩
    simp only [boscageref07_Same.l0]
    by_cases h : i < l.length
    · obtain ⟨d, rfl⟩ : ∃ e, d = e + 1 := ⟨d - 1, by omega⟩
      rw [if_pos (by omega), if_pos (by omega), if_pos (by omega), if_neg (by simp), wrap_up (by omega)]
      exact same_loop l d (i + 1) k (by omega) (by omega) hl (by omega)
    · rw [if_neg (by omega)]
theorem same_tells {B : Nat} {l : List S56} (h : OkB B l) (hB : B ≤ 1099511627776) {k : Nat} (hk : B < k) : boscageref07_Same.f k l l = some true := by
  unfold boscageref07_Same.f
  have := h.1
  rw [if_pos rfl]
  exact same_loop l l.length 0 k (by omega) (by omega) (by omega) (by omega)
theorem refput_tells {B : Nat} {l : List S56} (h : OkB B l) (hB : B + 1 ≤ 1000000) {a b : ByteArray} (ha : a.size ≤ 1099511627776) : boscageref07_Put.f l a b = some (putL (ordL l) ⟨a, b⟩) := by
  unfold boscageref07_Put.f
  have hl := h.1
  rw [Option.bind_some, if_pos (by simp only [List.length_nil]; omega), Option.bind_some, if_pos (by simp only [List.nil_append]; omega), List.nil_append]
  have h2 : OkB (B + 1) (l ++ [(⟨a, b⟩ : S56)]) := by
    refine ⟨by simp only [List.length_append, List.length_cons, List.length_nil]; omega, fun q hq => ?_⟩
    rw [List.mem_append] at hq
    rcases hq with hq | hq
    · exact h.2 q hq
    · rw [List.mem_singleton.1 hq]; exact ha
  rw [refmake_tells h2 hB, Option.bind_some, ord_mk]
  unfold mkL
  rw [List.foldl_append]
  rfl
theorem refdrop_loop {m : List S56} (key : ByteArray) (hm : m.length ≤ 1000000) : ∀ (d i k : Nat) (acc : List S56), m.length - i = d → i ≤ m.length → acc.length ≤ i → d < k → boscageref07_Drop.l0 k key m acc (i : Int) = some (acc ++ (m.drop i).filter fun p => decide (p.f0 ≠ key))
  | d, i, k, acc, hd, hi, ha, hk => by
    obtain ⟨k, rfl⟩ : ∃ j, k = j + 1 := ⟨k - 1, by omega⟩
    simp only [boscageref07_Drop.l0]
    by_cases h : i < m.length
    · obtain ⟨d, rfl⟩ : ∃ e, d = e + 1 := ⟨d - 1, by omega⟩
      rw [if_pos (by omega), if_pos (by omega), rd_at (List.getElem?_eq_getElem h), wrap_up (by omega), List.drop_eq_getElem_cons h]
      by_cases e : m[i].f0 = key
      · rw [if_pos (by rw [e]), refdrop_loop key hm d (i + 1) k acc (by omega) (by omega) (by omega) (by omega), List.filter_cons_of_neg (by simpa using e)]
      · rw [if_neg (fun h => e (bytes_eq.1 h)), if_pos (by omega), refdrop_loop key hm d (i + 1) k _ (by omega) (by omega) (by simp only [List.length_append, List.length_cons, List.length_nil]; omega) (by omega), List.filter_cons_of_pos (by simpa using e), List.append_assoc]
        rfl
    · rw [if_neg (by omega), List.drop_eq_nil_of_le (by omega)]
      simp
theorem filter_dropL {m : List S56} (hs : Sd m) (key : ByteArray) : (m.filter fun p => decide (p.f0 ≠ key)) = dropL m key := by
  refine sd_ext (List.Pairwise.filter _ hs) (sd_drop hs key) fun p => ?_
  rw [List.mem_filter]
  have h1 := lk_some (sd_drop hs key) (key := p.f0) (v := p.f1)
  have h2 := lk_some hs (key := p.f0) (v := p.f1)
  rw [lk_drop hs] at h1
  change _ ↔ p ∈ dropL m key at h1
  change _ ↔ p ∈ m at h2
  rw [← h1, ← h2]
  by_cases e : key = p.f0
  · rw [if_pos e]
    simp [e]
  · rw [if_neg e]
    simp [Ne.symm e]
theorem refdrop_tells {B : Nat} {l : List S56} (h : OkB B l) (hB : B ≤ 1000000) (key : ByteArray) {k : Nat} (hk : B < k) : boscageref07_Drop.f k l key = some (dropL (ordL l) key) := by
  unfold boscageref07_Drop.f
  have := h.mk.1
  rw [refmake_tells h hB, Option.bind_some, ord_mk, ← filter_dropL (sd_mkL l)]
  exact refdrop_loop key (by omega) _ 0 k [] rfl (by omega) (by simp) (by omega)
theorem changes_all (l : List S56) (key val : ByteArray) (m : Nat) (hm : 250 < m) : boscagelaw07_PairChanges.f (m + 1) l key val = some true := by
  have hf := fewL_ok l
  have hk := cutB_size key
  have hv := cutB_size val
  unfold boscagelaw07_PairChanges.f
  rw [few_tells l (by omega), Option.bind_some, cut_tells, Option.bind_some, cut_tells, Option.bind_some, few_tells (fewL l) (by omega), Option.bind_some, fewL_few]
  rw [Put_tells hf (by omega) (by omega) (by omega), Option.bind_some, refput_tells hf (by omega) (by omega), Option.bind_some, same_tells (hf.ord.put _ (by show (cutB key).size ≤ _; omega)) (by omega) (by omega), Option.bind_some, if_pos rfl, Option.bind_some]
  rw [Drop_tells hf (by omega) (by omega) (by omega), Option.bind_some, refdrop_tells hf (by omega) _ (by omega), Option.bind_some, same_tells (hf.ord.drop _) (by omega) (by omega), Option.bind_some, if_pos rfl, works_tells (by omega), Option.bind_some]
theorem PairChanges (l : List S56) (key val : ByteArray) : boscagelaw07_PairChanges.f 300 l key val = some true := changes_all l key val 299 (by omega)
end Go.Proofs.Ytipdhjdlfdbkiaa.PurePairChanges
