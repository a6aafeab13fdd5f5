/- The plain law of ModelKeeps: what the printed functions compute answers true. -/
import Derived.Test.YthnococjdeafhaaDoorPModelKeepsx
namespace Go.Proofs.YthnococjdeafhaaDoor.PModelKeeps
open Go.RowKit Go.Proofs.YthnococjdeafhaaDoorW.PrintWords Go.Proofs.YthnococjdeafhaaDoorW.PrintLast Go.Proofs.YthnococjdeafhaaDoorW.PrintMore
/-! ### what the printed functions tell -/
def OkB (B : Nat) (l : List S65) : Prop := l.length ≤ B ∧ ∀ p ∈ l, p.f0.size ≤ 1099511627776
theorem OkB.fit {B : Nat} {l : List S65} (h : OkB B l) (hB : B ≤ 1099511627776) : fit l = true := by
  unfold Go.Proofs.YthnococjdeafhaaDoor.PModelKeeps.fit
  simp only [Bool.and_eq_true, decide_eq_true_eq, List.all_eq_true]
  exact ⟨by have := h.1; omega, h.2⟩
theorem OkB.mono {B C : Nat} {l : List S65} (h : OkB B l) (hB : B ≤ C) : OkB C l := ⟨by have := h.1; omega, h.2⟩
theorem OkB.put {B : Nat} {l : List S65} (h : OkB B l) (p : S65) (hp : p.f0.size ≤ 1099511627776) : OkB (B + 1) (putL l p) := by
  have h1 := h.1
  unfold putL
  split
  · refine ⟨by rw [List.length_set]; omega, fun q hq => ?_⟩
    rcases List.mem_or_eq_of_mem_set hq with h2 | h2
    · exact h.2 q h2
    · rw [h2]; exact hp
  · refine ⟨by simp only [List.length_append, List.length_cons, List.length_take, List.length_drop]; have := low_le l p.f0; omega, fun q hq => ?_⟩
    rw [List.mem_append, List.mem_cons] at hq
    rcases hq with hq | hq | hq
    · exact h.2 q (List.mem_of_mem_take hq)
    · rw [hq]; exact hp
    · exact h.2 q (List.mem_of_mem_drop hq)
theorem OkB.fold {B : Nat} : ∀ (l acc : List S65), OkB B acc → (∀ p ∈ l, p.f0.size ≤ 1099511627776) → OkB (B + l.length) (l.foldl putL acc)
  | [], _, h, _ => h
  | p :: l, acc, h, hl => by
    have := OkB.fold l _ (h.put p (hl p (by simp))) (fun q hq => hl q (by simp [hq]))
    rw [List.foldl_cons, List.length_cons]
    exact this.mono (by omega)
theorem OkB.mk {B : Nat} {l : List S65} (h : OkB B l) : OkB B (mkL l) := by
  have : OkB 0 ([] : List S65) := ⟨by simp, by simp⟩
  exact (OkB.fold l [] this h.2).mono (by have := h.1; omega)
theorem OkB.ord {B : Nat} {l : List S65} (h : OkB B l) : OkB B (ordL l) := by rw [ord_mk]; exact h.mk
theorem OkB.drop {B : Nat} {l : List S65} (h : OkB B l) (key : ByteArray) : OkB B (dropL l key) := by
  unfold dropL
  split
  · exact ⟨by have := List.length_eraseIdx_le l (low l key); have := h.1; omega, fun q hq => h.2 q (List.mem_of_mem_eraseIdx hq)⟩
  · exact h
theorem rd_at {l : List S65} {i : Nat} {p : S65} (h : l[i]? = some p) : rd_T65 l (i : Int) = p := by
  unfold rd_T65
  rw [Int.toNat_natCast, List.getD_eq_getElem?_getD, h]; rfl
theorem wrap_up {i : Nat} (h : i ≤ 1099511627776) : wrap64 ((i : Int) + 1) = ((i + 1 : Nat) : Int) := by unfold wrap64; omega
theorem wrap_dn {i : Nat} (h : i ≤ 1099511627776) (h0 : 1 ≤ i) : wrap64 ((i : Int) - 1) = ((i - 1 : Nat) : Int) := by unfold wrap64; omega
theorem cmp_tells {B : Nat} {l : List S65} (h : OkB B l) {p q : S65} (hp : p ∈ l) (hq : q ∈ l) : order_Compare.f p.f0 q.f0 = some (cmpS p.f0 q.f0) := by
  unfold order_Compare.f; rw [if_pos ⟨h.2 p hp, h.2 q hq⟩]
theorem is_loop {B : Nat} {l : List S65} (h : OkB B l) (hB : B ≤ 1099511627776) : ∀ (d i k : Nat), 1 ≤ i → i ≤ l.length → l.length - i = d → d < k → pair_Is.l0 k l (l.length : Int) (i : Int) = some (srt (l.drop (i - 1)))
  | 0, i, k, h1, h2, h3, h4 => by
    obtain ⟨k, rfl⟩ : ∃ m, k = m + 1 := ⟨k - 1, by omega⟩
    have hi : i = l.length := by omega
    simp only [pair_Is.l0]
    rw [if_neg (by omega)]
    have : (l.drop (i - 1)).length = 1 := by rw [List.length_drop]; omega
    obtain ⟨a, ha⟩ := List.length_eq_one_iff.1 this
    rw [ha]; rfl
  | d + 1, i, k, h1, h2, h3, h4 => by
    obtain ⟨k, rfl⟩ : ∃ m, k = m + 1 := ⟨k - 1, by omega⟩
    have hl := h.1
    have hp : l[i - 1]? = some l[i - 1] := List.getElem?_eq_getElem (by omega)
    have hq : l[i]? = some l[i] := List.getElem?_eq_getElem (by omega)
    simp only [pair_Is.l0]
    rw [if_pos (by omega), if_pos (by omega), wrap_dn (by omega) h1, if_pos (by omega), if_pos (by omega), if_pos (by omega), if_pos (by omega), rd_at hp, rd_at hq, cmp_tells h (List.getElem_mem _) (List.getElem_mem _), Option.bind_some, wrap_up (by omega), is_loop h hB d (i + 1) k (by omega) (by omega) (by omega) (by omega)]
    have e1 : l.drop (i - 1) = l[i - 1] :: l.drop i := by
      rw [List.drop_eq_getElem_cons (by omega)]; congr 2; omega
    have e2 : l.drop i = l[i] :: l.drop (i + 1) := List.drop_eq_getElem_cons (by omega)
    rw [e1, Nat.add_sub_cancel]
    have e3 : srt (l[i - 1] :: l.drop i) = (decide (cmpS l[i - 1].f0 l[i].f0 < 0) && srt (l.drop i)) := by rw [e2]; rfl
    rw [e3]
    by_cases hc : cmpS l[i - 1].f0 l[i].f0 ≥ 0
    · rw [if_pos hc, decide_eq_false (by omega)]; rfl
    · rw [if_neg hc, decide_eq_true (by omega)]; rfl
theorem is_tells {B : Nat} {l : List S65} (h : OkB B l) (hB : B ≤ 1099511627776) {k : Nat} (hk : B < k) : pair_Is.f k l = some (srt l) := by
  unfold pair_Is.f
  have hl := h.1
  obtain ⟨k, rfl⟩ : ∃ m, k = m + 1 := ⟨k - 1, by omega⟩
  by_cases h0 : l.length = 0
  · obtain rfl := List.eq_nil_of_length_eq_zero h0
    simp only [pair_Is.l0]
    rw [if_neg (by simp)]; rfl
  · simp only [pair_Is.l0]
    rw [if_pos (by omega), if_neg (by omega), show wrap64 ((0 : Int) + 1) = ((1 : Nat) : Int) from by unfold wrap64; omega, is_loop h hB (l.length - 1) 1 k (by omega) (by omega) rfl (by omega)]
    rfl
theorem place_tells {B : Nat} {l : List S65} (h : OkB B l) (hB : B ≤ 1099511627776) (hs : Sd l) {key : ByteArray} (hk : key.size ≤ 1099511627776) : pair_place.f l key = some ((low l key : Int), isAt l key) := by
  unfold pair_place.f
  rw [if_pos (by simp only [Bool.and_eq_true, decide_eq_true_eq]; exact ⟨⟨(srt_iff l).2 hs, h.fit hB⟩, hk⟩)]
theorem put_tells {B : Nat} {l : List S65} (h : OkB B l) (hB : B + 1 ≤ 1099511627776) (hs : Sd l) {a b : ByteArray} (hk : a.size ≤ 1099511627776) : pair_put.f l a b = some (putL l ⟨a, b⟩) := by
  unfold pair_put.f
  have := h.1
  rw [if_pos ⟨by simp only [Bool.and_eq_true, decide_eq_true_eq]; exact ⟨⟨(srt_iff l).2 hs, h.fit (by omega)⟩, hk⟩, by omega⟩]
theorem mk_loop {l : List S65} {C : Nat} (hl : OkB C l) : ∀ (d i k B : Nat) (acc : List S65), OkB B acc → Sd acc → B + d + C + 1 ≤ 1099511627776 → i ≤ l.length → l.length - i = d → d < k → pair_Make.l0 k acc l (l.length : Int) (i : Int) = some ((l.drop i).foldl putL acc)
  | 0, i, k, B, acc, h, hs, hB, h2, h3, h4 => by
    obtain ⟨k, rfl⟩ : ∃ m, k = m + 1 := ⟨k - 1, by omega⟩
    simp only [pair_Make.l0]
    rw [if_neg (by omega), List.drop_eq_nil_of_le (by omega)]; rfl
  | d + 1, i, k, B, acc, h, hs, hB, h2, h3, h4 => by
    obtain ⟨k, rfl⟩ : ∃ m, k = m + 1 := ⟨k - 1, by omega⟩
    have hll := hl.1
    have hp : l[i]? = some l[i] := List.getElem?_eq_getElem (by omega)
    have hsz : l[i].f0.size ≤ 1099511627776 := hl.2 _ (List.getElem_mem _)
    simp only [pair_Make.l0]
    rw [if_pos (by omega), if_pos (by omega), if_pos (by omega), rd_at hp, put_tells h (by omega) hs hsz, Option.bind_some, wrap_up (by omega), mk_loop hl d (i + 1) k (B + 1) _ (h.put _ hsz) (sd_put hs _) (by omega) (by omega) (by omega) (by omega), List.drop_eq_getElem_cons (show i < l.length by omega)]
    rfl
theorem mk_tells {B : Nat} {l : List S65} (h : OkB B l) (hB : B + B + 1 ≤ 1099511627776) {k : Nat} (hk : B < k) : pair_Make.f k l = some (mkL l) := by
  unfold pair_Make.f
  have := h.1
  rw [show (0 : Int) = ((0 : Nat) : Int) from rfl, mk_loop h l.length 0 k 0 [] ⟨by simp, by simp⟩ List.Pairwise.nil (by omega) (by omega) (by omega) (by omega)]
  rfl
theorem bytes_eq {a b : ByteArray} : a.toList = b.toList ↔ a = b := by
  constructor
  · intro h
    rw [ByteArray.toList_eq, ByteArray.toList_eq] at h
    cases a; cases b
    simpa [Array.ext_iff] using h
  · rintro rfl; rfl
def cutB (s : ByteArray) : ByteArray := s.extract 0 (min s.size 40)
theorem cut_tells (s : ByteArray) : boscagebase_Cut.f s 40 = some (cutB s) := by
  unfold boscagebase_Cut.f cutB mn
  by_cases h : (40 : Int) < (s.size : Int)
  · rw [if_pos h, if_pos (by omega), if_pos (by omega)]
    have e1 : min s.size 40 = 40 := by omega
    rw [e1]; rfl
  · rw [if_neg h, if_pos (by omega), if_pos (by omega)]
    have e1 : min s.size 40 = s.size := by omega
    rw [e1]; rfl
theorem cutB_size (s : ByteArray) : (cutB s).size ≤ 40 := by unfold cutB; rw [ByteArray.size_extract]; omega
theorem cutB_cut (s : ByteArray) : cutB (cutB s) = cutB s := by
  have h := cutB_size s
  have e : min (cutB s).size 40 = (cutB s).size := by omega
  rw [show cutB (cutB s) = (cutB s).extract 0 (min (cutB s).size 40) from rfl, e]
  simp
def fewL (l : List S65) : List S65 := (l.take 40).map fun p => ⟨cutB p.f0, cutB p.f1⟩
theorem few_loop (l : List S65) : ∀ (d i k : Nat) (acc : List S65), i ≤ l.length → i ≤ 40 → acc.length = i → 40 - i = d → 2 * d + 2 < k → boscagelaw07_Few.l0 k l acc (i : Int) = some (acc ++ ((l.take 40).drop i).map fun p => ⟨cutB p.f0, cutB p.f1⟩)
  | d, i, k, acc, h1, h2, h3, h4, h5 => by
    obtain ⟨k, rfl⟩ : ∃ m, k = m + 2 := ⟨k - 2, by omega⟩
    simp only [boscagelaw07_Few.l0]
    by_cases hi : i < l.length ∧ i < 40
    · obtain ⟨hi1, hi2⟩ := hi
      obtain ⟨d, rfl⟩ : ∃ e, d = e + 1 := ⟨d - 1, by omega⟩
      have hp : l[i]? = some l[i] := List.getElem?_eq_getElem hi1
      rw [if_pos (by omega), decide_eq_true (by omega)]
      simp only [boscagelaw07_Few.j1, if_true]
      rw [if_pos (by omega), if_pos (by omega), rd_at hp, cut_tells, Option.bind_some, cut_tells, Option.bind_some, if_pos (by omega), wrap_up (by omega), few_loop l d (i + 1) k _ (by omega) (by omega) (by simp [h3]) (by omega) (by omega)]
      have e : (l.take 40).drop i = l[i] :: (l.take 40).drop (i + 1) := by
        rw [List.drop_eq_getElem_cons (by rw [List.length_take]; omega)]; congr 1; rw [List.getElem_take]
      rw [e, List.map_cons, List.append_assoc]; rfl
    · have e : (l.take 40).drop i = [] := List.drop_eq_nil_of_le (by rw [List.length_take]; omega)
      rw [e, List.map_nil, List.append_nil]
      by_cases hi1 : i < l.length
      · rw [if_pos (by omega), decide_eq_false (by omega)]
        simp only [boscagelaw07_Few.j1]
        rw [if_neg (by simp)]
      · rw [if_neg (by omega)]
        simp only [boscagelaw07_Few.j1]
        rw [if_neg (by simp)]
theorem few_tells (l : List S65) {k : Nat} (hk : 90 < k) : boscagelaw07_Few.f k l = some (fewL l) := by
  unfold boscagelaw07_Few.f
  rw [show (0 : Int) = ((0 : Nat) : Int) from rfl, few_loop l 40 0 k [] (by omega) (by omega) rfl rfl (by omega)]
  rfl
theorem fewL_ok (l : List S65) : OkB 40 (fewL l) := by
  refine ⟨by simp [fewL]; omega, fun p hp => ?_⟩
  simp only [fewL, List.mem_map] at hp
  obtain ⟨q, _, rfl⟩ := hp
  have := cutB_size q.f0
  show (cutB q.f0).size ≤ _
  omega
theorem fewL_few (l : List S65) : fewL (fewL l) = fewL l := by
  unfold fewL
  rw [List.take_of_length_le (by simp; omega), List.map_map]
  refine List.map_congr_left fun p _ => ?_
  show (⟨cutB (cutB p.f0), cutB (cutB p.f1)⟩ : S65) = _
  rw [cutB_cut, cutB_cut]
/-! ### the reference's answers -/
theorem lastV_char (key v : ByteArray) : ∀ (l : List S65) (acc : Option ByteArray), l.foldl (fun a p => if p.f0 = key then some p.f1 else a) acc = some v ↔ (∃ a p b, l = a ++ p :: b ∧ p = (⟨key, v⟩ : S65) ∧ ∀ q ∈ b, q.f0 ≠ key) ∨ (acc = some v ∧ ∀ q ∈ l, q.f0 ≠ key)
  | [], acc => by simp
  | p :: l, acc => by
    rw [List.foldl_cons, lastV_char key v l]
    constructor
    · rintro (⟨a, q, b, h1, h2, h3⟩ | ⟨h1, h2⟩)
      · exact .inl ⟨p :: a, q, b, by rw [h1]; rfl, h2, h3⟩
      · by_cases hk : p.f0 = key
        · rw [if_pos hk] at h1
          refine .inl ⟨[], p, l, rfl, ?_, h2⟩
          cases p
          simp only [Option.some.injEq] at h1
          simp only at hk
          rw [hk, h1]
        · rw [if_neg hk] at h1
          refine .inr ⟨h1, fun q hq => ?_⟩
          rcases List.mem_cons.1 hq with rfl | hq
          · exact hk
          · exact h2 q hq
    · rintro (⟨a, q, b, h1, h2, h3⟩ | ⟨h1, h2⟩)
      · cases a with
        | nil =>
          simp only [List.nil_append, List.cons.injEq] at h1
          obtain ⟨rfl, rfl⟩ := h1
          exact .inr ⟨by rw [h2, if_pos rfl], h3⟩
        | cons a0 a =>
          simp only [List.cons_append, List.cons.injEq] at h1
          obtain ⟨rfl, rfl⟩ := h1
          exact .inl ⟨a, q, b, rfl, h2, h3⟩
      · exact .inr ⟨by rw [if_neg (h2 p (by simp))]; exact h1, fun q hq => h2 q (by simp [hq])⟩
theorem lastB_iff {l : List S65} {i : Nat} : lastB l i = true ↔ ∀ q ∈ l.drop (i + 1), q.f0 ≠ (elt l i).f0 := by
  unfold lastB
  simp only [List.all_eq_true, decide_eq_true_eq]
theorem elt_drop {l : List S65} {i j : Nat} (hj : i < j) (h : j < l.length) : elt l j ∈ l.drop (i + 1) := by
  have : (l.drop (i + 1))[j - (i + 1)]? = some (elt l j) := by
    rw [List.getElem?_drop, show i + 1 + (j - (i + 1)) = j from by omega]
    exact elt_at h
  exact List.mem_of_getElem? this
theorem refTo_inv (l : List S65) : ∀ i, i ≤ l.length → Sd (refTo l i) ∧ (∀ p ∈ refTo l i, ∃ j, j < i ∧ lastB l j = true ∧ elt l j = p) ∧ ∀ j, j < i → lastB l j = true → elt l j ∈ refTo l i
  | 0, _ => ⟨List.Pairwise.nil, (fun p hp => by cases hp), fun j hj => by omega⟩
  | i + 1, hi => by
    obtain ⟨h1, h2, h3⟩ := refTo_inv l i (by omega)
    unfold refTo
    by_cases hl : lastB l i = true
    · rw [if_pos hl]
      have hna : isAt (refTo l i) (elt l i).f0 = false := by
        cases h : isAt (refTo l i) (elt l i).f0 with
        | false => rfl
        | true =>
          obtain ⟨p, hp, hpk⟩ := isAt_low h
          obtain ⟨j, hj, hjl, hje⟩ := h2 p (List.mem_of_getElem? hp)
          have := (lastB_iff.1 hjl) (elt l i) (elt_drop hj (by omega))
          rw [hje, hpk] at this
          exact absurd rfl this
      have he : refIns (refTo l i) (elt l i) = putL (refTo l i) (elt l i) := by
        unfold refIns putL
        rw [hna]
        rfl
      refine ⟨by rw [he]; exact sd_put h1 _, fun p hp => ?_, fun j hj hjl => ?_⟩
      · rcases refIns_mem hp with hp | hp
        · obtain ⟨j, hj, hjl, hje⟩ := h2 p hp
          exact ⟨j, by omega, hjl, hje⟩
        · exact ⟨i, by omega, hl, hp.symm⟩
      · unfold refIns
        rw [List.mem_append, List.mem_cons]
        by_cases hji : j = i
        · subst hji; exact .inr (.inl rfl)
        · have := h3 j (by omega) hjl
          rw [← List.take_append_drop (low (refTo l i) (elt l i).f0) (refTo l i), List.mem_append] at this
          rcases this with h | h
          · exact .inl h
          · exact .inr (.inr h)
    · rw [if_neg hl]
      refine ⟨h1, fun p hp => ?_, fun j hj hjl => ?_⟩
      · obtain ⟨j, hj, hjl, hje⟩ := h2 p hp
        exact ⟨j, by omega, hjl, hje⟩
      · by_cases hji : j = i
        · subst hji; exact absurd hjl hl
        · exact h3 j (by omega) hjl
theorem ref_mk (l : List S65) : refTo l l.length = mkL l := by
  obtain ⟨h1, h2, h3⟩ := refTo_inv l l.length (Nat.le_refl _)
  refine sd_lk h1 (sd_mkL l) fun key => ?_
  rw [lk_mkL]
  refine Option.ext fun v => ?_
  unfold lastV
  rw [lk_some h1, lastV_char]
  constructor
  · intro hm
    obtain ⟨j, hj, hjl, hje⟩ := h2 _ hm
    refine .inl ⟨l.take j, elt l j, l.drop (j + 1), ?_, hje, ?_⟩
    · have := elt_at hj
      rw [List.getElem?_eq_getElem hj] at this
      rw [← Option.some.inj this, List.getElem_cons_drop, List.take_append_drop]
    · have := lastB_iff.1 hjl
      rw [hje] at this
      exact this
  · rintro (⟨a, p, b, rfl, hp, hb⟩ | ⟨h, _⟩)
    · have he : elt (a ++ p :: b) a.length = p := by
        have h := elt_at (l := a ++ p :: b) (i := a.length) (by simp)
        rw [List.getElem?_append_right (Nat.le_refl _), Nat.sub_self] at h
        exact (Option.some.inj h).symm
      have := h3 a.length (by simp) (lastB_iff.2 (fun q hq => by
        rw [he, hp]
        have e1 : (a ++ p :: b).drop (a.length + 1) = b := by
          rw [← List.drop_drop, List.drop_left]; rfl
        rw [e1] at hq
        exact hb q hq))
      rw [he] at this
      rw [← hp]
      exact this
    · cases h
theorem refmake_tells {B : Nat} {l : List S65} (h : OkB B l) (hB : B ≤ 1000000) : boscageref07_Make.f l = some (mkL l) := by
  unfold boscageref07_Make.f
  have hl := h.1
  rw [if_pos (by simp only [Bool.and_eq_true, decide_eq_true_eq]; exact ⟨h.fit (by omega), by omega⟩), ref_mk]
theorem less_any (a b : ByteArray) {B : Nat} (ha : a.size ≤ B) (hb : b.size ≤ 1099511627776) (hB : B ≤ 1099511627776) {k : Nat} (hk : 2 * B + 2 < k) : boscageref01_Less.f k a b = some (decide (cmpS a b < 0)) := by
  unfold boscageref01_Less.f
  exact less_loop a b (by omega) hb a.size 0 _ (by omega) (by omega) (by omega) (fun j hj => by omega) (by omega)
/-- Few bindings, with short keys. -/
def Sh (l : List S65) : Prop := OkB 41 l ∧ ∀ p ∈ l, p.f0.size ≤ 40
theorem ord_tells {B : Nat} {l : List S65} (h : OkB B l) (hB : B + B + 1 ≤ 1099511627776) {k : Nat} (hk : B < k) : pair_ordered.f k l = some (ordL l) := by
  unfold pair_ordered.f ordL
  rw [is_tells h (by omega) hk, Option.bind_some]
  by_cases hs : srt l = true
  · rw [if_pos hs, if_pos hs]
  · rw [if_neg hs, if_neg hs, mk_tells h hB hk, Option.bind_some]
def getR (l : List S65) (key : ByteArray) : ByteArray × Bool := match lk l key with | some v => (v, true) | none => (⟨#[]⟩, false)
theorem get_tells {B : Nat} {l : List S65} (h : OkB B l) (hB : B + B + 1 ≤ 1099511627776) {key : ByteArray} (hkey : key.size ≤ 1099511627776) {k : Nat} (hk : B < k) : pair_Get.f k l key = some (getR (ordL l) key) := by
  unfold pair_Get.f
  rw [ord_tells h hB hk, Option.bind_some, place_tells h.ord (by omega) (sd_ord l) hkey, Option.bind_some]
  show (if isAt (ordL l) key = true then _ else _) = _
  unfold getR
  by_cases ha : isAt (ordL l) key = true
  · obtain ⟨p, hp, hpk⟩ := isAt_low ha
    have hlt := (List.getElem?_eq_some_iff.1 hp).1
    rw [if_pos ha, if_pos (by omega), if_pos (by show ((low (ordL l) key : Nat) : Int) < _; omega)]
    show some ((rd_T65 (ordL l) ((low (ordL l) key : Nat) : Int)).f1, true) = _
    rw [rd_at hp, (lk_some (sd_ord l) (v := p.f1)).2 (by rw [← hpk]; exact List.mem_of_getElem? hp)]
  · rw [if_neg ha]
    rw [isAt_iff] at ha
    cases hv : lk (ordL l) key with
    | none => rfl
    | some v => rw [hv] at ha; simp at ha
theorem Put_tells {B : Nat} {l : List S65} (h : OkB B l) (hB : B + B + 1 ≤ 1099511627776) {a b : ByteArray} (hkey : a.size ≤ 1099511627776) {k : Nat} (hk : B < k) : pair_Put.f k l a b = some (putL (ordL l) ⟨a, b⟩) := by
  unfold pair_Put.f
  rw [ord_tells h hB hk, Option.bind_some, put_tells h.ord (by omega) (sd_ord l) hkey, Option.bind_some]
theorem Drop_tells {B : Nat} {l : List S65} (h : OkB B l) (hB : B + B + 1 ≤ 100000000000) {key : ByteArray} (hkey : key.size ≤ 1099511627776) {k : Nat} (hk : B < k) : pair_Drop.f k l key = some (dropL (ordL l) key) := by
  unfold pair_Drop.f cl_Pair.f
  have ho := h.ord
  have hl := ho.1
  rw [ord_tells h (by omega) hk, Option.bind_some, if_pos (by omega), Option.bind_some, place_tells ho (by omega) (sd_ord l) hkey, Option.bind_some]
  show (if isAt (ordL l) key = true then _ else _) = _
  unfold dropL
  by_cases ha : isAt (ordL l) key = true
  · rw [if_pos ha, if_pos ha]
    have := isAt_lt ha
    show (de_Pair.f _ ((low (ordL l) key : Nat) : Int) (wrap64 (((low (ordL l) key : Nat) : Int) + 1))).bind _ = _
    unfold de_Pair.f
    rw [wrap_up (by omega), if_pos ⟨by omega, by omega, by omega⟩, Option.bind_some, Int.toNat_natCast]
  · rw [if_neg ha, if_neg ha]
/-! ### layer 31: states -/
theorem nil_toList : ((⟨#[]⟩ : ByteArray).toList) = [] := by
  unfold ByteArray.toList
  unfold ByteArray.toList.loop
  rfl
theorem rd_atR {l : List S61} {i : Nat} {p : S61} (h : l[i]? = some p) : rd_T61 l (i : Int) = p := by
  unfold rd_T61
  rw [Int.toNat_natCast, List.getD_eq_getElem?_getD, h]; rfl
theorem rd_atM {l : List S72} {i : Nat} {p : S72} (h : l[i]? = some p) : rd_T72 l (i : Int) = p := by
  unfold rd_T72
  rw [Int.toNat_natCast, List.getD_eq_getElem?_getD, h]; rfl
def fewH (l : List S61) : List S61 := (l.take 6).map fun h => ⟨h.f0, fewL h.f1⟩
def toM (l : List S61) : List S72 := l.map fun h => ⟨h.f0, fewL h.f1⟩
theorem fewS_loop (L : List S65) (H : List S61) (O : List S65) : ∀ (d i k : Nat) (acc : List S61), i ≤ H.length → i ≤ 6 → acc.length = i → 6 - i = d → d + 100 < k → boscagelaw31_Few.l0 k (i : Int) L H O acc = some (O, acc ++ ((H.take 6).drop i).map fun h => ⟨h.f0, fewL h.f1⟩)
  | d, i, k, acc, h1, h2, h3, h4, h5 => by
    obtain ⟨k, rfl⟩ : ∃ m, k = m + 1 := ⟨k - 1, by omega⟩
    simp only [boscagelaw31_Few.l0]
    by_cases hi : i < H.length ∧ i < 6
    · obtain ⟨hi1, hi2⟩ := hi
      obtain ⟨d, rfl⟩ : ∃ e, d = e + 1 := ⟨d - 1, by omega⟩
      have hp : H[i]? = some H[i] := List.getElem?_eq_getElem hi1
      rw [if_pos (by omega), if_pos (by omega), if_pos (by omega), rd_atR hp, few_tells _ (by omega), Option.bind_some, if_pos (by omega), wrap_up (by omega), fewS_loop L H O d (i + 1) k _ (by omega) (by omega) (by simp; omega) (by omega) (by omega)]
      have e : (H.take 6).drop i = H[i] :: (H.take 6).drop (i + 1) := by
        rw [List.drop_eq_getElem_cons (by rw [List.length_take]; omega)]; congr 1; rw [List.getElem_take]
      rw [e, List.map_cons, List.append_assoc]; rfl
    · have e : (H.take 6).drop i = [] := List.drop_eq_nil_of_le (by rw [List.length_take]; omega)
      rw [e, List.map_nil, List.append_nil]
      by_cases hi1 : i < H.length
      · rw [if_pos (by omega), if_neg (by omega)]
      · rw [if_neg (by omega)]
theorem fewS_tells (L : List S65) (H : List S61) {k : Nat} (hk : 200 < k) : boscagelaw31_Few.f k L H = some (fewL L, fewH H) := by
  unfold boscagelaw31_Few.f
  rw [few_tells _ (by omega), Option.bind_some, show (0 : Int) = ((0 : Nat) : Int) from rfl, fewS_loop L H (fewL L) 6 0 k [] (by omega) (by omega) rfl rfl (by omega)]
  rfl
theorem give_loop (L : List S65) (H : List S61) (O : List S65) (hH : H.length ≤ 1000) : ∀ (d i k : Nat) (acc : List S72), i ≤ H.length → acc.length = i → H.length - i = d → d + 100 < k → boscagelaw31_Give.l0 k (i : Int) L H O acc = some (O, acc ++ (H.drop i).map fun h => ⟨h.f0, fewL h.f1⟩)
  | d, i, k, acc, h1, h3, h4, h5 => by
    obtain ⟨k, rfl⟩ : ∃ m, k = m + 1 := ⟨k - 1, by omega⟩
    simp only [boscagelaw31_Give.l0]
    by_cases hi1 : i < H.length
    · obtain ⟨d, rfl⟩ : ∃ e, d = e + 1 := ⟨d - 1, by omega⟩
      have hp : H[i]? = some H[i] := List.getElem?_eq_getElem hi1
      rw [if_pos (by omega), if_pos (by omega), rd_atR hp, few_tells _ (by omega), Option.bind_some, if_pos (by omega), wrap_up (by omega), give_loop L H O hH d (i + 1) k _ (by omega) (by simp; omega) (by omega) (by omega)]
      rw [List.drop_eq_getElem_cons hi1, List.map_cons, List.append_assoc]; rfl
    · have e : H.drop i = [] := List.drop_eq_nil_of_le (by omega)
      rw [e, List.map_nil, List.append_nil, if_neg (by omega)]
theorem give_tells (L : List S65) (H : List S61) (hH : H.length ≤ 1000) {k : Nat} (hk : 1200 < k) : boscagelaw31_Give.f k L H = some (fewL L, toM H) := by
  unfold boscagelaw31_Give.f
  rw [few_tells _ (by omega), Option.bind_some, show (0 : Int) = ((0 : Nat) : Int) from rfl, give_loop L H (fewL L) hH H.length 0 k [] (by omega) rfl rfl (by omega)]
  rfl
theorem fewH_len (H : List S61) : (fewH H).length ≤ 6 := by unfold fewH; rw [List.length_map, List.length_take]; omega
/-- The pieces of a state that Few has made. -/
theorem fewH_ok {H : List S61} {h : S61} (hm : h ∈ fewH H) : OkB 40 h.f1 ∧ fewL h.f1 = h.f1 := by
  unfold fewH at hm
  obtain ⟨x, _, rfl⟩ := List.mem_map.1 hm
  exact ⟨fewL_ok _, fewL_few _⟩
theorem ne_test (p q : S65) : ((!(p.f0.toList == q.f0.toList)) || (!(p.f1.toList == q.f1.toList))) = true ↔ p ≠ q := by
  have e : p = q ↔ p.f0 = q.f0 ∧ p.f1 = q.f1 := by cases p; cases q; simp
  rw [Ne, e, ← bytes_eq, ← bytes_eq]
  simp
  by_cases h : p.f0.toList = q.f0.toList <;> simp [h]
theorem refsame_loop (x y : List S65) (hl : x.length = y.length) (hb : x.length ≤ 1099511627776) : ∀ (d i k : Nat), i ≤ x.length → x.length - i = d → d < k → ∃ r, boscageref07_Same.l0 k x y (i : Int) = some r ∧ (r = true ↔ x.drop i = y.drop i)
  | d, i, k, h1, h2, h3 => by
    obtain ⟨k, rfl⟩ : ∃ m, k = m + 1 := ⟨k - 1, by omega⟩
    simp only [boscageref07_Same.l0]
    by_cases hi : i < x.length
    · obtain ⟨d, rfl⟩ : ∃ e, d = e + 1 := ⟨d - 1, by omega⟩
      rw [if_pos (by omega), if_pos (by omega), if_pos (by omega), rd_at (List.getElem?_eq_getElem hi), rd_at (List.getElem?_eq_getElem (by omega : i < y.length))]
      by_cases e : x[i] = y[i]'(by omega)
      · rw [if_neg (by rw [ne_test]; exact fun h => h e), wrap_up (by omega)]
        obtain ⟨r, hr, hi2⟩ := refsame_loop x y hl hb d (i + 1) k (by omega) (by omega) (by omega)
        refine ⟨r, hr, hi2.trans ?_⟩
        rw [List.drop_eq_getElem_cons hi, List.drop_eq_getElem_cons (by omega : i < y.length), e]
        exact ⟨fun h => by rw [h], fun h => (List.cons.inj h).2⟩
      · rw [if_pos (by rw [ne_test]; exact e)]
        refine ⟨false, rfl, ?_⟩
        rw [List.drop_eq_getElem_cons hi, List.drop_eq_getElem_cons (by omega : i < y.length)]
        exact ⟨(fun h => by cases h), fun h => absurd (List.cons.inj h).1 e⟩
    · rw [if_neg (by omega)]
      refine ⟨true, rfl, ?_⟩
      rw [List.drop_eq_nil_of_le (by omega), List.drop_eq_nil_of_le (by omega)]
      exact ⟨fun _ => rfl, fun _ => rfl⟩
theorem refsame_tells (x y : List S65) (hb : x.length ≤ 1099511627776) {k : Nat} (hk : x.length < k) : ∃ r, boscageref07_Same.f k x y = some r ∧ (r = true ↔ x = y) := by
  unfold boscageref07_Same.f
  by_cases hl : x.length = y.length
  · rw [if_pos (by omega), show (0 : Int) = ((0 : Nat) : Int) from rfl]
    exact refsame_loop x y hl hb x.length 0 k (by omega) (by omega) hk
  · rw [if_neg (by omega)]
    exact ⟨false, rfl, by simp; exact fun h => hl (by rw [h])⟩
theorem eqP_loop (x y : List S65) (hl : x.length = y.length) (hb : x.length ≤ 1099511627776) : ∀ (d i k : Nat), i ≤ x.length → x.length - i = d → d < k → ∃ r, api_Pair.l0 k x y (x.length : Int) (i : Int) = some r ∧ (r = true ↔ x.drop i = y.drop i)
  | d, i, k, h1, h2, h3 => by
    obtain ⟨k, rfl⟩ : ∃ m, k = m + 1 := ⟨k - 1, by omega⟩
    simp only [api_Pair.l0]
    by_cases hi : i < x.length
    · obtain ⟨d, rfl⟩ : ∃ e, d = e + 1 := ⟨d - 1, by omega⟩
      rw [if_pos (by omega), if_pos (by omega), if_pos (by omega), if_pos (by omega), rd_at (List.getElem?_eq_getElem hi), rd_at (List.getElem?_eq_getElem (by omega : i < y.length))]
      by_cases e : x[i] = y[i]'(by omega)
      · rw [if_neg (by rw [ne_test]; exact fun h => h e), wrap_up (by omega)]
        obtain ⟨r, hr, hi2⟩ := eqP_loop x y hl hb d (i + 1) k (by omega) (by omega) (by omega)
        refine ⟨r, hr, hi2.trans ?_⟩
        rw [List.drop_eq_getElem_cons hi, List.drop_eq_getElem_cons (by omega : i < y.length), e]
        exact ⟨fun h => by rw [h], fun h => (List.cons.inj h).2⟩
      · rw [if_pos (by rw [ne_test]; exact e)]
        refine ⟨false, rfl, ?_⟩
        rw [List.drop_eq_getElem_cons hi, List.drop_eq_getElem_cons (by omega : i < y.length)]
        exact ⟨(fun h => by cases h), fun h => absurd (List.cons.inj h).1 e⟩
    · rw [if_neg (by omega)]
      refine ⟨true, rfl, ?_⟩
      rw [List.drop_eq_nil_of_le (by omega), List.drop_eq_nil_of_le (by omega)]
      exact ⟨fun _ => rfl, fun _ => rfl⟩
theorem eqP_tells (x y : List S65) (hb : x.length ≤ 1099511627776) {k : Nat} (hk : x.length < k) : ∃ r, api_Pair.f k x y = some r ∧ (r = true ↔ x = y) := by
  unfold api_Pair.f
  by_cases hl : x.length = y.length
  · rw [if_pos (by omega), show (0 : Int) = ((0 : Nat) : Int) from rfl]
    exact eqP_loop x y hl hb x.length 0 k (by omega) (by omega) hk
  · rw [if_neg (by omega)]
    exact ⟨false, rfl, by simp; exact fun h => hl (by rw [h])⟩
theorem sameP_tells {a b : List S65} (ha : OkB 60 a) (hb : OkB 60 b) {k : Nat} (hk : 60 < k) : ∃ r, sameP k a b = some r ∧ (r = true ↔ mkL a = mkL b) := by
  unfold sameP
  rw [mk_tells ha (by omega) hk, Option.bind_some, mk_tells hb (by omega) hk, Option.bind_some]
  have := (ha.mk).1
  exact eqP_tells _ _ (by omega) (by omega)
/-- What is held, each put in order. -/
def viewM (l : List S72) : List (Int × List S65) := l.map fun h => (h.f0, mkL h.f1)
def viewR (l : List S61) : List (Int × List S65) := l.map fun h => (h.f0, mkL h.f1)
theorem viewM_cons (x : S72) (l : List S72) : viewM (x :: l) = (x.f0, mkL x.f1) :: viewM l := rfl
theorem viewR_cons (x : S61) (l : List S61) : viewR (x :: l) = (x.f0, mkL x.f1) :: viewR l := rfl
theorem sameH_tells {k : Nat} (hk : 60 < k) : ∀ (a b : List S72), (∀ h ∈ a, OkB 60 h.f1) → (∀ h ∈ b, OkB 60 h.f1) → a.length = b.length → ∃ r, sameH k a b = some r ∧ (r = true ↔ viewM a = viewM b)
  | [], [], _, _, _ => ⟨true, by unfold sameH; rfl, by simp⟩
  | [], _ :: _, _, _, h => by simp at h
  | _ :: _, [], _, _, h => by simp at h
  | x :: a, y :: b, ha, hb, hl => by
    unfold sameH
    by_cases e : x.f0 = y.f0
    · rw [if_pos e]
      obtain ⟨r, hr, hi⟩ := sameP_tells (ha x List.mem_cons_self) (hb y List.mem_cons_self) hk
      rw [hr, Option.bind_some]
      cases r with
      | true =>
        rw [if_pos rfl]
        obtain ⟨q, hq, hj⟩ := sameH_tells hk a b (fun h hh => ha h (List.mem_cons_of_mem _ hh)) (fun h hh => hb h (List.mem_cons_of_mem _ hh)) (by simpa using hl)
        refine ⟨q, hq, hj.trans ?_⟩
        have := hi.1 rfl
        rw [viewM_cons, viewM_cons, e, this]
        exact ⟨fun h => by rw [h], fun h => (List.cons.inj h).2⟩
      | false =>
        rw [if_neg (by simp)]
        refine ⟨false, rfl, ?_⟩
        have : ¬ mkL x.f1 = mkL y.f1 := fun h => by have := hi.2 h; cases this
        rw [viewM_cons, viewM_cons]
        exact ⟨(fun h => by cases h), fun h => absurd (Prod.mk.inj (List.cons.inj h).1).2 this⟩
    · rw [if_neg e]
      refine ⟨false, rfl, ?_⟩
      rw [viewM_cons, viewM_cons]
      exact ⟨(fun h => by cases h), fun h => absurd (Prod.mk.inj (List.cons.inj h).1).1 e⟩
theorem mSame_tells {L1 L2 : List S65} {H1 H2 : List S72} (h1 : OkB 60 L1) (h2 : OkB 60 L2) (g1 : ∀ h ∈ H1, OkB 60 h.f1) (g2 : ∀ h ∈ H2, OkB 60 h.f1) {k : Nat} (hk : 60 < k) : ∃ r, model_Same.f k L1 H1 L2 H2 = some r ∧ (r = true ↔ mkL L1 = mkL L2 ∧ viewM H1 = viewM H2) := by
  unfold model_Same.f
  obtain ⟨r, hr, hi⟩ := sameP_tells h1 h2 hk
  rw [hr, Option.bind_some]
  cases r with
  | true =>
    rw [if_pos rfl]
    have e1 := hi.1 rfl
    by_cases hl : H1.length = H2.length
    · rw [if_pos hl]
      obtain ⟨q, hq, hj⟩ := sameH_tells hk H1 H2 g1 g2 hl
      exact ⟨q, hq, hj.trans ⟨fun h => ⟨e1, h⟩, fun h => h.2⟩⟩
    · rw [if_neg hl]
      refine ⟨false, rfl, ?_⟩
      constructor
      · intro h; cases h
      · intro h
        have := congrArg List.length h.2
        unfold viewM at this
        simp at this
        exact absurd this hl
  | false =>
    rw [if_neg (by simp)]
    refine ⟨false, rfl, ?_⟩
    constructor
    · intro h; cases h
    · intro h; have := hi.2 h.1; cases this
theorem rSame_loop (L1 L2 : List S65) (H1 H2 : List S61) (g1 : ∀ h ∈ H1, OkB 60 h.f1) (g2 : ∀ h ∈ H2, OkB 60 h.f1) (hl : H1.length = H2.length) (hb : H1.length ≤ 60) : ∀ (d i k : Nat), i ≤ H1.length → H1.length - i = d → d + 100 < k → ∃ r, boscageref31_Same.l0 k (i : Int) L1 H1 L2 H2 = some r ∧ (r = true ↔ viewR (H1.drop i) = viewR (H2.drop i))
  | d, i, k, h1, h2, h3 => by
    obtain ⟨k, rfl⟩ : ∃ m, k = m + 1 := ⟨k - 1, by omega⟩
    simp only [boscageref31_Same.l0]
    by_cases hi : i < H1.length
    · obtain ⟨d, rfl⟩ : ∃ e, d = e + 1 := ⟨d - 1, by omega⟩
      have hi2 : i < H2.length := by omega
      rw [if_pos (by omega), if_pos (by omega), if_pos (by omega), rd_atR (List.getElem?_eq_getElem hi), rd_atR (List.getElem?_eq_getElem hi2)]
      rw [List.drop_eq_getElem_cons hi, List.drop_eq_getElem_cons hi2]
      have k1 := g1 H1[i] (List.getElem_mem hi)
      have k2 := g2 H2[i] (List.getElem_mem hi2)
      by_cases e : H1[i].f0 = H2[i].f0
      · rw [if_pos e, refmake_tells k1 (by omega), Option.bind_some, refmake_tells k2 (by omega), Option.bind_some]
        obtain ⟨r, hr, hj⟩ := refsame_tells (mkL H1[i].f1) (mkL H2[i].f1) (by have := (k1.mk).1; omega) (k := k) (by have := (k1.mk).1; omega)
        rw [hr, Option.bind_some]
        cases r with
        | true =>
          rw [if_pos rfl, wrap_up (by omega)]
          obtain ⟨q, hq, hjj⟩ := rSame_loop L1 L2 H1 H2 g1 g2 hl hb d (i + 1) k (by omega) (by omega) (by omega)
          refine ⟨q, hq, hjj.trans ?_⟩
          have := hj.1 rfl
          rw [viewR_cons, viewR_cons, e, this]
          exact ⟨fun h => by rw [h], fun h => (List.cons.inj h).2⟩
        | false =>
          rw [if_neg (by simp)]
          refine ⟨false, rfl, ?_⟩
          have : ¬ mkL H1[i].f1 = mkL H2[i].f1 := fun h => by have := hj.2 h; cases this
          rw [viewR_cons, viewR_cons]
          exact ⟨(fun h => by cases h), fun h => absurd (Prod.mk.inj (List.cons.inj h).1).2 this⟩
      · rw [if_neg e]
        refine ⟨false, rfl, ?_⟩
        rw [viewR_cons, viewR_cons]
        exact ⟨(fun h => by cases h), fun h => absurd (Prod.mk.inj (List.cons.inj h).1).1 e⟩
    · rw [if_neg (by omega)]
      refine ⟨true, rfl, ?_⟩
      rw [List.drop_eq_nil_of_le (by omega), List.drop_eq_nil_of_le (by omega)]
      exact ⟨fun _ => rfl, fun _ => rfl⟩
theorem rSame_tells {L1 L2 : List S65} {H1 H2 : List S61} (h1 : OkB 60 L1) (h2 : OkB 60 L2) (g1 : ∀ h ∈ H1, OkB 60 h.f1) (g2 : ∀ h ∈ H2, OkB 60 h.f1) (hb : H1.length ≤ 60) {k : Nat} (hk : 300 < k) : ∃ r, boscageref31_Same.f k L1 H1 L2 H2 = some r ∧ (r = true ↔ mkL L1 = mkL L2 ∧ viewR H1 = viewR H2) := by
  obtain ⟨k, rfl⟩ : ∃ m, k = m + 1 := ⟨k - 1, by omega⟩
  unfold boscageref31_Same.f
  rw [refmake_tells h1 (by omega), Option.bind_some, refmake_tells h2 (by omega), Option.bind_some]
  obtain ⟨r, hr, hj⟩ := refsame_tells (mkL L1) (mkL L2) (by have := (h1.mk).1; omega) (k := k + 1) (by have := (h1.mk).1; omega)
  rw [hr, Option.bind_some]
  simp only [boscageref31_Same.j0]
  cases r with
  | true =>
    rw [if_pos rfl]
    have e1 := hj.1 rfl
    by_cases hl : H1.length = H2.length
    · rw [if_neg (by rw [bne_iff_ne]; omega), show (0 : Int) = ((0 : Nat) : Int) from rfl]
      obtain ⟨q, hq, hjj⟩ := rSame_loop L1 L2 H1 H2 g1 g2 hl hb H1.length 0 k (by omega) (by omega) (by omega)
      refine ⟨q, hq, hjj.trans ?_⟩
      rw [List.drop_zero, List.drop_zero]
      exact ⟨fun h => ⟨e1, h⟩, fun h => h.2⟩
    · rw [if_pos (by rw [bne_iff_ne]; omega)]
      refine ⟨false, rfl, ?_⟩
      constructor
      · intro h; cases h
      · intro h
        have := congrArg List.length h.2
        unfold viewR at this
        simp at this
        exact absurd this hl
  | false =>
    rw [if_neg (by simp), if_pos trivial]
    refine ⟨false, rfl, ?_⟩
    constructor
    · intro h; cases h
    · intro h; have := hj.2 h.1; cases this
theorem works_tells : boscagelaw31_works.f = some true := rfl
/-! ### what may be called, and what is behind a call -/
theorem within_tells (a b c : Int) : call_within.f a b c = some (decide (b ≤ a ∧ a ≤ c)) := by
  unfold call_within.f
  by_cases h : b ≤ a
  · rw [if_pos h]; simp [h]
  · rw [if_neg h]; simp [h]
theorem may_tells (c0 c1 c2 c3 c4 : Int) {k : Nat} (hk : 2 < k) : ∃ t, call_May.f k c0 c1 c2 c3 c4 = some t := by
  obtain ⟨k, rfl⟩ : ∃ m, k = m + 1 := ⟨k - 1, by omega⟩
  have j : ∀ a b : Int, ∃ t, call_May.j0 (k + 1) a b c0 c1 c2 c3 c4 = some t := by
    intro a b
    simp only [call_May.j0, within_tells, Option.bind_some]
    repeat' split
    all_goals exact ⟨_, rfl⟩
  unfold call_May.f
  split
  · exact j _ _
  · exact j _ _
theorem fits_tells (c0 c1 c2 c3 c4 op : Int) (key v o : ByteArray) (hd : Int) {k : Nat} (hk : 5 < k) : ∃ t, model_fits.f k c0 c1 c2 c3 c4 op key v o hd = some t := by
  obtain ⟨k, rfl⟩ : ∃ m, k = m + 1 + 1 := ⟨k - 2, by omega⟩
  obtain ⟨m, hm⟩ := may_tells c0 c1 c2 c3 c4 (k := k + 1 + 1) (by omega)
  have j1 : ∀ (b : Bool) (x : Int) (y z u : ByteArray) (n : Int), ∃ t, call_Fits.j1 (k + 1) b x y z u n = some t := by
    intro b x y z u n
    simp only [call_Fits.j1]
    repeat' split
    all_goals exact ⟨_, rfl⟩
  have j0 : ∀ (b : Bool) (x : Int) (y z u : ByteArray) (n : Int), ∃ t, call_Fits.j0 (k + 1 + 1) b x y z u n = some t := by
    intro b x y z u n
    simp only [call_Fits.j0]
    split
    · exact ⟨_, rfl⟩
    · split
      · exact j1 _ _ _ _ _ _
      · split
        · exact j1 _ _ _ _ _ _
        · exact j1 _ _ _ _ _ _
  have f : ∃ t, call_Fits.f (k + 1 + 1) c0 c1 c2 c3 c4 op key v o hd = some t := by
    have is : ∃ b, call_is.f op = some b := by
      unfold call_is.f
      split <;> exact ⟨_, rfl⟩
    obtain ⟨b, hb⟩ := is
    unfold call_Fits.f call_Plain.f
    rw [Option.bind_some, hb, Option.bind_some]
    split
    · split
      · exact j0 _ _ _ _ _ _
      · exact j0 _ _ _ _ _ _
    · exact ⟨_, rfl⟩
  obtain ⟨n, hn⟩ := f
  unfold model_fits.f
  rw [hm, Option.bind_some, hn, Option.bind_some]
  split <;> exact ⟨_, rfl⟩
theorem after_cases {L : List S65} {H : List S72} (hL : OkB 40 L) (hH : H.length ≤ 1000) (c0 c1 c2 c3 c4 op : Int) {key v o : ByteArray} (hkey : key.size ≤ 1099511627776) (hd : Int) {k : Nat} (hk : 100 < k) : ∃ m h b, model_After.f k c0 c1 c2 c3 c4 L H op key v o hd = some (m, h, b) ∧ ((b = false ∧ m = L ∧ h = H) ∨ (b = true ∧ (h = H ∨ (op = 8 ∧ ∃ i : Nat, ∃ hi : i < H.length, H[i].f0 = hd ∧ h = H.eraseIdx i)))) := by
  obtain ⟨t, ht⟩ := fits_tells c0 c1 c2 c3 c4 op key v o hd (k := k) (by omega)
  unfold model_After.f
  rw [ht, Option.bind_some]
  by_cases hf : t = true
  · rw [if_pos hf, get_tells hL (by omega) hkey (by omega), Option.bind_some]
    by_cases h1 : op = 2 ∨ (op = 3 ∧ (getR (ordL L) key).2 = false) ∨ (op = 4 ∧ (getR (ordL L) key).2 = true ∧ (getR (ordL L) key).1 = o)
    · rw [if_pos h1]
      by_cases h2 : (getR (ordL L) key).2 = true ∧ (getR (ordL L) key).1 = v
      · rw [if_pos h2]; exact ⟨_, _, _, rfl, .inl ⟨rfl, rfl, rfl⟩⟩
      · rw [if_neg h2, Put_tells hL (by omega) hkey (by omega), Option.bind_some]
        exact ⟨_, _, _, rfl, .inr ⟨rfl, .inl rfl⟩⟩
    · rw [if_neg h1]
      by_cases h3 : op = 5 ∧ (getR (ordL L) key).2 = true
      · rw [if_pos h3, Drop_tells hL (by omega) hkey (by omega), Option.bind_some]
        exact ⟨_, _, _, rfl, .inr ⟨rfl, .inl rfl⟩⟩
      · rw [if_neg h3]
        by_cases h8 : op = 8
        · rw [if_pos h8]
          by_cases hn : 0 ≤ heldL H hd
          · rw [if_pos hn, if_pos (by omega)]
            refine ⟨_, _, _, rfl, .inr ⟨rfl, .inr ⟨h8, ?_⟩⟩⟩
            unfold heldL at hn ⊢
            cases e : H.findIdx? (fun h => h.f0 == hd) with
            | none => rw [e] at hn; exact absurd hn (by decide)
            | some i =>
              obtain ⟨hi, hp, _⟩ := List.findIdx?_eq_some_iff_getElem.1 e
              exact ⟨i, hi, by simpa using hp, rfl⟩
          · rw [if_neg hn]; exact ⟨_, _, _, rfl, .inl ⟨rfl, rfl, rfl⟩⟩
        · rw [if_neg h8]; exact ⟨_, _, _, rfl, .inl ⟨rfl, rfl, rfl⟩⟩
  · rw [if_neg hf]; exact ⟨_, _, _, rfl, .inl ⟨rfl, rfl, rfl⟩⟩
def toR (l : List S72) : List S61 := l.map fun h => ⟨h.f0, h.f1⟩
theorem back_loop (L : List S65) (H : List S72) (O : List S65) (hH : H.length ≤ 1000) : ∀ (d i k : Nat) (acc : List S61), i ≤ H.length → acc.length = i → H.length - i = d → d < k → boscagelaw31_Back.l0 k (i : Int) L H O acc = some (O, acc ++ (H.drop i).map fun h => ⟨h.f0, h.f1⟩)
  | d, i, k, acc, h1, h3, h4, h5 => by
    obtain ⟨k, rfl⟩ : ∃ m, k = m + 1 := ⟨k - 1, by omega⟩
    simp only [boscagelaw31_Back.l0]
    by_cases hi1 : i < H.length
    · obtain ⟨d, rfl⟩ : ∃ e, d = e + 1 := ⟨d - 1, by omega⟩
      have hp : H[i]? = some H[i] := List.getElem?_eq_getElem hi1
      rw [if_pos (by omega), if_pos (by omega), if_pos (by omega), rd_atM hp, wrap_up (by omega), back_loop L H O hH d (i + 1) k _ (by omega) (by simp; omega) (by omega) (by omega)]
      rw [List.drop_eq_getElem_cons hi1, List.map_cons, List.append_assoc]; rfl
    · have e : H.drop i = [] := List.drop_eq_nil_of_le (by omega)
      rw [e, List.map_nil, List.append_nil, if_neg (by omega)]
theorem back_tells (L : List S65) (H : List S72) (hH : H.length ≤ 1000) {k : Nat} (hk : 1200 < k) : boscagelaw31_Back.f k L H = some (L, toR H) := by
  unfold boscagelaw31_Back.f
  rw [show (0 : Int) = ((0 : Nat) : Int) from rfl, back_loop L H L hH H.length 0 k [] (by omega) rfl rfl (by omega)]
  rfl
def atR (H : List S61) (id : Int) : List S65 × Bool := match H.find? (fun h => h.f0 == id) with | some x => (x.f1, true) | none => ([], false)
theorem at_loop (L : List S65) (H : List S61) (id : Int) (hH : H.length ≤ 1000) : ∀ (d i k : Nat), i ≤ H.length → H.length - i = d → d < k → boscageref31_At.l0 k id (i : Int) L H = some (atR (H.drop i) id)
  | d, i, k, h1, h4, h5 => by
    obtain ⟨k, rfl⟩ : ∃ m, k = m + 1 := ⟨k - 1, by omega⟩
    simp only [boscageref31_At.l0]
    by_cases hi1 : i < H.length
    · obtain ⟨d, rfl⟩ : ∃ e, d = e + 1 := ⟨d - 1, by omega⟩
      have hp : H[i]? = some H[i] := List.getElem?_eq_getElem hi1
      rw [if_pos (by omega), if_pos (by omega), rd_atR hp, wrap_up (by omega), at_loop L H id hH d (i + 1) k (by omega) (by omega) (by omega)]
      rw [List.drop_eq_getElem_cons hi1]
      unfold atR
      rw [List.find?_cons]
      by_cases e : H[i].f0 = id
      · rw [if_pos e]; simp [e]
      · rw [if_neg e, show (H[i].f0 == id) = false by simpa using e]
    · have e : H.drop i = [] := List.drop_eq_nil_of_le (by omega)
      rw [e, if_neg (by omega)]; rfl
theorem at_tells (L : List S65) (H : List S61) (id : Int) (hH : H.length ≤ 1000) {k : Nat} (hk : 1200 < k) : boscageref31_At.f k L H id = some (atR H id) := by
  unfold boscageref31_At.f
  rw [show (0 : Int) = ((0 : Nat) : Int) from rfl, at_loop L H id hH H.length 0 k (by omega) rfl (by omega)]
  rfl
theorem atR_ok {H : List S61} (g : ∀ h ∈ H, OkB 40 h.f1) (id : Int) : OkB 60 (atR H id).1 := by
  unfold atR
  cases e : H.find? (fun h => h.f0 == id) with
  | none => exact ⟨by simp, by simp⟩
  | some x => exact (g x (List.mem_of_find?_eq_some e)).mono (by omega)
theorem find_erase (id : Int) : ∀ (H : List S61) (i : Nat) (hi : i < H.length), H[i].f0 ≠ id → (H.eraseIdx i).find? (fun h => h.f0 == id) = H.find? (fun h => h.f0 == id)
  | [], i, hi, _ => by simp at hi
  | x :: xs, 0, _, h => by
    rw [List.eraseIdx_cons_zero, List.find?_cons]
    have : (x.f0 == id) = false := by simpa using h
    rw [this]
  | x :: xs, i + 1, hi, h => by
    rw [List.eraseIdx_cons_succ, List.find?_cons, List.find?_cons, find_erase id xs i (by simpa using hi) (by simpa using h)]
theorem map_erase {α β : Type} (f : α → β) : ∀ (l : List α) (i : Nat), (l.map f).eraseIdx i = (l.eraseIdx i).map f
  | [], i => by simp
  | x :: xs, 0 => by simp
  | x :: xs, i + 1 => by
    rw [List.map_cons, List.eraseIdx_cons_succ, List.eraseIdx_cons_succ, List.map_cons, map_erase f xs i]
theorem toR_toM {H : List S61} (g : ∀ h ∈ H, fewL h.f1 = h.f1) : toR (toM H) = H := by
  unfold toR toM
  rw [List.map_map]
  conv => rhs; rw [← List.map_id H]
  apply List.map_congr_left
  intro x hx
  show (⟨x.f0, fewL x.f1⟩ : S61) = x
  rw [g x hx]
theorem toM_ok (H : List S61) : ∀ h ∈ toM H, OkB 60 h.f1 := by
  intro h hh
  unfold toM at hh
  obtain ⟨x, _, rfl⟩ := List.mem_map.1 hh
  exact (fewL_ok x.f1).mono (by omega)
theorem same_at {a : List S65 × Bool} (h : OkB 60 a.1) {k : Nat} (hk : 300 < k) : boscageref31_Same.f k a.1 ([] : List S61) a.1 ([] : List S61) = some true := by
  obtain ⟨q, hq, hj⟩ := rSame_tells (L1 := a.1) (L2 := a.1) (H1 := []) (H2 := []) h h (by simp) (by simp) (by simp) (k := k) (by omega)
  rw [hq, hj.2 ⟨rfl, rfl⟩]
theorem keeps_end {L m : List S65} {H : List S61} {h : List S72} (g : ∀ x ∈ H, OkB 40 x.f1 ∧ fewL x.f1 = x.f1) (hH : H.length ≤ 6) (id op hd : Int) (a b c : ByteArray) (hh : h = toM H ∨ (op = 8 ∧ ∃ i : Nat, ∃ hi : i < (toM H).length, (toM H)[i].f0 = hd ∧ h = (toM H).eraseIdx i)) : boscagelaw31_ModelKeeps.j0 5000 id false L H op a b c hd m h = some true := by
  have hlen : (toM H).length = H.length := by unfold toM; rw [List.length_map]
  have hl : h.length ≤ 6 := by
    rcases hh with rfl | ⟨_, i, hi, _, rfl⟩
    · omega
    · rw [List.length_eraseIdx]; split <;> omega
  have hl2 : (toR h).length ≤ 6 := by unfold toR; rw [List.length_map]; exact hl
  rw [show (5000 : Nat) = 4999 + 1 from rfl]
  simp only [boscagelaw31_ModelKeeps.j0]
  rw [if_neg (by simp), at_tells L H id (by omega) (by omega), Option.bind_some, back_tells m h (by omega) (by omega), Option.bind_some, at_tells m (toR h) id (by omega) (by omega), Option.bind_some]
  have key : (op = 8 ∧ hd = id) ∨ atR (toR h) id = atR H id := by
    rcases hh with rfl | ⟨h8, i, hi, hf, rfl⟩
    · exact .inr (by rw [toR_toM (fun x hx => (g x hx).2)])
    · by_cases e : hd = id
      · exact .inl ⟨h8, e⟩
      · refine .inr ?_
        have e1 : toR ((toM H).eraseIdx i) = H.eraseIdx i := by
          conv => rhs; rw [← toR_toM (fun x hx => (g x hx).2)]
          unfold toR
          exact (map_erase _ _ i).symm
        have hi' : i < H.length := by omega
        have e2 : H[i].f0 = hd := by
          rw [← hf]; simp [toM]
        rw [e1]
        unfold atR
        rw [find_erase id H i hi' (by rw [e2]; exact e)]
  rcases key with ⟨h8, e⟩ | e
  · rw [if_pos h8, if_pos e]
  · have sa := same_at (a := atR H id) (atR_ok (fun x hx => (g x hx).1) id) (k := 4999) (by omega)
    have fin : (if ((atR H id).2 == (atR (toR h) id).2) = true then ((boscageref31_Same.f 4999 (atR H id).1 ([] : List S61) (atR (toR h) id).1 ([] : List S61)).bind fun t => (some t)) else (some false)) = some true := by
      rw [e, if_pos (by simp), sa, Option.bind_some]
    by_cases h8 : op = 8
    · rw [if_pos h8]
      by_cases hi : hd = id
      · rw [if_pos hi]
      · rw [if_neg hi]; exact fin
    · rw [if_neg h8]; exact fin
theorem keeps_all (c0 c1 c2 c3 c4 : Int) (L : List S65) (H : List S61) (op : Int) (key v o : ByteArray) (hd id : Int) : boscagelaw31_ModelKeeps.f 5000 c0 c1 c2 c3 c4 L H op key v o hd id = some true := by
  have l1 := fewH_len H
  have ht : (toM (fewH H)).length = (fewH H).length := by unfold toM; rw [List.length_map]
  unfold boscagelaw31_ModelKeeps.f boscagelaw31_short.f
  rw [works_tells, Option.bind_some, if_pos rfl, fewS_tells _ _ (by omega), Option.bind_some, cut_tells, Option.bind_some, cut_tells, Option.bind_some, cut_tells, Option.bind_some, Option.bind_some]
  simp only []
  rw [give_tells _ _ (by omega) (by omega), Option.bind_some]
  simp only []
  rw [fewL_few]
  obtain ⟨m, h, b, ha, hc⟩ := after_cases (L := fewL L) (H := toM (fewH H)) (fewL_ok L) (by omega) c0 c1 c2 c3 c4 op (key := cutB key) (v := cutB v) (o := cutB o) (by have := cutB_size key; omega) hd (k := 5000) (by omega)
  rw [ha, Option.bind_some]
  rcases hc with ⟨rfl, rfl, rfl⟩ | ⟨rfl, hh⟩
  · obtain ⟨r, hr, hi⟩ := mSame_tells (L1 := fewL L) (L2 := fewL L) (H1 := toM (fewH H)) (H2 := toM (fewH H)) ((fewL_ok _).mono (by omega)) ((fewL_ok _).mono (by omega)) (toM_ok _) (toM_ok _) (k := 5000) (by omega)
    rw [if_neg (by simp), Option.bind_some]
    simp only []
    rw [hr, Option.bind_some, hi.2 ⟨rfl, rfl⟩]
    exact keeps_end (fun x hx => fewH_ok hx) l1 id op hd _ _ _ (.inl rfl)
  · rw [if_pos rfl]
    exact keeps_end (fun x hx => fewH_ok hx) l1 id op hd _ _ _ hh
theorem ModelKeeps (c0 c1 c2 c3 c4 : Int) (L : List S65) (H : List S61) (x : S29) (id : Int) : boscagelaw31_ModelKeeps.f 5000 c0 c1 c2 c3 c4 L H x.f0 x.f1 x.f2 x.f3 x.f4 id = some true := keeps_all _ _ _ _ _ _ _ _ _ _ _ _ _
end Go.Proofs.YthnococjdeafhaaDoor.PModelKeeps
