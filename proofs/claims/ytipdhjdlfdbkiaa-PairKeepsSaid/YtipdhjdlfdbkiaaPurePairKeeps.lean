/- PairKeeps: the printed law function answers true for all bindings and texts. -/
import Derived.Test.YtipdhjdlfdbkiaaPPairKeepsx
namespace Go.Proofs.Ytipdhjdlfdbkiaa.PurePairKeeps
open Go.RowKit Go.Proofs.Ytipdhjdlfdbkiaa.PPairKeeps Go.Proofs.YtipdhjdlfdbkiaaW.PrintWords Go.Proofs.YtipdhjdlfdbkiaaW.PrintLast Go.Proofs.YtipdhjdlfdbkiaaW.PrintMore
/-! ### what the printed functions tell -/
def OkB (B : Nat) (l : List S56) : Prop := l.length ≤ B ∧ ∀ p ∈ l, p.f0.size ≤ 1099511627776
theorem OkB.fit {B : Nat} {l : List S56} (h : OkB B l) (hB : B ≤ 1099511627776) : fit l = true := by
  unfold Go.Proofs.Ytipdhjdlfdbkiaa.PPairKeeps.fit
  simp only [Bool.and_eq_true, decide_eq_true_eq, List.all_eq_true]
  exact ⟨by have := h.1; omega, h.2⟩
theorem OkB.mono {B C : Nat} {l : List S56} (h : OkB B l) (hB : B ≤ C) : OkB C l := ⟨by have := h.1; omega, h.2⟩
theorem OkB.put {B : Nat} {l : List S56} (h : OkB B l) (p : S56) (hp : p.f0.size ≤ 1099511627776) : OkB (B + 1) (putL l p) := by
  have h1 := h.1
  unfold putL
  split
  · refine ⟨by rw [List.length_set]; omega, fun q hq => ?_⟩
    rcases List.mem_or_eq_of_mem_set hq with h2 | h2
    · exact h.2 q h2
    · rw [h2]; exact hp
  · refine ⟨by simp only [List.length_append, List.length_cons, List.length_take, List.length_drop]; have := low_le l p.f0; omega, fun q hq => ?_⟩
    rw [List.mem_append, List.mem_cons] at hq
    rcases hq with hq | hq | hq
    · exact h.2 q (List.mem_of_mem_take hq)
    · rw [hq]; exact hp
    · exact h.2 q (List.mem_of_mem_drop hq)
theorem OkB.fold {B : Nat} : ∀ (l acc : List S56), OkB B acc → (∀ p ∈ l, p.f0.size ≤ 1099511627776) → OkB (B + l.length) (l.foldl putL acc)
  | [], _, h, _ => h
  | p :: l, acc, h, hl => by
    have := OkB.fold l _ (h.put p (hl p (by simp))) (fun q hq => hl q (by simp [hq]))
    rw [List.foldl_cons, List.length_cons]
    exact this.mono (by omega)
theorem OkB.mk {B : Nat} {l : List S56} (h : OkB B l) : OkB B (mkL l) := by
  have : OkB 0 ([] : List S56) := ⟨by simp, by simp⟩
  exact (OkB.fold l [] this h.2).mono (by have := h.1; omega)
theorem OkB.ord {B : Nat} {l : List S56} (h : OkB B l) : OkB B (ordL l) := by rw [ord_mk]; exact h.mk
theorem OkB.drop {B : Nat} {l : List S56} (h : OkB B l) (key : ByteArray) : OkB B (dropL l key) := by
  unfold dropL
  split
  · exact ⟨by have := List.length_eraseIdx_le l (low l key); have := h.1; omega, fun q hq => h.2 q (List.mem_of_mem_eraseIdx hq)⟩
  · exact h
theorem rd_at {l : List S56} {i : Nat} {p : S56} (h : l[i]? = some p) : rd_T56 l (i : Int) = p := by
  unfold rd_T56
  rw [Int.toNat_natCast, List.getD_eq_getElem?_getD, h]; rfl
theorem wrap_up {i : Nat} (h : i ≤ 1099511627776) : wrap64 ((i : Int) + 1) = ((i + 1 : Nat) : Int) := by unfold wrap64; omega
theorem wrap_dn {i : Nat} (h : i ≤ 1099511627776) (h0 : 1 ≤ i) : wrap64 ((i : Int) - 1) = ((i - 1 : Nat) : Int) := by unfold wrap64; omega
theorem cmp_tells {B : Nat} {l : List S56} (h : OkB B l) {p q : S56} (hp : p ∈ l) (hq : q ∈ l) : order_Compare.f p.f0 q.f0 = some (cmpS p.f0 q.f0) := by
  unfold order_Compare.f; rw [if_pos ⟨h.2 p hp, h.2 q hq⟩]
theorem is_loop {B : Nat} {l : List S56} (h : OkB B l) (hB : B ≤ 1099511627776) : ∀ (d i k : Nat), 1 ≤ i → i ≤ l.length → l.length - i = d → d < k → pair_Is.l0 k l (l.length : Int) (i : Int) = some (srt (l.drop (i - 1)))
  | 0, i, k, h1, h2, h3, h4 => by
    obtain ⟨k, rfl⟩ : ∃ m, k = m + 1 := ⟨k - 1, by omega⟩
    have hi : i = l.length := by omega
    simp only [pair_Is.l0]
    rw [if_neg (by omega)]
    have : (l.drop (i - 1)).length = 1 := by rw [List.length_drop]; omega
    obtain ⟨a, ha⟩ := List.length_eq_one_iff.1 this
    rw [ha]; rfl
  | d + 1, i, k, h1, h2, h3, h4 => by
    obtain ⟨k, rfl⟩ : ∃ m, k = m + 1 := ⟨k - 1, by omega⟩
    have hl := h.1
    have hp : l[i - 1]? = some l[i - 1] := List.getElem?_eq_getElem (by omega)
    have hq : l[i]? = some l[i] := List.getElem?_eq_getElem (by omega)
    simp only [pair_Is.l0]
    rw [if_pos (by omega), if_pos (by omega), wrap_dn (by omega) h1, if_pos (by omega), if_pos (by omega), if_pos (by omega), if_pos (by omega), rd_at hp, rd_at hq, cmp_tells h (List.getElem_mem _) (List.getElem_mem _), Option.bind_some, wrap_up (by omega), is_loop h hB d (i + 1) k (by omega) (by omega) (by omega) (by omega)]
    have e1 : l.drop (i - 1) = l[i - 1] :: l.drop i := by
      rw [List.drop_eq_getElem_cons (by omega)]; congr 2; omega
    have e2 : l.drop i = l[i] :: l.drop (i + 1) := List.drop_eq_getElem_cons (by omega)
    rw [e1, Nat.add_sub_cancel]
    have e3 : srt (l[i - 1] :: l.drop i) = (decide (cmpS l[i - 1].f0 l[i].f0 < 0) && srt (l.drop i)) := by rw [e2]; rfl
    rw [e3]
    by_cases hc : cmpS l[i - 1].f0 l[i].f0 ≥ 0
    · rw [if_pos hc, decide_eq_false (by omega)]; rfl
    · rw [if_neg hc, decide_eq_true (by omega)]; rfl
theorem is_tells {B : Nat} {l : List S56} (h : OkB B l) (hB : B ≤ 1099511627776) {k : Nat} (hk : B < k) : pair_Is.f k l = some (srt l) := by
  unfold pair_Is.f
  have hl := h.1
  obtain ⟨k, rfl⟩ : ∃ m, k = m + 1 := ⟨k - 1, by omega⟩
  by_cases h0 : l.length = 0
  · obtain rfl := List.eq_nil_of_length_eq_zero h0
    simp only [pair_Is.l0]
    rw [if_neg (by simp)]; rfl
  · simp only [pair_Is.l0]
    rw [if_pos (by omega), if_neg (by omega), show wrap64 ((0 : Int) + 1) = ((1 : Nat) : Int) from by unfold wrap64; omega, is_loop h hB (l.length - 1) 1 k (by omega) (by omega) rfl (by omega)]
    rfl
theorem place_tells {B : Nat} {l : List S56} (h : OkB B l) (hB : B ≤ 1099511627776) (hs : Sd l) {key : ByteArray} (hk : key.size ≤ 1099511627776) : pair_place.f l key = some ((low l key : Int), isAt l key) := by
  unfold pair_place.f
  rw [if_pos (by simp only [Bool.and_eq_true, decide_eq_true_eq]; exact ⟨⟨(srt_iff l).2 hs, h.fit hB⟩, hk⟩)]
theorem put_tells {B : Nat} {l : List S56} (h : OkB B l) (hB : B + 1 ≤ 1099511627776) (hs : Sd l) {a b : ByteArray} (hk : a.size ≤ 1099511627776) : pair_put.f l a b = some (putL l ⟨a, b⟩) := by
  unfold pair_put.f
  have := h.1
  rw [if_pos ⟨by simp only [Bool.and_eq_true, decide_eq_true_eq]; exact ⟨⟨(srt_iff l).2 hs, h.fit (by omega)⟩, hk⟩, by omega⟩]
theorem mk_loop {l : List S56} {C : Nat} (hl : OkB C l) : ∀ (d i k B : Nat) (acc : List S56), OkB B acc → Sd acc → B + d + C + 1 ≤ 1099511627776 → i ≤ l.length → l.length - i = d → d < k → pair_Make.l0 k acc l (l.length : Int) (i : Int) = some ((l.drop i).foldl putL acc)
  | 0, i, k, B, acc, h, hs, hB, h2, h3, h4 => by
    obtain ⟨k, rfl⟩ : ∃ m, k = m + 1 := ⟨k - 1, by omega⟩
    simp only [pair_Make.l0]
    rw [if_neg (by omega), List.drop_eq_nil_of_le (by omega)]; rfl
  | d + 1, i, k, B, acc, h, hs, hB, h2, h3, h4 => by
    obtain ⟨k, rfl⟩ : ∃ m, k = m + 1 := ⟨k - 1, by omega⟩
    have hll := hl.1
    have hp : l[i]? = some l[i] := List.getElem?_eq_getElem (by omega)
    have hsz : l[i].f0.size ≤ 1099511627776 := hl.2 _ (List.getElem_mem _)
    simp only [pair_Make.l0]
    rw [if_pos (by omega), if_pos (by omega), if_pos (by omega), rd_at hp, put_tells h (by omega) hs hsz, Option.bind_some, wrap_up (by omega), mk_loop hl d (i + 1) k (B + 1) _ (h.put _ hsz) (sd_put hs _) (by omega) (by omega) (by omega) (by omega), List.drop_eq_getElem_cons (show i < l.length by omega)]
    rfl
theorem mk_tells {B : Nat} {l : List S56} (h : OkB B l) (hB : B + B + 1 ≤ 1099511627776) {k : Nat} (hk : B < k) : pair_Make.f k l = some (mkL l) := by
  unfold pair_Make.f
  have := h.1
  rw [show (0 : Int) = ((0 : Nat) : Int) from rfl, mk_loop h l.length 0 k 0 [] ⟨by simp, by simp⟩ List.Pairwise.nil (by omega) (by omega) (by omega) (by omega)]
  rfl
theorem works_tells {k : Nat} (hk : 10 < k) : boscagelaw07_works.f k = some true := by
  unfold boscagelaw07_works.f
  rw [mk_tells (B := 3) ⟨by simp, by intro p hp; simp at hp; rcases hp with rfl | rfl | rfl <;> decide⟩ (by omega) (by omega), Option.bind_some]
  decide +kernel
theorem bytes_eq {a b : ByteArray} : a.toList = b.toList ↔ a = b := by
  constructor
  · intro h
    rw [ByteArray.toList_eq, ByteArray.toList_eq] at h
    cases a; cases b
    simpa [Array.ext_iff] using h
  · rintro rfl; rfl
def cutB (s : ByteArray) : ByteArray := s.extract 0 (min s.size 40)
theorem cut_tells (s : ByteArray) : boscagebase_Cut.f s 40 = some (cutB s) := by
  unfold boscagebase_Cut.f cutB mn
  by_cases h : (40 : Int) < (s.size : Int)
  · rw [if_pos h, if_pos (by omega), if_pos (by omega)]
    have e1 : min s.size 40 = 40 := by omega
    rw [e1]; rfl
  · rw [if_neg h, if_pos (by omega), if_pos (by omega)]
    have e1 : min s.size 40 = s.size := by omega
    rw [e1]; rfl
theorem cutB_size (s : ByteArray) : (cutB s).size ≤ 40 := by unfold cutB; rw [ByteArray.size_extract]; omega
theorem cutB_cut (s : ByteArray) : cutB (cutB s) = cutB s := by
  have h := cutB_size s
  have e : min (cutB s).size 40 = (cutB s).size := by omega
  rw [show cutB (cutB s) = (cutB s).extract 0 (min (cutB s).size 40) from rfl, e]
  simp
def fewL (l : List S56) : List S56 := (l.take 40).map fun p => ⟨cutB p.f0, cutB p.f1⟩
theorem few_loop (l : List S56) : ∀ (d i k : Nat) (acc : List S56), i ≤ l.length → i ≤ 40 → acc.length = i → 40 - i = d → 2 * d + 2 < k → boscagelaw07_Few.l0 k l acc (i : Int) = some (acc ++ ((l.take 40).drop i).map fun p => ⟨cutB p.f0, cutB p.f1⟩)
  | d, i, k, acc, h1, h2, h3, h4, h5 => by
    obtain ⟨k, rfl⟩ : ∃ m, k = m + 2 := ⟨k - 2, by omega⟩
    simp only [boscagelaw07_Few.l0]
    by_cases hi : i < l.length ∧ i < 40
    · obtain ⟨hi1, hi2⟩ := hi
      obtain ⟨d, rfl⟩ : ∃ e, d = e + 1 := ⟨d - 1, by omega⟩
      have hp : l[i]? = some l[i] := List.getElem?_eq_getElem hi1
      rw [if_pos (by omega), decide_eq_true (by omega)]
      simp only [boscagelaw07_Few.j1, if_true]
      rw [if_pos (by omega), if_pos (by omega), rd_at hp, cut_tells, Option.bind_some, cut_tells, Option.bind_some, if_pos (by omega), wrap_up (by omega), few_loop l d (i + 1) k _ (by omega) (by omega) (by simp [h3]) (by omega) (by omega)]
      have e : (l.take 40).drop i = l[i] :: (l.take 40).drop (i + 1) := by
        rw [List.drop_eq_getElem_cons (by rw [List.length_take]; omega)]; congr 1; rw [List.getElem_take]
      rw [e, List.map_cons, List.append_assoc]; rfl
    · have e : (l.take 40).drop i = [] := List.drop_eq_nil_of_le (by rw [List.length_take]; omega)
      rw [e, List.map_nil, List.append_nil]
      by_cases hi1 : i < l.length
      · rw [if_pos (by omega), decide_eq_false (by omega)]
        simp only [boscagelaw07_Few.j1]
        rw [if_neg (by simp)]
      · rw [if_neg (by omega)]
        simp only [boscagelaw07_Few.j1]
        rw [if_neg (by simp)]
theorem few_tells (l : List S56) {k : Nat} (hk : 90 < k) : boscagelaw07_Few.f k l = some (fewL l) := by
  unfold boscagelaw07_Few.f
  rw [show (0 : Int) = ((0 : Nat) : Int) from rfl, few_loop l 40 0 k [] (by omega) (by omega) rfl rfl (by omega)]
  rfl
theorem fewL_ok (l : List S56) : OkB 40 (fewL l) := by
  refine ⟨by simp [fewL]; omega, fun p hp => ?_⟩
  simp only [fewL, List.mem_map] at hp
  obtain ⟨q, _, rfl⟩ := hp
  have := cutB_size q.f0
  show (cutB q.f0).size ≤ _
  omega
theorem fewL_few (l : List S56) : fewL (fewL l) = fewL l := by
  unfold fewL
  rw [List.take_of_length_le (by simp; omega), List.map_map]
  refine List.map_congr_left fun p _ => ?_
  show (⟨cutB (cutB p.f0), cutB (cutB p.f1)⟩ : S56) = _
  rw [cutB_cut, cutB_cut]
def getR (l : List S56) (key : ByteArray) : ByteArray × Bool := match lk l key with | some v => (v, true) | none => (⟨#[]⟩, false)
theorem ord_tells {B : Nat} {l : List S56} (h : OkB B l) (hB : B + B + 1 ≤ 1099511627776) {k : Nat} (hk : B < k) : pair_ordered.f k l = some (ordL l) := by
  unfold pair_ordered.f ordL
  rw [is_tells h (by omega) hk, Option.bind_some]
  by_cases hs : srt l = true
  · rw [if_pos hs, if_pos hs]
  · rw [if_neg hs, if_neg hs, mk_tells h hB hk, Option.bind_some]
theorem get_tells {B : Nat} {l : List S56} (h : OkB B l) (hB : B + B + 1 ≤ 1099511627776) {key : ByteArray} (hkey : key.size ≤ 1099511627776) {k : Nat} (hk : B < k) : pair_Get.f k l key = some (getR (ordL l) key) := by
  unfold pair_Get.f
  rw [ord_tells h hB hk, Option.bind_some, place_tells h.ord (by omega) (sd_ord l) hkey, Option.bind_some]
  show (if isAt (ordL l) key = true then _ else _) = _
  unfold getR
  by_cases ha : isAt (ordL l) key = true
  · obtain ⟨p, hp, hpk⟩ := isAt_low ha
    have hlt := (List.getElem?_eq_some_iff.1 hp).1
    rw [if_pos ha, if_pos (by omega), if_pos (by show ((low (ordL l) key : Nat) : Int) < _; omega)]
    show some ((rd_T56 (ordL l) ((low (ordL l) key : Nat) : Int)).f1, true) = _
    rw [rd_at hp, (lk_some (sd_ord l) (v := p.f1)).2 (by rw [← hpk]; exact List.mem_of_getElem? hp)]
  · rw [if_neg ha]
    rw [isAt_iff] at ha
    cases hv : lk (ordL l) key with
    | none => rfl
    | some v => rw [hv] at ha; simp at ha
theorem Put_tells {B : Nat} {l : List S56} (h : OkB B l) (hB : B + B + 1 ≤ 1099511627776) {a b : ByteArray} (hkey : a.size ≤ 1099511627776) {k : Nat} (hk : B < k) : pair_Put.f k l a b = some (putL (ordL l) ⟨a, b⟩) := by
  unfold pair_Put.f
  rw [ord_tells h hB hk, Option.bind_some, put_tells h.ord (by omega) (sd_ord l) hkey, Option.bind_some]
theorem Drop_tells {B : Nat} {l : List S56} (h : OkB B l) (hB : B + B + 1 ≤ 100000000000) {key : ByteArray} (hkey : key.size ≤ 1099511627776) {k : Nat} (hk : B < k) : pair_Drop.f k l key = some (dropL (ordL l) key) := by
  unfold pair_Drop.f cl_Pair.f
  have ho := h.ord
  have hl := ho.1
  rw [ord_tells h (by omega) hk, Option.bind_some, if_pos (by omega), Option.bind_some, place_tells ho (by omega) (sd_ord l) hkey, Option.bind_some]
  show (if isAt (ordL l) key = true then _ else _) = _
  unfold dropL
  by_cases ha : isAt (ordL l) key = true
  · rw [if_pos ha, if_pos ha]
    have := isAt_lt ha
    show (de_Pair.f _ ((low (ordL l) key : Nat) : Int) (wrap64 (((low (ordL l) key : Nat) : Int) + 1))).bind _ = _
    unfold de_Pair.f
    rw [wrap_up (by omega), if_pos ⟨by omega, by omega, by omega⟩, Option.bind_some, Int.toNat_natCast]
  · rw [if_neg ha, if_neg ha]
set_option maxHeartbeats 1000000 in
theorem keeps_all (l : List S56) (key val other : ByteArray) (m : Nat) (hm : 150 < m) : boscagelaw07_PairKeeps.f (m + 1) l key val other = some true := by
  have hf := fewL_ok l
  have hk := cutB_size key
  have hv := cutB_size val
  have ho := cutB_size other
  obtain ⟨L, hL⟩ : ∃ L, L = ordL (fewL l) := ⟨_, rfl⟩
  have hLs : Sd L := by rw [hL]; exact sd_ord _
  have hLo : OkB 40 L := by rw [hL]; exact hf.ord
  have hP := hLo.put ⟨cutB key, cutB val⟩ (show (cutB key).size ≤ _ by omega)
  have hD := hLo.drop (cutB key)
  have hPs := sd_put hLs ⟨cutB key, cutB val⟩
  have hDs := sd_drop hLs (cutB key)
  have oP : ordL (putL L ⟨cutB key, cutB val⟩) = putL L ⟨cutB key, cutB val⟩ := by unfold ordL; rw [if_pos ((srt_iff _).2 hPs)]
  have oD : ordL (dropL L (cutB key)) = dropL L (cutB key) := by unfold ordL; rw [if_pos ((srt_iff _).2 hDs)]
  have g1 : getR (putL L ⟨cutB key, cutB val⟩) (cutB key) = (cutB val, true) := by unfold getR; rw [lk_put hLs, if_pos rfl]
  have g2 : getR (dropL L (cutB key)) (cutB key) = (⟨#[]⟩, false) := by unfold getR; rw [lk_drop hLs, if_pos rfl]
  have q1 : ∀ o, ¬ cutB key = o → getR (putL L ⟨cutB key, cutB val⟩) o = getR L o := fun o e2 => by unfold getR; rw [lk_put hLs, if_neg e2]
  have q2 : ∀ o, ¬ cutB key = o → getR (dropL L (cutB key)) o = getR L o := fun o e2 => by unfold getR; rw [lk_drop hLs, if_neg e2]
  have a1 := fun k (h : 40 < k) => Put_tells hf (by omega) (a := cutB key) (b := cutB val) (by omega) (k := k) h
  have a2 := fun k (h : 40 < k) => Drop_tells hf (by omega) (key := cutB key) (by omega) (k := k) h
  have a3 := fun k (h : 41 < k) => get_tells hP (by omega) (key := cutB key) (by omega) (k := k) h
  have a4 := fun k (h : 40 < k) => get_tells hD (by omega) (key := cutB key) (by omega) (k := k) h
  have a5 := fun k (h : 40 < k) => get_tells hf (by omega) (key := cutB other) (by omega) (k := k) h
  have a6 := fun k (h : 41 < k) => get_tells hP (by omega) (key := cutB other) (by omega) (k := k) h
  have a7 := fun k (h : 40 < k) => get_tells hD (by omega) (key := cutB other) (by omega) (k := k) h
  have b1 := fun k (h : 41 < k) => is_tells hP (by omega) (k := k) h
  have b2 := fun k (h : 40 < k) => is_tells hD (by omega) (k := k) h
  rw [oP] at a3 a6
  rw [oD] at a4 a7
  rw [← hL] at a1 a2 a5
  rw [(srt_iff _).2 hPs] at b1
  rw [(srt_iff _).2 hDs] at b2
  rw [g1] at a3
  rw [g2] at a4
  generalize putL L ⟨cutB key, cutB val⟩ = P at *
  generalize dropL L (cutB key) = D at *
  unfold boscagelaw07_PairKeeps.f
  rw [works_tells (by omega), Option.bind_some, if_pos rfl, few_tells l (by omega), Option.bind_some, cut_tells, Option.bind_some, cut_tells, Option.bind_some, cut_tells, Option.bind_some]
  rw [a1 _ (by omega), Option.bind_some, a2 _ (by omega), Option.bind_some, a3 _ (by omega), Option.bind_some, a4 _ (by omega), Option.bind_some]
  rw [if_pos (show ((cutB val, true) : ByteArray × Bool).2 = true from rfl), if_pos (show ((cutB val, true) : ByteArray × Bool).1.toList = (cutB val).toList from rfl), if_neg (show ¬ (((⟨#[]⟩ : ByteArray), false) : ByteArray × Bool).2 = true by simp)]
  rw [b1 _ (by omega), Option.bind_some, if_pos rfl, b2 _ (by omega), Option.bind_some]
  simp only [boscagelaw07_PairKeeps.j0]
  rw [if_neg (by simp), a5 _ (by omega), Option.bind_some, a6 _ (by omega), Option.bind_some, a7 _ (by omega), Option.bind_some]
  by_cases e : (cutB other).toList = (cutB key).toList
  · rw [if_pos e]
  · rw [if_neg e]
    have e2 : ¬ cutB key = cutB other := fun h => e (by rw [h])
    rw [q1 _ e2, q2 _ e2, if_pos rfl, if_pos rfl, if_pos (by simp)]
    simp
theorem PairKeeps (l : List S56) (key val other : ByteArray) : boscagelaw07_PairKeeps.f 200 l key val other = some true := keeps_all l key val other 199 (by omega)
end Go.Proofs.Ytipdhjdlfdbkiaa.PurePairKeeps
