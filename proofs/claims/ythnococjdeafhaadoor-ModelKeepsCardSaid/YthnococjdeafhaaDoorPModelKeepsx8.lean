-- printed by a program of the session (wip/hyb/mkprint.py)
import Derived.Test.YthnococjdeafhaaDoorPModelKeepsx0
import Derived.Test.YthnococjdeafhaaDoorPModelKeepsx7
namespace Go.Proofs.YthnococjdeafhaaDoor.PModelKeeps
open Go.RowKit Go.Proofs.YthnococjdeafhaaDoorW.PrintWords Go.Proofs.YthnococjdeafhaaDoorW.PrintLast Go.Proofs.YthnococjdeafhaaDoorW.PrintMore
attribute [local go_sem] max2_int min2_int max_two min_two max_three min_three max_four min_four   -- for this text's walks alone
set_option linter.unusedVariables false
set_option linter.unusedSimpArgs false

/-! ### pair_place: function 57 -/
-- FULL boscage/pair.place
-- NEEDS boscage/order.Compare
-- KIND rounds=0 making=1
theorem ret_ib {a b : Int} {x y : Bool} (h : a = b) (k : x = y) : Ending.returned (.tuple #[.int .i64 a, .bool x]) = .returned (.tuple #[.int .i64 b, .bool y]) := by rw [h, k]
/-- The closure that place hands to the search. -/
theorem place_closure (a b key : ByteArray) (r : Int) (w : World) (h : order_Compare.f a key = some r) :
    Calls Tryd.prog 82 #[.agg #[.string a, .string b], .string key] w fun e w' => e = .returned (.int .i64 r) ∧ Below w.heap.size w w' := by
  have H := zX h
  clear h
  go_enter Tryd.func82, Tryd.ntmps82
  go_wp2_with (go_at_call 44; refine (order_Compare.calls a key r _ H.out).mono ?_; rintro e w1 ⟨rfl, hb⟩; have HB := zX hb; clear hb)
  go_ret
  refine ⟨rfl, ?_⟩
  have h1 := HB.out
  exact ((zi w.heap.size w).alloc (Nat.le_refl _) _).trans (h1.mono (by simp))
theorem low_iff (key : ByteArray) : ∀ (l : List S65), srt l = true → ∀ (i : Nat) (p : S65), l[i]? = some p → (cmpS p.f0 key < 0 ↔ i < low l key)
  | [], _, i, p, h => by simp at h
  | q :: l, hs, i, p, h => by
    have hs2 : srt l = true := by
      cases l with
      | nil => rfl
      | cons a l => simp only [srt, Bool.and_eq_true] at hs ⊢; exact hs.2
    have ih := low_iff key l hs2
    unfold low
    rw [List.takeWhile_cons]
    by_cases hq : cmpS q.f0 key < 0
    · rw [if_pos (by simpa using hq)]
      cases i with
      | zero => simp at h; subst h; simp [hq]
      | succ i =>
        have := ih i p (by simpa using h)
        unfold low at this
        simp; exact this
    · rw [if_neg (by simpa using hq)]
      simp
      -- all behind q are not ahead either
      have hall : ∀ (l : List S65) (q : S65), srt (q :: l) = true → ¬ cmpS q.f0 key < 0 → ∀ (i : Nat) (p : S65), (q :: l)[i]? = some p → ¬ cmpS p.f0 key < 0 := by
        intro l
        induction l with
        | nil =>
          intro q _ hq i p h
          cases i with
          | zero => simp at h; subst h; exact hq
          | succ i => simp at h
        | cons a l ihl =>
          intro q hs hq i p h
          cases i with
          | zero => simp at h; subst h; exact hq
          | succ i =>
            simp only [srt, Bool.and_eq_true, decide_eq_true_eq] at hs
            refine ihl a (by simp only [srt, Bool.and_eq_true, decide_eq_true_eq]; exact hs.2) ?_ i p (by simpa using h)
            intro ha
            exact hq (cmpS_trans hs.1 ha)
      have := hall l q hs hq i p h
      omega
theorem low_le (l : List S65) (key : ByteArray) : low l key ≤ l.length := (List.takeWhile_sublist _).length_le
set_option maxHeartbeats 4000000 in
set_option maxRecDepth 100000 in
theorem search_calls (A0 : Option Addr) (c0 : Nat) (l0 : List S65) (key : ByteArray) (w : World) (hr0 : Kd.C k65 w A0 l0.length l0) (hc0 : l0.length ≤ c0) (hs : srt l0 = true) (hf : fit l0 = true) (hk : key.size ≤ 1099511627776) (F : Value) (hF : F = Value.func (.func 82) #[] #[]) :
    Calls Tryd.prog 81 #[.slice A0 l0.length c0, .string key, F] w fun e w' => e = .returned (.tuple #[.int .i64 (low l0 key), .bool (isAt l0 key)]) ∧ Below w.heap.size w w' := by
  have HR0 := zX hr0
  have HC0 := zX hc0
  have hlen : l0.length ≤ 1099511627776 := by simp only [fit, Bool.and_eq_true, decide_eq_true_eq] at hf; exact hf.1
  have hkeys : ∀ (i : Nat) (p : S65), l0[i]? = some p → order_Compare.f p.f0 key = some (cmpS p.f0 key) := by
    intro i p hp
    simp only [fit, Bool.and_eq_true, decide_eq_true_eq, List.all_eq_true] at hf
    unfold order_Compare.f
    rw [if_pos ⟨hf.2 p (List.mem_of_getElem? hp), hk⟩]
  have HK := Lib.hid hkeys
  have HS := Lib.hid (low_iff key l0 hs)
  have hll := low_le l0 key
  clear hr0 hc0 hkeys hs hf hk
  subst hF
  go_enter Tryd.func81, Tryd.ntmps81
  go_wp2
  go_loopw [9, 10, 11] (fun si sj _ wr => ∃ i j : Nat, i ≤ low l0 key ∧ low l0 key ≤ j ∧ j ≤ l0.length ∧ si = .int .i64 i ∧ sj = .int .i64 j ∧ Aside0 (Below w.heap.size w wr)) (fun si sj _ _ => (intOf sj).toNat - (intOf si).toNat)
  case atStart => exact ⟨0, l0.length, by omega, hll, by omega, rfl, rfl, ⟨zi _ _⟩⟩
  case round =>
    obtain ⟨i, j, hi, hj, hjn, rfl, rfl, HB⟩ := hrel
    by_cases hij : i < j
    · obtain ⟨h, hh⟩ : ∃ h : Nat, h = (i + j) / 2 := ⟨_, rfl⟩
      have hhe : ((i : Int) + (j : Int)) / 2 = (h : Int) := by omega
      have hh1 : i ≤ h := by omega
      have hh2 : h < j := by omega
      clear hh
      obtain ⟨p, hp⟩ : ∃ p, l0[h]? = some p := ⟨l0[h], List.getElem?_eq_getElem (by omega)⟩
      obtain ⟨ad, e, hx0, hx1⟩ := at_T65 (zZ HR0.out HB.out) (h : Int) (by omega) (by omega)
      have hrd : rd_T65 l0 (h : Int) = p := by unfold rd_T65; rw [Int.toNat_natCast, List.getD_eq_getElem?_getD, hp]; rfl
      rw [hrd] at hx0 hx1
      simp only [Int.toNat_natCast] at hx0 hx1
      cases e
      have hcl := fun (W : World) => place_closure p.f0 p.f1 key _ W (HK.out h p hp)
      obtain ⟨c, hc⟩ : ∃ c, c = cmpS p.f0 key := ⟨_, rfl⟩
      have hct := HS.out h p hp
      rw [← hc] at hct hcl
      have HCL := Lib.hid hcl
      have HP := Lib.hid hp
      have HCC := Lib.hid hc
      clear hrd hcl hp hc
      by_cases hlt : c < 0
      · have hl : h < low l0 key := hct.1 hlt
        have hltb : decide (c < 0) = true := zW hlt
        clear hct
        go_wp2_with (go_at_call 82; refine (HCL.out _).mono ?_; rintro e w1 ⟨rfl, hb⟩; have HB1 := zX hb; clear hb)
        go_roundw
        case rel => exact ⟨h + 1, j, by omega, by omega, hjn, by go_num, rfl, ⟨HB.out.trans (HB1.out.mono HB.out.size)⟩⟩
        case measure => simp [intOf]; omega
      · have hl : ¬ h < low l0 key := fun hh => hlt (hct.2 hh)
        have hltb : decide (c < 0) = false := decide_eq_false hlt
        clear hct
        go_wp2_with (go_at_call 82; refine (HCL.out _).mono ?_; rintro e w1 ⟨rfl, hb⟩; have HB1 := zX hb; clear hb)
        go_roundw
        case rel => exact ⟨i, h, hi, by omega, by omega, rfl, rfl, ⟨HB.out.trans (HB1.out.mono HB.out.size)⟩⟩
        case measure => simp [intOf]; omega
    · have hie : i = low l0 key := by omega
      by_cases hin : i < l0.length
      · have hie2 := Lib.hid hie
        obtain ⟨p, hp⟩ : ∃ p, l0[i]? = some p := ⟨l0[i], List.getElem?_eq_getElem (by omega)⟩
        obtain ⟨ad, e, hx0, hx1⟩ := at_T65 (zZ HR0.out HB.out) (i : Int) (by omega) (by omega)
        have hrd : rd_T65 l0 (i : Int) = p := by unfold rd_T65; rw [Int.toNat_natCast, List.getD_eq_getElem?_getD, hp]; rfl
        rw [hrd] at hx0 hx1
        simp only [Int.toNat_natCast] at hx0 hx1
        cases e
        have hcl := fun (W : World) => place_closure p.f0 p.f1 key _ W (HK.out i p hp)
        obtain ⟨c, hc⟩ : ∃ c, c = cmpS p.f0 key := ⟨_, rfl⟩
        have hct := HS.out i p hp
        rw [← hc] at hct hcl
        have HCL := Lib.hid hcl
        have HP := Lib.hid hp
        have HCC := Lib.hid hc
        clear hrd hcl hp hc
        have HAT := Lib.hid (show isAt l0 key = (c == 0) by
          unfold isAt
          rw [← hie2.out, HP.out]
          show decide (cmpS p.f0 key = 0) = (c == 0)
          rw [← HCC.out]
          rfl)
        have hie3 := hie2.out
        clear hct hie
        clear hie3
        go_wp2_with ((go_at_call 82; refine (HCL.out _).mono ?_; rintro e w1 ⟨rfl, hb⟩; have HB1 := zX hb; clear hb))
        go_ret2
        exact ⟨ret_ib (by rw [← hie2.out]) (by rw [HAT.out]), HB.out.trans (HB1.out.mono HB.out.size)⟩
      · have HAT := Lib.hid (show isAt l0 key = false by
          unfold isAt
          rw [← hie, List.getElem?_eq_none (by omega)])
        have HI := Lib.hid hie
        clear hie
        go_wp2
        go_ret2
        exact ⟨ret_ib (by rw [← HI.out]) (by rw [HAT.out]), HB.out⟩
def pair_place.f (l0 : List S65) (a1 : ByteArray) : Option (Int × Bool) := if (srt l0 && fit l0 && decide (a1.size ≤ 1099511627776)) = true then some ((low l0 a1 : Int), isAt l0 a1) else none
set_option maxHeartbeats 4000000 in
theorem pair_place.calls (A0 : Option Addr) (c0 : Nat) (l0 : List S65) (a1 : ByteArray) (r1 : Int) (r2 : Bool) (w : World) (hr0 : Kd.C k65 w A0 l0.length l0) (hc0 : l0.length ≤ c0) (h : pair_place.f l0 a1 = some (r1, r2)) :
    Calls Tryd.prog 57 #[.slice A0 l0.length c0, .string a1] w fun e w' => e = .returned (.tuple #[.int .i64 r1, .bool r2]) ∧ Below w.heap.size w w' := by
  unfold pair_place.f at h
  split at h
  · rename_i hs
    simp only [Bool.and_eq_true, decide_eq_true_eq] at hs
    obtain ⟨rfl, rfl⟩ : (low l0 a1 : Int) = r1 ∧ isAt l0 a1 = r2 := by simpa using h
    clear h
    have HR0 := zX hr0
    have HC0 := zX hc0
    have HS := Lib.hid hs
    clear hr0 hc0 hs
    go_enter Tryd.func57, Tryd.ntmps57
    go_wp2_with (go_at_call 81; refine (search_calls A0 c0 l0 a1 _ HR0.out HC0.out HS.out.1.1 HS.out.1.2 HS.out.2 _ rfl).mono ?_; rintro e w1 ⟨rfl, hb⟩; have HB1 := zX hb; clear hb)
    go_ret2
    exact ⟨rfl, HB1.out⟩
  · cases h

/-! ### cl_Pair: function 69 -/
-- FULL slices.Clone[[]boscage/api.Pair,boscage/api.Pair]
-- KIND rounds=0 making=1
def cl_Pair.f (l0 : List S65) : Option (List S65) := if l0.length < 4398046511104 then some l0 else none
set_option maxHeartbeats 8000000 in
set_option maxRecDepth 100000 in
theorem cl_Pair.calls (A0 : Option Addr) (c0 : Nat) (l0 : List S65) (r : List S65) (w : World) (hr0 : Kd.C k65 w A0 l0.length l0) (hc0 : l0.length ≤ c0) (h : cl_Pair.f l0 = some r) :
    Calls Tryd.prog 69 #[.slice A0 l0.length c0] w fun e w' => ∃ v0_ : Value, e = .returned (v0_) ∧ Kd.R k65 65 w' w.heap.size (fun _ => True) v0_ r ∧ Below w.heap.size w w' := by
  have hlt : l0.length < 4398046511104 := by
    unfold cl_Pair.f at h
    split at h
    · assumption
    · cases h
  obtain rfl : l0 = r := by
    unfold cl_Pair.f at h
    rw [if_pos hlt] at h
    exact zQ h
  clear h
  have hnl := fun (w : World) (a : Option Addr) (n c n' c' : Nat) => Lib.run_eql_slice_nil (P := Tryd.prog) w 24 65 a n c n' c' Tryd.underlying24
  have HB := zX (zi w.heap.size w)
  cases A0 with
  | none =>
    obtain rfl : l0 = [] := by
      rcases Nat.eq_zero_or_pos l0.length with h0 | h0
      · exact List.eq_nil_of_length_eq_zero h0
      · obtain ⟨ad, hx, _⟩ := hr0.2.2 h0
        cases hx
    clear hr0 hlt
    obtain rfl | hc1 : c0 = 0 ∨ 0 < c0 := by omega
    all_goals
      go_enter Tryd.func69, Tryd.ntmps69
      go_wp2
      go_ret
      exact ⟨_, rfl, Kd.R_nil _ _ _ _ _, HB.out⟩
  | some ad =>
    have HR0 := zX hr0
    have HC0 := zX hc0
    have HL := zX hlt
    clear hr0 hc0 hlt
    obtain ⟨y101, hy101⟩ : ∃ y_ : List S65, y_ = [] := ⟨_, rfl⟩
    have Ny101 := zX hy101
    clear hy101
    go_enter Tryd.func69, Tryd.ntmps69
    go_wp2_with (first | ((with_reducible refine gate_dst (N := 5) rfl ?_); refine Kd.R_lit k65 _ 65 ?hg (N := 5) ?hd (xs := ([] : List S65)) (inner := []) (ok := fun _ => True) (okp := fun _ => True) ?hr ?hp (fun _ hk => hk) trivial (zi _ _) (Nat.le_refl _) (by simp) ?_; (case hd => rfl); (case hg => rfl); (case hr => first | (go_simp; done) | (go_simp; rfl)); (case hp => exact (Reps.none _ _)); intro v102 w3 ho4 hb hg_ hnew_; clear hg_ hnew_; rw [← Ny101.out] at ho4; have n0_ := zX (Kd.R_lower ho4 (zY (by repeat (first | (with_reducible first | exact HB.out | apply zF | apply zE | apply zG) | exact HB.out)))); have n1_ := zX (zT (by repeat (first | (with_reducible first | exact HB.out | apply zF | apply zE | apply zG) | exact HB.out)) hb); clear HB; have HO103 := n0_; have HB := n1_; clear n0_ n1_; clear hb ho4) | ((with_reducible refine gate_builtin (b := .append) (xs := #[.tmp 5, .tmp 6]) rfl ?_); at_builtin; refine Kd.R_append_rows k65 (w0 := w) w.heap.size rfl (.tmp 5) (.tmp 6) 24 65 (.agg #[(.string ⟨#[]⟩), (.string ⟨#[]⟩)]) 32 rfl Tryd.underlying24 info65 rfl (by decide) (by omega) v102 y101 l0 _ _ _ (fun _ => True) (fun _ => False) rfl rfl ?aO ?aR (fun _ _ h => h) (fun _ h => h.elim) ?aF ?aB ?aS ?aL ?_; (case aR => repeat (first | exact (zZ HR0.out HB.out) | (with_reducible refine Kd.C_alloc ?_ _) | (with_reducible refine Kd.C_drewN ?_ _) | (with_reducible refine Kd.C_drew ?_))); (case aB => exact (by repeat (first | (with_reducible first | exact HB.out | apply zF | apply zE | apply zG) | exact HB.out))); (case aF => exact (fun _ _ => trivial)); (case aO => exact (by (with_reducible repeat (first | apply za | apply zg | apply zh)); exact HO103.out)); (case aS => exact (zY (by repeat (first | (with_reducible first | exact HB.out | apply zF | apply zE | apply zG) | exact HB.out)))); (case aL => have := HL.out; have := congrArg List.length Ny101.out; simp only [List.length_nil] at this; omega); intro v105 w5 ho hb hg hat; rw [Ny101.out, List.nil_append] at ho; have n0_ := zX (hb); have n1_ := zX (ho); clear HB; clear HO103; have HB := n0_; have HO106 := n1_; clear n0_ n1_; clear ho hb hg hat))
    go_ret
    exact ⟨_, by first | rfl | (simp; done), by (with_reducible repeat (first | apply za | apply zg | apply zh)); exact HO106.out, by repeat (first | (with_reducible first | exact HB.out | apply zF | apply zE | apply zG) | exact HB.out)⟩

/-! ### in_Pair: function 84 -/
-- FULL slices.Insert[[]boscage/api.Pair,boscage/api.Pair]
-- KIND rounds=0 making=1
set_option maxHeartbeats 8000000 in
set_option maxRecDepth 100000 in
theorem in_Pair_end (v0 : Value) (n vb : Nat) (xs c : List Value) (base : Nat) (w : World) (hown : w.ownsRow base 65 2 v0 n xs) (hb : base ≤ w.heap.size) (hlen : n + 1 ≤ 1099511627776)
    (hc : c.length = 2) (h1 : ∀ u ∈ c, u.oneCell' = true) (hvb : w.heap[vb]? = some (.cells c.toArray 65 (0, 0))) :
    Calls Tryd.prog 84 #[v0, .int .i64 (n : Int), .slice (some ⟨vb, 0, none⟩) 1 1] w fun e w' => ∃ v', e = .returned v' ∧ w'.ownsRow base 65 2 v' (n + 1) (xs ++ c) ∧ w.grownBy w' v0.ownBlock ∧ (v'.ownBlock = v0.ownBlock ∨ v'.ownBlock = some w.heap.size) := by
  obtain ⟨i0, hi, hz0, hz1, hz2⟩ := info_parts info65
  have HI := Lib.hid hi
  have HZ0 := Lib.hid hz0
  have HZ1 := Lib.hid hz1
  have HZ2 := Lib.hid hz2
  have HO := Lib.hid hown
  have HV := Lib.hid hvb
  have H1 := Lib.hid h1
  have HC := Lib.hid hc
  clear hi hz0 hz1 hz2 hvb h1 hc
  obtain ⟨a, cap, hv0⟩ : ∃ a cap, v0 = .slice a n cap := by
    rcases own_cases hown with ⟨h, h', _⟩ | ⟨g, cap, cur, h, _⟩
    · exact ⟨_, _, by rw [h, h']⟩
    · exact ⟨_, _, h⟩
  have hcap : n ≤ cap ∧ cap ≤ maxLen := by
    rcases own_cases hown with ⟨h, h', _⟩ | ⟨g, cap', cur, h, _, _, h2, h3, _⟩
    · rw [hv0] at h; injection h with _ _ h; omega
    · rw [hv0] at h; injection h with _ _ h; omega
  clear hown
  unfold maxLen at hcap
  subst hv0
  obtain rfl | hcn : cap = n ∨ ¬ (cap = n) := by omega
  all_goals
   go_enter Tryd.func84, Tryd.ntmps84
   go_wp2_with (at_builtin; refine wpList_append_own_at _ rfl (.tmp 23) (.tmp 24) 24 rfl base 65 i0 (.agg #[(.string ⟨#[]⟩), (.string ⟨#[]⟩)]) 2 32 Tryd.underlying24 HI.out HZ0.out HZ1.out HZ2.out rfl (by decide) (.slice a _ _) _ _ rfl HO.out ⟨vb, 0, none⟩ 1 1 c rfl HC.out ?cN H1.out ?cL ?cB hb ?_; (case cN => (intro j u hj; rw [Addr.add_lit, Nat.zero_add, cell_row HV.out]; simpa using hj)); (case cL => (unfold maxLen; omega)); (case cB => omega); intro v4 w4 hown4 hgrow4 hnil4 hat4; have Q1 := Lib.hid hown4; have Q2 := Lib.hid hgrow4; have Q3 := Lib.hid hat4; clear hown4 hgrow4 hnil4 hat4)
   go_ret
   exact ⟨_, rfl, Q1.out, Q2.out, Q3.out⟩
set_option maxHeartbeats 8000000 in
set_option maxRecDepth 100000 in
theorem in_Pair_shift (g cap n i vb : Nat) (xs c : List Value) (cur : Array Value) (base : Nat) (w : World) (hg : w.heap[g]? = some (.cells cur 65 (0, 0))) (hbg : base ≤ g) (hcap : cap ≤ maxLen) (hsz : cur.size = cap * 2) (hxs : cur.toList.take (n * 2) = xs) (hi : i < n) (hroom : n + 1 ≤ cap)
    (hc : c.length = 2) (h1 : ∀ u ∈ c, u.oneCell' = true) (h1x : ∀ u ∈ xs, u.oneCell' = true) (hvb : w.heap[vb]? = some (.cells c.toArray 65 (0, 0))) (hne : vb ≠ g) :
    Calls Tryd.prog 84 #[.slice (some ⟨g, 0, none⟩) n cap, .int .i64 (i : Int), .slice (some ⟨vb, 0, none⟩) 1 1] w fun e w' => ∃ v', e = .returned v' ∧ w'.ownsRow base 65 2 v' (n + 1) (xs.take (i * 2) ++ c ++ xs.drop (i * 2)) ∧ w.grownBy w' (some g) ∧ (v'.ownBlock = some g) := by
  obtain ⟨i0, hi0, hz0, hz1, hz2⟩ := info_parts info65
  have hsize : ∀ w : World, (Go.sizeOf 65).run Tryd.prog w = .ok 2 w := fun w => by simp [sizeOf, typeInfo, hi0, hz1]
  have hsz2 : (Tryd.prog.info? 65).map (·.size) = some 2 := by rw [hi0]; simp [hz1]
  have hxl : xs.length = n * 2 := by rw [← hxs, zN, Array.length_toList, hsz]; omega
  have hov : ∀ lb cb, (callFunc 92 #[.slice (some ⟨vb, 0, none⟩) 1 1, .slice (some ⟨g, (i + 1) * 2, none⟩) lb cb]).run Tryd.prog w = .ok (.value (.bool false)) w := fun lb cb => by
    rw [run_callFunc_extern Tryd.func92 (by kernel_rfl) (by kernel_rfl) (by kernel_rfl) (e := Extern.SlicesOverlaps.overlaps #[24, 24] #[4]) (by kernel_rfl),
      Lib.run_overlaps_apart w 24 4 65 Tryd.underlying24 2 hsize ⟨vb, 0, none⟩ ⟨g, (i + 1) * 2, none⟩ 1 1 lb cb hne 65 65 c.length cur.size (by simp [World.shape?, hvb]) (by simp [World.shape?, hg]) (by omega) (by simp [World.frozen?, hvb]) (by simp [World.frozen?, hvb])]
    rfl
  have h1d : ∀ u ∈ xs.drop (i * 2), u.oneCell' = true := fun u hu => h1x u (List.mem_of_mem_drop hu)
  obtain ⟨cur1, hcur1⟩ : ∃ cur1 : List Value, cur1 = cur.toList.take ((i + 1) * 2) ++ xs.drop (i * 2) ++ cur.toList.drop ((i + 1) * 2 + (xs.drop (i * 2)).length) := ⟨_, rfl⟩
  have hl1 : cur1.length = cur.size := by
    rw [hcur1]; simp only [List.length_append, zN, zO, Array.length_toList, hxl, hsz]; omega
  have hcp1 : ∀ (W : World) ty dl dc sl sc, W.heap[g]? = w.heap[g]? → dl = n - i → sl = n + 1 - i → (Builtin.copy_ #[24, 24] ty #[.slice (some ⟨g, (i + 1) * 2, none⟩) dl dc, .slice (some ⟨g, i * 2, none⟩) sl sc]).run Tryd.prog W = .ok (goInt (Nat.min sl dl)) (W.setRow g cur1.toArray) := by
    intro W ty dl dc sl sc hW hd hs
    rw [hcur1]
    refine run_copy_rowZ W _ _ ty 65 2 g ((i + 1) * 2) dl dc ⟨g, i * 2, none⟩ sl sc cur 65 (xs.drop (i * 2)) Tryd.underlying24 hsz2 (hW.trans hg) ?_ ?_ ?_ h1d
    · rw [zO, hxl, hd, hs, show Nat.min (n + 1 - i) (n - i) = n - i from Nat.min_eq_right (by omega), Nat.sub_mul]
    · intro j v hj
      rw [Addr.add_lit, cell_row (hW.trans hg)]
      rw [List.getElem?_drop, ← hxs, List.getElem?_take] at hj
      split at hj
      · rw [← hj, Array.getElem?_toList]
      · cases hj
    · rw [zO, hxl, hsz]; omega
  obtain ⟨cur2, hcur2⟩ : ∃ cur2 : List Value, cur2 = cur1.take (i * 2) ++ c ++ cur1.drop (i * 2 + c.length) := ⟨_, rfl⟩
  have hl2 : cur2.length = cur.size := by
    rw [hcur2]; simp only [List.length_append, zN, zO, hl1, hc, hsz]; omega
  have hcp2 : ∀ (W : World) ty dl dc, W.heap[g]? = some (.cells cur1.toArray 65 (0, 0)) → W.heap[vb]? = w.heap[vb]? → dl = n + 1 - i → (Builtin.copy_ #[24, 24] ty #[.slice (some ⟨g, i * 2, none⟩) dl dc, .slice (some ⟨vb, 0, none⟩) 1 1]).run Tryd.prog W = .ok (goInt (Nat.min 1 dl)) (W.setRow g cur2.toArray) := by
    intro W ty dl dc hW hWv hd
    rw [hcur2]
    have := run_copy_rowZ (P := Tryd.prog) W 24 24 ty 65 2 g (i * 2) dl dc ⟨vb, 0, none⟩ 1 1 cur1.toArray 65 c Tryd.underlying24 hsz2 hW (by rw [hc, hd, show Nat.min 1 (n + 1 - i) = 1 from Nat.min_eq_left (by omega)]) (fun j v hj => by
      rw [Addr.add_lit, cell_row (hWv.trans hvb), Nat.zero_add]; simpa using hj) (by simp only [List.size_toArray, hl1, hc, hsz]; omega) h1
    simpa using this
  have hfin : cur2.take ((n + 1) * 2) = xs.take (i * 2) ++ c ++ xs.drop (i * 2) := by
    rw [hcur2, hcur1]
    exact splice_list cur.toList xs c i n 2 (by omega) hi (by rw [Array.length_toList, hsz]; omega) hxs hc
  have HCP1 := Lib.hid hcp1
  have HCP2 := Lib.hid hcp2
  have HF := Lib.hid hfin
  have HL2 := Lib.hid hl2
  clear hcp1 hcp2 hfin hcur1 hcur2 hl1 hl2 h1d hsz2
  have HG := Lib.hid hg
  have HX := Lib.hid hxs
  have HV := Lib.hid hvb
  have H1 := Lib.hid h1
  have H1X := Lib.hid h1x
  have HC := Lib.hid hc
  have HN := Lib.hid hne
  have HXL := Lib.hid hxl
  have HS := Lib.hid hsz
  clear hi0 hz0 hz1 hz2 hsize hg hxs hvb h1 h1x hc hne hxl hsz
  unfold maxLen at hcap
  have b1 : ((i : Int) == (n : Int)) = false := by rw [beq_eq_false_iff_ne]; omega
  have b2 : ¬ (cap = i) := by omega
  have b3 : ¬ (cap = i + 1) := by omega
  go_enter Tryd.func84, Tryd.ntmps84
  go_wp2_with (simp only [hov])
  have w1 : IntKind.i64.wrap ((i : Int) + 1) = (i : Int) + 1 := by rw [IntKind.wrap_i64]; omega
  have w2 : (0 : Int) ≤ (i : Int) + 1 := by omega
  have w3 : ((i : Int) + 1).toNat = i + 1 := by omega
  have w4 : (i : Int) ≤ (n : Int) := by omega
  have w5 : (i : Int) ≤ (n : Int) + 1 := by omega
  go_region_law (refine step_copy_runZ rfl (.tmp 73) (.tmp 76) 24 24 rfl (.slice (some ⟨g, (i + 1) * 2, none⟩) (n - i) (cap - (i + 1))) (.slice (some ⟨g, i * 2, none⟩) (n + 1 - i) (cap - i)) (by simp [Act.eval, Act.put]) (by simp [Act.eval, Act.put]) (HCP1.out w.drew _ _ _ _ _ rfl rfl rfl) ?_)
  have HG1 := Lib.hid (setRow_heap w.drew g cur cur1.toArray 65 (0, 0) HG.out)
  have HV1 := Lib.hid (setRow_other w.drew g vb cur1.toArray HN.out)
  obtain ⟨W1, hW1⟩ : ∃ W1, W1 = w.drew.setRow g cur1.toArray := ⟨_, rfl⟩
  rw [← hW1] at HG1 HV1 ⊢
  have HW1 := Lib.hid hW1
  clear hW1
  go_wp2_with ((with_reducible refine gate_builtin (b := .copy) (xs := #[.tmp 80, .tmp 81]) rfl ?_); refine wpList_copy_runZ W1 rfl (.tmp 80) (.tmp 81) 24 24 rfl (.slice (some ⟨g, i * 2, none⟩) (n + 1 - i) (cap - i)) (.slice (some ⟨vb, 0, none⟩) 1 1) rfl rfl (HCP2.out _ _ _ _ HG1.out HV1.out rfl) ?_)
  go_ret
  refine ⟨_, rfl, ⟨?_, .inr ⟨g, cap, cur2.toArray, rfl, hbg, setRow_heap _ g _ _ _ _ HG1.out, hroom, by unfold maxLen; omega, by rw [List.size_toArray, HL2.out, HS.out], by rw [List.toList_toArray, HF.out]⟩⟩, ?_, rfl⟩
  · simp only [List.length_append, zN, zO, HXL.out, HC.out]; omega
  · rw [HW1.out]
    exact grown_trans (grown_trans (grown_drewN 1 _) (grown_setRow _)) (grown_setRow _)
set_option maxHeartbeats 8000000 in
set_option maxRecDepth 100000 in
theorem in_Pair_grow (g cap n i vb : Nat) (xs c : List Value) (cur : Array Value) (base : Nat) (w : World) (hg : w.heap[g]? = some (.cells cur 65 (0, 0))) (hb : base ≤ w.heap.size) (hcap : cap ≤ maxLen) (hnc : n ≤ cap) (hsz : cur.size = cap * 2) (hxs : cur.toList.take (n * 2) = xs) (hi : i < n) (hroom : ¬ n + 1 ≤ cap) (hlen : n + 1 ≤ 1099511627776)
    (hc : c.length = 2) (h1 : ∀ u ∈ c, u.oneCell' = true) (h1x : ∀ u ∈ xs, u.oneCell' = true) (hvb : w.heap[vb]? = some (.cells c.toArray 65 (0, 0))) :
    Calls Tryd.prog 84 #[.slice (some ⟨g, 0, none⟩) n cap, .int .i64 (i : Int), .slice (some ⟨vb, 0, none⟩) 1 1] w fun e w' => ∃ v', e = .returned v' ∧ w'.ownsRow base 65 2 v' (n + 1) (xs.take (i * 2) ++ c ++ xs.drop (i * 2)) ∧ w.grownBy w' (some g) ∧ (v'.ownBlock = some w.heap.size) := by
  obtain rfl : n = cap := by omega
  obtain ⟨i0, hi0, hz0, hz1, hz2⟩ := info_parts info65
  have hsz2 : (Tryd.prog.info? 65).map (·.size) = some 2 := by rw [hi0]; simp [hz1]
  have hxl : xs.length = n * 2 := by rw [← hxs, zN, Array.length_toList, hsz]; omega
  have hgl : g < w.heap.size := by
    rcases Nat.lt_or_ge g w.heap.size with h' | h'
    · exact h'
    · simp [Array.getElem?_eq_none h'] at hg
  have hvl : vb < w.heap.size := by
    rcases Nat.lt_or_ge vb w.heap.size with h' | h'
    · exact h'
    · simp [Array.getElem?_eq_none h'] at hvb
  obtain ⟨k, hk⟩ : ∃ k : Nat, k = n + 1 - i := ⟨_, rfl⟩
  obtain ⟨G, hG⟩ : ∃ G, G = grownCap w (n + 1) n 65 := ⟨_, rfl⟩
  have hGn : n + 1 ≤ G := by rw [hG]; exact grownCap_ge w _ _ _
  have hG63 : G ≤ maxLen := by rw [hG]; exact grownCap_le_maxLen w (n + 1) n _ (by unfold maxLen; omega)
  obtain ⟨row, hrow⟩ : ∃ row : List Value, row = ((xs.take (i * 2)).toArray ++ Builtin.zeroCells ((.agg #[(.string ⟨#[]⟩), (.string ⟨#[]⟩)]) : Value).cells k ++ Builtin.zeroCells ((.agg #[(.string ⟨#[]⟩), (.string ⟨#[]⟩)]) : Value).cells (G - (n + 1))).toList := ⟨_, rfl⟩
  have hzc : ∀ m, (Builtin.zeroCells ((.agg #[(.string ⟨#[]⟩), (.string ⟨#[]⟩)]) : Value).cells m).size = m * 2 := fun m => by simp [Builtin.zeroCells, Value.cells]
  have hrl : row.length = G * 2 := by
    rw [hrow, Array.length_toList, Array.size_append, Array.size_append, hzc, hzc, List.size_toArray, zN, hxl, hk]; omega
  have hrx : row.take (i * 2) = xs.take (i * 2) := by
    rw [hrow, Array.toList_append, Array.toList_append, List.append_assoc, List.take_append_of_le_length (by simp only [List.toList_toArray, zN, hxl]; omega), List.toList_toArray, List.take_take, Nat.min_self]
  have hap : ∀ ty, (Builtin.append_ #[24, 3] ty #[.slice (some ⟨g, 0, none⟩) i n, .int .i64 ((n : Int) + 1 - (i : Int))]).run Tryd.prog w = .ok (.slice (some ⟨w.heap.size, 0, none⟩) (n + 1) G) (w.drew.alloc (.cells row.toArray 65)) := by
    intro ty
    have hik : i + k = n + 1 := by omega
    have h := Lib.run_append_grow_zeros w 24 3 ty 65 i0 (.agg #[(.string ⟨#[]⟩), (.string ⟨#[]⟩)]) .i64 .i64 Tryd.underlying24 Tryd.underlying3 hi0 hz0 (some ⟨g, 0, none⟩) i n (xs.take (i * 2))
      (by rw [hz1]; exact cells_loaded (W := w.drew) (cap := n) hg (by rw [← hxs, List.take_take]; congr 1; omega) (by rw [zN, hxl]; omega))
      k (by omega) (by omega) (by omega) (by omega) (by rw [hz2]; omega) (by rw [hz2, hik]; exact growslice_fits (by omega) (by omega))
    rw [hik, ← hG] at h
    rw [show (n : Int) + 1 - (i : Int) = (k : Int) from by omega, h, hrow, Array.toArray_toList]
  obtain ⟨cur1, hcur1⟩ : ∃ cur1 : List Value, cur1 = row.take (i * 2) ++ c ++ row.drop (i * 2 + c.length) := ⟨_, rfl⟩
  have hl1 : cur1.length = G * 2 := by rw [hcur1]; simp only [List.length_append, zN, zO, hrl, hc]; omega
  obtain ⟨cur2, hcur2⟩ : ∃ cur2 : List Value, cur2 = cur1.take ((i + 1) * 2) ++ xs.drop (i * 2) ++ cur1.drop ((i + 1) * 2 + (xs.drop (i * 2)).length) := ⟨_, rfl⟩
  have hl2 : cur2.length = G * 2 := by rw [hcur2]; simp only [List.length_append, zN, zO, hl1, hxl]; omega
  have hfin : cur2.take ((n + 1) * 2) = xs.take (i * 2) ++ c ++ xs.drop (i * 2) := by
    rw [hcur2, hcur1]
    exact splice_grow row xs c i n 2 hi (by rw [hrl]; omega) hrx hxl hc
  have h1d : ∀ u ∈ xs.drop (i * 2), u.oneCell' = true := fun u hu => h1x u (List.mem_of_mem_drop hu)
  have hcp1 : ∀ (W : World) ty dl dc, W.heap[w.heap.size]? = some (.cells row.toArray 65 (0, 0)) → W.heap[vb]? = w.heap[vb]? → dl = n + 1 - i → (Builtin.copy_ #[24, 24] ty #[.slice (some ⟨w.heap.size, i * 2, none⟩) dl dc, .slice (some ⟨vb, 0, none⟩) 1 1]).run Tryd.prog W = .ok (goInt (Nat.min 1 dl)) (W.setRow w.heap.size cur1.toArray) := by
    intro W ty dl dc hW hWv hd
    rw [hcur1]
    have := run_copy_rowZ (P := Tryd.prog) W 24 24 ty 65 2 w.heap.size (i * 2) dl dc ⟨vb, 0, none⟩ 1 1 row.toArray 65 c Tryd.underlying24 hsz2 hW (by rw [hc, hd, show Nat.min 1 (n + 1 - i) = 1 from Nat.min_eq_left (by omega)]) (fun j v hj => by
      rw [Addr.add_lit, cell_row (hWv.trans hvb), Nat.zero_add]; simpa using hj) (by simp only [List.size_toArray, hrl, hc]; omega) h1
    simpa using this
  have hcp2 : ∀ (W : World) ty dl dc sl sc, W.heap[w.heap.size]? = some (.cells cur1.toArray 65 (0, 0)) → W.heap[g]? = w.heap[g]? → dl = n - i → sl = n - i → (Builtin.copy_ #[24, 24] ty #[.slice (some ⟨w.heap.size, (i + 1) * 2, none⟩) dl dc, .slice (some ⟨g, i * 2, none⟩) sl sc]).run Tryd.prog W = .ok (goInt (Nat.min sl dl)) (W.setRow w.heap.size cur2.toArray) := by
    intro W ty dl dc sl sc hW hWg hd hs
    rw [hcur2]
    have := run_copy_rowZ (P := Tryd.prog) W 24 24 ty 65 2 w.heap.size ((i + 1) * 2) dl dc ⟨g, i * 2, none⟩ sl sc cur1.toArray 65 (xs.drop (i * 2)) Tryd.underlying24 hsz2 hW (by rw [zO, hxl, hd, hs, show Nat.min (n - i) (n - i) = n - i from Nat.min_self _, Nat.sub_mul]) (fun j v hj => by
      rw [Addr.add_lit, cell_row (hWg.trans hg)]
      rw [List.getElem?_drop, ← hxs, List.getElem?_take] at hj
      split at hj
      · rw [← hj, Array.getElem?_toList]
      · cases hj) (by simp only [List.size_toArray, hl1, zO, hxl]; omega) h1d
    simpa using this
  have HAP := Lib.hid hap
  have HCP1 := Lib.hid hcp1
  have HCP2 := Lib.hid hcp2
  have HF := Lib.hid hfin
  have HL2 := Lib.hid hl2
  have HXL := Lib.hid hxl
  have HC := Lib.hid hc
  have HGL := Lib.hid hgl
  have HVL := Lib.hid hvl
  have HG63 := Lib.hid hG63
  clear hap hcp1 hcp2 hfin hl1 hl2 hcur1 hcur2 h1d hrx hrl hzc hrow hG hk hi0 hz0 hz1 hz2 hsz2 hxl hxs hsz hg hvb h1 h1x hc hG63
  unfold maxLen at hcap
  have hG63 : G ≤ 9223372036854775807 := by have := HG63.out; unfold maxLen at this; omega
  have b1 : ((i : Int) == (n : Int)) = false := by rw [beq_eq_false_iff_ne]; omega
  have b2 : ¬ (n = i) := by omega
  have b3 : ¬ (G = i + 1) := by omega
  have b4 : ¬ (G = i) := by omega
  clear hgl hvl
  go_enter Tryd.func84, Tryd.ntmps84
  go_wp2_with (first
    | (at_builtin; go_loud (refine Lib.wpList_append_run w rfl (.tmp 34) (.tmp 39) 24 3 rfl (.slice (some ⟨g, 0, none⟩) i n) (.int .i64 ((n : Int) + 1 - (i : Int))) rfl rfl _ _ (HAP.out _) ?_); go_loud (generalize hW1 : w.drew.alloc (.cells row.toArray 65) = W1); go_loud (have HW1 := Lib.hid hW1); go_loud (clear hW1); go_loud (have q1 : W1.heap[w.heap.size]? = some (.cells row.toArray 65 (0, 0)) := by (rw [← HW1.out]; show (w.heap.push _)[w.heap.size]? = _; simp)); go_loud (have q2 : ∀ b, b < w.heap.size → W1.heap[b]? = w.heap[b]? := by (intro b hb; rw [← HW1.out]; show (w.heap.push _)[b]? = _; rw [Array.getElem?_push_lt hb, Array.getElem?_eq_getElem hb])); go_loud (have Q1 := Lib.hid q1); go_loud (have Q2 := Lib.hid q2); go_loud (clear q1 q2))
    | ((with_reducible refine gate_builtin (b := .copy) (xs := #[.tmp 43, .tmp 44]) rfl ?_); go_loud (refine wpList_copy_runZ W1 rfl (.tmp 43) (.tmp 44) 24 24 rfl (.slice (some ⟨w.heap.size, i * 2, none⟩) (n + 1 - i) (G - i)) (.slice (some ⟨vb, 0, none⟩) 1 1) rfl rfl (HCP1.out _ _ _ _ Q1.out (Q2.out vb HVL.out) rfl) ?_); go_loud (have q3 := setRow_heap W1 w.heap.size _ cur1.toArray 65 (0, 0) Q1.out); go_loud (have q4 : ∀ b, b < w.heap.size → (W1.setRow w.heap.size cur1.toArray).heap[b]? = w.heap[b]? := fun b hb => (setRow_other W1 w.heap.size b cur1.toArray (by omega)).trans (Q2.out b hb)); go_loud (generalize hW2 : W1.setRow w.heap.size cur1.toArray = W2 at q3 q4 ⊢); go_loud (have HW2 := Lib.hid hW2); go_loud (have Q3 := Lib.hid q3); go_loud (have Q4 := Lib.hid q4); go_loud (clear hW2 q3 q4)))
  have w1 : IntKind.i64.wrap ((i : Int) + 1) = (i : Int) + 1 := by rw [IntKind.wrap_i64]; omega
  have w2 : (0 : Int) ≤ (i : Int) + 1 := by omega
  have w3 : ((i : Int) + 1).toNat = i + 1 := by omega
  have w4 : (i : Int) ≤ (n : Int) := by omega
  have w5 : (i : Int) ≤ (n : Int) + 1 := by omega
  go_region_law (refine step_copy_runZ rfl (.tmp 50) (.tmp 53) 24 24 rfl (.slice (some ⟨w.heap.size, (i + 1) * 2, none⟩) (n - i) (G - (i + 1))) (.slice (some ⟨g, i * 2, none⟩) (n - i) (n - i)) (by simp [Act.eval, Act.put]) (by simp [Act.eval, Act.put]) (HCP2.out W2.drew _ _ _ _ _ Q3.out (Q4.out g HGL.out) rfl rfl) ?_)
  have hgn := setRow_heap W2.drew w.heap.size _ cur2.toArray 65 (0, 0) Q3.out
  have hgo : ∀ b, b < w.heap.size → (W2.drew.setRow w.heap.size cur2.toArray).heap[b]? = w.heap[b]? := fun b hb => (setRow_other W2.drew w.heap.size b cur2.toArray (by omega)).trans (Q4.out b hb)
  have hpl : (W2.drew.setRow w.heap.size cur2.toArray).os = w.os ∧ (W2.drew.setRow w.heap.size cur2.toArray).tape = w.tape ∧ (W2.drew.setRow w.heap.size cur2.toArray).output = w.output ∧ w.heap.size ≤ (W2.drew.setRow w.heap.size cur2.toArray).heap.size := by
    rw [← HW2.out, ← HW1.out]
    refine ⟨rfl, rfl, rfl, ?_⟩
    simp [World.setRow]
  generalize hW3 : W2.drew.setRow w.heap.size cur2.toArray = W3 at hgn hgo hpl ⊢
  have R1 := Lib.hid hgn
  have R2 := Lib.hid hgo
  have R3 := Lib.hid hpl
  clear hW3 hgn hgo hpl
  go_wp2
  go_ret
  exact ⟨_, rfl, ⟨by simp only [List.length_append, zN, zO, HXL.out, HC.out]; omega, .inr ⟨w.heap.size, G, cur2.toArray, rfl, hb, R1.out, hGn, HG63.out, by rw [List.size_toArray, HL2.out], by rw [List.toList_toArray, HF.out]⟩⟩, ⟨R3.out.1, R3.out.2.1, R3.out.2.2.1, R3.out.2.2.2, fun b hb _ => R2.out b hb⟩, rfl⟩
theorem in_Pair_any (v0 : Value) (n i vb : Nat) (xs c : List Value) (base : Nat) (w : World) (hown : w.ownsRow base 65 2 v0 n xs) (hb : base ≤ w.heap.size) (hi : i ≤ n) (hlen : n + 1 ≤ 1099511627776)
    (hc : c.length = 2) (h1 : ∀ u ∈ c, u.oneCell' = true) (h1x : ∀ u ∈ xs, u.oneCell' = true) (hvb : w.heap[vb]? = some (.cells c.toArray 65 (0, 0))) (hne : some vb ≠ v0.ownBlock) :
    Calls Tryd.prog 84 #[v0, .int .i64 (i : Int), .slice (some ⟨vb, 0, none⟩) 1 1] w fun e w' => ∃ v', e = .returned v' ∧ w'.ownsRow base 65 2 v' (n + 1) (xs.take (i * 2) ++ c ++ xs.drop (i * 2)) ∧ w.grownBy w' v0.ownBlock ∧ (v'.ownBlock = v0.ownBlock ∨ v'.ownBlock = some w.heap.size) := by
  have hxl := hown.1
  by_cases hin : i = n
  · subst hin
    refine (in_Pair_end v0 i vb xs c base w hown hb hlen hc h1 hvb).mono fun e w' ⟨v', h2, h3, h4, h5⟩ => ⟨v', h2, ?_, h4, h5⟩
    rw [← hxl, List.take_of_length_le (Nat.le_refl _), List.drop_eq_nil_of_le (Nat.le_refl _), List.append_nil]
    exact h3
  · rcases own_cases hown with ⟨rfl, rfl, rfl⟩ | ⟨g, cap, cur, rfl, hg1, hg2, hg3, hg4, hg5, hg6⟩
    · omega
    · by_cases hroom : n + 1 ≤ cap
      · exact (in_Pair_shift g cap n i vb xs c cur base w hg2 hg1 hg4 hg5 hg6 (by omega) hroom hc h1 h1x hvb (fun e => hne (by rw [e]; rfl))).mono fun e w' ⟨v', h2, h3, h4, h5⟩ => ⟨v', h2, h3, h4, .inl h5⟩
      · exact (in_Pair_grow g cap n i vb xs c cur base w hg2 hb hg4 hg3 hg5 hg6 (by omega) hroom hlen hc h1 h1x hvb).mono fun e w' ⟨v', h2, h3, h4, h5⟩ => ⟨v', h2, h3, h4, .inr h5⟩

/-! ### pair_put: function 68 -/
-- FULL boscage/pair.put
-- NEEDS boscage/pair.place slices.Clone[[]boscage/api.Pair,boscage/api.Pair] slices.Insert[[]boscage/api.Pair,boscage/api.Pair]
-- KIND rounds=0 making=1
def pair_put.f (l0 : List S65) (a1_0 a1_1 : ByteArray) : Option (List S65) := if (srt l0 && fit l0 && decide (a1_0.size ≤ 1099511627776)) = true ∧ l0.length + 1 ≤ 1099511627776 then some (putL l0 ⟨a1_0, a1_1⟩) else none
theorem cells_one {d : Kd S65} {w : World} {base : Nat} {ok : Nat → Prop} {xs : List S65} {inner : List Value} (hz : 0 < d.sz) (h : Reps (d.M w base ok) d.sz xs inner) : ∀ u ∈ inner, u.oneCell' = true := by
  intro u hu
  obtain ⟨j, hj, rfl⟩ := List.getElem_of_mem hu
  have hl := h.1
  have hjd : j / d.sz < xs.length := by
    rw [Nat.div_lt_iff_lt_mul hz]; omega
  have h2 := h.2 (j / d.sz) _ (List.getElem?_eq_getElem hjd)
  have h3 := d.K_one (d.K_of_M h2)
  refine h3 _ ?_
  rw [List.mem_iff_getElem?]
  refine ⟨j % d.sz, ?_⟩
  have h4 := Nat.mod_lt j hz
  have h5 := Nat.div_add_mod j d.sz
  have h6 : j / d.sz * d.sz + j % d.sz = j := by rw [Nat.mul_comm]; exact h5
  rw [List.getElem?_take, if_pos h4, List.getElem?_drop, h6, List.getElem?_eq_getElem hj]
theorem reps_ins {R : S65 → List Value → Prop} {z : Nat} {xs : List S65} {inner c : List Value} {p : S65} (h : Reps R z xs inner) (hp : R p c) (hc : c.length = z) (i : Nat) (hi : i ≤ xs.length) :
    Reps R z (xs.take i ++ p :: xs.drop i) (inner.take (i * z) ++ c ++ inner.drop (i * z)) := by
  have hl := h.1
  have hle : i * z ≤ inner.length := by rw [hl]; exact Nat.mul_le_mul_right z hi
  have h1 : Reps R z (xs.take i) (inner.take (i * z)) := by
    refine ⟨by rw [zN, zN, Nat.min_eq_left hi, Nat.min_eq_left hle], fun j q hj => ?_⟩
    rw [List.getElem?_take] at hj
    split at hj
    · rename_i hji
      have := h.2 j q hj
      have h2 : j * z + z ≤ i * z := by rw [← Nat.succ_mul]; exact Nat.mul_le_mul_right z hji
      rw [List.drop_take, List.take_take, Nat.min_eq_left (by omega)]
      exact this
    · cases hj
  have h3 : Reps R z (xs.drop i) (inner.drop (i * z)) := by
    refine ⟨by rw [zO, zO, hl, Nat.sub_mul], fun j q hj => ?_⟩
    rw [List.getElem?_drop] at hj
    have := h.2 (i + j) q hj
    rw [List.drop_drop, ← Nat.add_mul]
    exact this
  have h4 : Reps R z [p] c := by
    refine ⟨by rw [hc]; simp, fun j q hj => ?_⟩
    cases j with
    | zero => simp at hj; subst hj; rw [Nat.zero_mul, List.drop_zero, List.take_of_length_le (by omega)]; exact hp
    | succ j => simp at hj
  have := Kd.reps_append (Kd.reps_append h1 h4) h3
  rw [List.append_assoc, List.singleton_append] at this
  exact this
/-- What stands behind the clone: the new binding's box, the clone. -/
structure PutMid (w W w2 : World) (v : Value) (l0 : List S65) (a b : ByteArray) : Prop where
  c0 : w2.cell? ⟨w.heap.size, 0, none⟩ = some (.string a)
  c1 : w2.cell? ⟨w.heap.size, 1, none⟩ = some (.string b)
  own : ∃ inner, w2.ownsRow W.heap.size 65 2 v l0.length inner ∧ Reps (k65.M w2 0 (fun _ => True)) 2 l0 inner
  below : Below w.heap.size w w2
  step : Below W.heap.size W w2
theorem clone_mid (A0 : Option Addr) (c0 : Nat) (l0 : List S65) (a b : ByteArray) (w : World) (hr0 : Kd.C k65 w A0 l0.length l0) (hc0 : l0.length ≤ c0) (hlen : l0.length + 1 ≤ 1099511627776) (W : World) (hb : Below w.heap.size w W) (hp : W.heap[w.heap.size]? = some (.cells #[.string a, .string b] 65 (0, 0))) (hs : w.heap.size < W.heap.size) :
    Calls Tryd.prog 69 #[.slice A0 l0.length c0] W fun e w2 => ∃ v, e = .returned v ∧ PutMid w W w2 v l0 a b := by
  refine (cl_Pair.calls A0 c0 l0 l0 W (zZ hr0 hb) hc0 (by unfold cl_Pair.f; rw [if_pos (by omega)])).mono ?_
  rintro e w2 ⟨v, rfl, hR, hb2⟩
  have hp2 := (hb2.block _ hs).trans hp
  obtain ⟨inner, hO, hrep⟩ := hR.2
  exact ⟨v, rfl, (cell_row hp2).trans rfl, (cell_row hp2).trans rfl, ⟨inner, hO, hrep⟩, zT hb hb2, hb2⟩
theorem insert_mid (w W W2 : World) (v : Value) (l0 : List S65) (a b : ByteArray) (i vb : Nat) (hi : i ≤ l0.length) (hlen : l0.length + 1 ≤ 1099511627776) (hw : w.heap.size ≤ W.heap.size) (hb : Below w.heap.size w W2)
    (inner : List Value) (hO : W2.ownsRow W.heap.size 65 2 v l0.length inner) (hrep : Reps (k65.M W2 0 (fun _ => True)) 2 l0 inner) (hv : W2.heap[vb]? = some (.cells #[.string a, .string b] 65 (0, 0))) (hne : some vb ≠ v.ownBlock) :
    Calls Tryd.prog 84 #[v, .int .i64 (i : Int), .slice (some ⟨vb, 0, none⟩) 1 1] W2 fun e w3 => ∃ v', e = .returned v' ∧ Kd.R k65 65 w3 w.heap.size (fun _ => True) v' (l0.take i ++ ⟨a, b⟩ :: l0.drop i) ∧ Below w.heap.size w w3 := by
  refine (in_Pair_any v l0.length i vb inner [.string a, .string b] w.heap.size W2 (own_weaken hO hw) hb.size hi hlen rfl ?_ (cells_one (d := k65) (by decide) hrep) hv hne).mono ?_
  · intro u hu
    simp only [List.mem_cons, List.not_mem_nil, or_false] at hu
    rcases hu with rfl | rfl <;> rfl
  · rintro e w3 ⟨v', rfl, h2, h3, h4⟩
    refine ⟨v', rfl, ⟨fun _ _ => trivial, _, ?_, reps_ins (p := ⟨a, b⟩) (z := 2) (inner := inner) (R := k65.M w3 w.heap.size (fun k => True ∧ some k ≠ v'.ownBlock)) (c := [.string a, .string b]) ?_ (k65_mkM _ _ _ ⟨a, b⟩) rfl i hi⟩, hb.grown h3 hb.size (fun k hk => Nat.le_trans hw (own_base hO k hk))⟩
    · have e : (l0.take i ++ (⟨a, b⟩ : S65) :: l0.drop i).length = l0.length + 1 := by simp only [List.length_append, List.length_cons, zN, zO]; omega
      rw [e]; exact h2
    · exact hrep
theorem insA {w W w2 : World} {v : Value} {l0 : List S65} {a b : ByteArray} (hm : PutMid w W w2 v l0 a b) (i : Nat) (hi : i ≤ l0.length) (hlen : l0.length + 1 ≤ 1099511627776) (hw : w.heap.size < W.heap.size) :
    Calls Tryd.prog 84 #[v, .int .i64 (i : Int), .slice (some ⟨w2.heap.size, 0, none⟩) 1 1] (w2.alloc (.cells #[.string a, .string b] 65)) fun e w3 => ∃ v', e = .returned v' ∧ Kd.R k65 65 w3 w.heap.size (fun _ => True) v' (l0.take i ++ ⟨a, b⟩ :: l0.drop i) ∧ Below w.heap.size w w3 := by
  obtain ⟨inner, hO, hrep⟩ := hm.own
  exact insert_mid w W _ v l0 a b i _ hi hlen (Nat.le_of_lt hw) (zF hm.below _) inner (hO.alloc _) hrep alloc_at (fun h => by have := own_lt hO _ h.symm; omega)
theorem insB {w W w2 : World} {v : Value} {l0 : List S65} {a b : ByteArray} (hm : PutMid w (W.alloc (.cells #[.string a, .string b] 65)).drew w2 v l0 a b) (i : Nat) (hi : i ≤ l0.length) (hlen : l0.length + 1 ≤ 1099511627776) (hw : w.heap.size < W.heap.size) :
    Calls Tryd.prog 84 #[v, .int .i64 (i : Int), .slice (some ⟨W.heap.size, 0, none⟩) 1 1] w2 fun e w3 => ∃ v', e = .returned v' ∧ Kd.R k65 65 w3 w.heap.size (fun _ => True) v' (l0.take i ++ ⟨a, b⟩ :: l0.drop i) ∧ Below w.heap.size w w3 := by
  obtain ⟨inner, hO, hrep⟩ := hm.own
  exact insert_mid w _ w2 v l0 a b i _ hi hlen (by rw [size_alloc_drew]; omega) hm.below inner hO hrep ((hm.step.block _ (by rw [size_alloc_drew]; omega)).trans alloc_drew_at) (fun h => by have := own_base hO _ h.symm; rw [size_alloc_drew] at this; omega)
set_option maxHeartbeats 4000000 in
set_option maxRecDepth 100000 in
theorem pair_put.ins (A0 : Option Addr) (c0 : Nat) (l0 : List S65) (a1_0 a1_1 : ByteArray) (w : World) (hr0 : Kd.C k65 w A0 l0.length l0) (hc0 : l0.length ≤ c0) (hs : (srt l0 && fit l0 && decide (a1_0.size ≤ 1099511627776)) = true) (hlen : l0.length + 1 ≤ 1099511627776) (hat : isAt l0 a1_0 = false) :
    Calls Tryd.prog 68 #[.slice A0 l0.length c0, .agg #[.string a1_0, .string a1_1]] w fun e w' => ∃ v0_ : Value, e = .returned (v0_) ∧ Kd.R k65 65 w' w.heap.size (fun _ => True) v0_ (l0.take (low l0 a1_0) ++ ⟨a1_0, a1_1⟩ :: l0.drop (low l0 a1_0)) ∧ Below w.heap.size w w' := by
  have hpl : pair_place.f l0 a1_0 = some ((low l0 a1_0 : Int), false) := by unfold pair_place.f; rw [if_pos hs, hat]
  have hlow := low_le l0 a1_0
  obtain ⟨i, hi⟩ : ∃ i, i = low l0 a1_0 := ⟨_, rfl⟩
  rw [← hi] at hpl hlow ⊢
  have HPL := Lib.hid (fun (W : World) (hb : Below w.heap.size w W) => pair_place.calls A0 c0 l0 a1_0 i false W (zZ hr0 hb) hc0 hpl)
  have HCL := Lib.hid (clone_mid A0 c0 l0 a1_0 a1_1 w hr0 hc0 hlen)
  have HB0 := zX (zi w.heap.size w)
  clear hr0 hc0 hs hat hi hpl
  go_enter Tryd.func68, Tryd.ntmps68
  go_wp2_with (go_at_call 57; refine (HPL.out _ (by repeat (first | exact HB0.out | apply zF | apply zE | apply zG))).mono ?_; rintro e w1 ⟨rfl, hb⟩; have HB1 := zX hb; clear hb)
  have hs1 : w.heap.size + 1 ≤ w1.heap.size := by have := HB1.out.size; simp at this; omega
  have hb1 : Below w.heap.size w w1 := ((zi w.heap.size w).alloc (Nat.le_refl _) _).trans (HB1.out.mono (by simp))
  have hpb : w1.heap[w.heap.size]? = some (.cells #[.string a1_0, .string a1_1] 65 (0, 0)) := (HB1.out.block _ (by simp)).trans (by show (w.heap.push _)[w.heap.size]? = _; simp)
  have HPB := Lib.hid hpb
  have HB := zX hb1
  have p0 : w1.cell? ⟨w.heap.size, 0, none⟩ = some (.string a1_0) := (cell_row hpb).trans rfl
  have p1 : w1.cell? ⟨w.heap.size, 1, none⟩ = some (.string a1_1) := (cell_row hpb).trans rfl
  have d1 : Below w.heap.size w w1.drew := zG hb1
  have d2 : ∀ o, Below w.heap.size w (w1.alloc o).drew := fun o => zG (zF hb1 o)
  have e1 : w1.drew.heap[w.heap.size]? = some (.cells #[.string a1_0, .string a1_1] 65 (0, 0)) := hpb
  have e2 : ∀ o, (w1.alloc o).drew.heap[w.heap.size]? = some (.cells #[.string a1_0, .string a1_1] 65 (0, 0)) := fun o => by
    show (w1.heap.push o)[w.heap.size]? = _
    rw [Array.getElem?_push_lt (by omega), ← Array.getElem?_eq_getElem (by omega)]; exact hpb
  have f1 : w.heap.size < w1.drew.heap.size := by rw [size_drew]; omega
  have f2 : ∀ o, w.heap.size < (w1.alloc o).drew.heap.size := fun o => by rw [size_alloc_drew]; omega
  have D1 := Lib.hid d1
  have D2 := Lib.hid d2
  have E1 := Lib.hid e1
  have E2 := Lib.hid e2
  have F1 := Lib.hid f1
  have F2 := Lib.hid f2
  clear hpb hb1 HB1 d1 d2 e1 e2 f1 f2
  have hw1 : w.heap.size < w1.heap.size := by omega
  go_region_with (first
    | (go_at_call 69; (first | refine (HCL.out w1.drew D1.out E1.out F1.out).mono ?_ | refine (HCL.out _ (D2.out _) (E2.out _) (F2.out _)).mono ?_); rintro e w2 ⟨v, rfl, hm⟩; have q0 := hm.c0; have q1 := hm.c1; have HM := Lib.hid hm; clear hm)
    | (go_at_call 84; (first | refine (insA HM.out i hlow hlen F1.out).mono ?_ | refine (insB HM.out i hlow hlen hw1).mono ?_); rintro e w3 ⟨v', rfl, h2, h3⟩; have H2 := Lib.hid h2; have H3 := Lib.hid h3; clear h2 h3))
  all_goals
    go_wp2
    go_ret
    exact ⟨v', rfl, H2.out, H3.out⟩
theorem isAt_lt {l : List S65} {key : ByteArray} (h : isAt l key = true) : low l key < l.length := by
  unfold isAt at h
  rcases Nat.lt_or_ge (low l key) l.length with h' | h'
  · exact h'
  · rw [List.getElem?_eq_none h'] at h; cases h
set_option maxHeartbeats 4000000 in
set_option maxRecDepth 100000 in
theorem pair_put.set (A0 : Option Addr) (c0 : Nat) (l0 : List S65) (a1_0 a1_1 : ByteArray) (w : World) (hr0 : Kd.C k65 w A0 l0.length l0) (hc0 : l0.length ≤ c0) (hs : (srt l0 && fit l0 && decide (a1_0.size ≤ 1099511627776)) = true) (hlen : l0.length + 1 ≤ 1099511627776) (hat : isAt l0 a1_0 = true) :
    Calls Tryd.prog 68 #[.slice A0 l0.length c0, .agg #[.string a1_0, .string a1_1]] w fun e w' => ∃ v0_ : Value, e = .returned (v0_) ∧ Kd.R k65 65 w' w.heap.size (fun _ => True) v0_ (l0.set (low l0 a1_0) ⟨a1_0, a1_1⟩) ∧ Below w.heap.size w w' := by
  have hpl : pair_place.f l0 a1_0 = some ((low l0 a1_0 : Int), true) := by unfold pair_place.f; rw [if_pos hs, hat]
  have hlow := isAt_lt hat
  obtain ⟨i, hi⟩ : ∃ i, i = low l0 a1_0 := ⟨_, rfl⟩
  rw [← hi] at hpl hlow ⊢
  have HPL := Lib.hid (fun (W : World) (hb : Below w.heap.size w W) => pair_place.calls A0 c0 l0 a1_0 i true W (zZ hr0 hb) hc0 hpl)
  have HCL := Lib.hid (clone_mid A0 c0 l0 a1_0 a1_1 w hr0 hc0 hlen)
  have HB0 := zX (zi w.heap.size w)
  clear hr0 hc0 hs hat hi hpl
  go_enter Tryd.func68, Tryd.ntmps68
  go_wp2_with (first
    | (go_at_call 57; refine (HPL.out _ (by repeat (first | exact HB0.out | apply zF | apply zE | apply zG))).mono ?_; rintro e w1 ⟨rfl, hb⟩; have HB1 := zX hb; clear hb)
    | (go_at_call 69; fail))
  have hs1 : w.heap.size + 1 ≤ w1.heap.size := by have := HB1.out.size; simp at this; omega
  have hb1 : Below w.heap.size w w1 := ((zi w.heap.size w).alloc (Nat.le_refl _) _).trans (HB1.out.mono (by simp))
  have hpb : w1.heap[w.heap.size]? = some (.cells #[.string a1_0, .string a1_1] 65 (0, 0)) := (HB1.out.block _ (by simp)).trans (by show (w.heap.push _)[w.heap.size]? = _; simp)
  refine (HCL.out w1 hb1 hpb (by omega)).mono ?_
  rintro e w2 ⟨v, rfl, hm⟩
  have q0 := hm.c0
  have q1 := hm.c1
  obtain ⟨inner, hO, hrep⟩ := hm.own
  obtain ⟨g, cap, cur, hv, hg1, hg2, hg3, hg4, hg5, hg6⟩ := (own_cases hO).resolve_left (by rintro ⟨_, h, _⟩; omega)
  subst hv
  unfold maxLen at hg4
  have hne : (g = w.heap.size) = False := by simp; omega
  have hne' : (w.heap.size = g) = False := by simp; omega
  obtain ⟨x0, hx0⟩ : ∃ x, cur[i * 2]? = some x := ⟨_, Array.getElem?_eq_getElem (by omega)⟩
  obtain ⟨x1, hx1⟩ : ∃ x, cur[i * 2 + 1]? = some x := ⟨_, Array.getElem?_eq_getElem (by omega)⟩
  have u0 : w2.cell? ⟨g, i * 2, none⟩ = some x0 := (cell_row hg2).trans hx0
  have u1 : w2.cell? ⟨g, i * 2 + 1, none⟩ = some x1 := (cell_row hg2).trans hx1
  have z0 : w2.frozen? ⟨g, i * 2, none⟩ = false := by simp [World.frozen?, hg2]
  have z1 : w2.frozen? ⟨g, i * 2 + 1, none⟩ = false := by simp [World.frozen?, hg2]
  have HG2 := Lib.hid hg2
  have HM := Lib.hid hm
  have HREP := Lib.hid hrep
  have HO := Lib.hid hO
  have HG6 := Lib.hid hg6
  have HG5 := Lib.hid hg5
  clear hg2 hm hrep hO hg5 hg6 hb1 hpb HB1 hx0 hx1
  go_wp2
  go_ret
  have hg3 := setcell2 (w := w2) (i := i * 2) (x := .string a1_0) (y := .string a1_1) HG2.out
  have hown : ((w2.setCell ⟨g, i * 2, none⟩ (.string a1_0)).setCell ⟨g, i * 2 + 1, none⟩ (.string a1_1)).ownsRow w.heap.size 65 2 (.slice (some ⟨g, 0, none⟩) l0.length cap) l0.length (inner.take (i * 2) ++ [.string a1_0, .string a1_1] ++ inner.drop (i * 2 + 2)) := by
    have hl : inner.length = l0.length * 2 := HO.out.1
    refine ⟨?_, .inr ⟨g, cap, _, rfl, by omega, hg3, by omega, by unfold maxLen; omega, ?_, ?_⟩⟩
    · simp only [List.length_append, zN, zO, List.length_cons, List.length_nil, hl]; omega
    · rw [Array.size_setIfInBounds, Array.size_setIfInBounds]; exact HG5.out
    · have h5 := HG5.out
      rw [setcell2_list cur (i * 2) (l0.length * 2) _ _ (by omega) (by omega), HG6.out]
  have hrep2 : Reps (k65.M ((w2.setCell ⟨g, i * 2, none⟩ (.string a1_0)).setCell ⟨g, i * 2 + 1, none⟩ (.string a1_1)) w.heap.size (fun k => True ∧ some k ≠ (Value.slice (some ⟨g, 0, none⟩) l0.length cap).ownBlock)) 2 (l0.set i ⟨a1_0, a1_1⟩) (inner.take (i * 2) ++ [.string a1_0, .string a1_1] ++ inner.drop (i * 2 + 2)) :=
    Kd.reps_set (x := (⟨a1_0, a1_1⟩ : S65)) (seg := [.string a1_0, .string a1_1]) HREP.out hlow (k65_mkM _ _ _ ⟨a1_0, a1_1⟩) rfl
  have hbel : Below w.heap.size w ((w2.setCell ⟨g, i * 2, none⟩ (.string a1_0)).setCell ⟨g, i * 2 + 1, none⟩ (.string a1_1)) := (HM.out.below.setCell (by show _ ≤ g; omega) _).setCell (by show _ ≤ g; omega) _
  exact ⟨.slice (some ⟨g, 0, none⟩) l0.length cap, rfl, ⟨fun _ _ => trivial, _, by rw [List.length_set]; exact hown, hrep2⟩, hbel⟩
theorem pair_put.calls (A0 : Option Addr) (c0 : Nat) (l0 : List S65) (a1_0 a1_1 : ByteArray) (r : List S65) (w : World) (hr0 : Kd.C k65 w A0 l0.length l0) (hc0 : l0.length ≤ c0) (h : pair_put.f l0 a1_0 a1_1 = some r) :
    Calls Tryd.prog 68 #[.slice A0 l0.length c0, .agg #[.string a1_0, .string a1_1]] w fun e w' => ∃ v0_ : Value, e = .returned (v0_) ∧ Kd.R k65 65 w' w.heap.size (fun _ => True) v0_ r ∧ Below w.heap.size w w' := by
  unfold pair_put.f at h
  split at h
  · rename_i hs
    obtain rfl := zQ h
    unfold putL
    by_cases hat : isAt l0 a1_0 = true
    · rw [if_pos hat]; exact pair_put.set A0 c0 l0 a1_0 a1_1 w hr0 hc0 hs.1 hs.2 hat
    · rw [if_neg hat]; exact pair_put.ins A0 c0 l0 a1_0 a1_1 w hr0 hc0 hs.1 hs.2 (by simpa using hat)
  · cases h

/-! ### pair_Make: function 49 -/
def pair_Make.l0 : Nat → List (S65) → List (S65) → Int → Int → Option ((List (S65)))
  | 0, _, _, _, _ => none
  | k + 1, x3, x6, x7, x8 => if x8 < x7 then (if 0 ≤ x8 then (if x8 < (x6.length : Int) then ((pair_put.f x3 ((rd_T65 x6 x8).f0) ((rd_T65 x6 x8).f1)).bind fun t165 => (pair_Make.l0 k t165 x6 x7 (wrap64 (x8 + 1)))) else (none)) else (none)) else (some x3)
def pair_Make.f (k : Nat) (l0 : List (S65)) : Option ((List (S65))) := pair_Make.l0 k ([] : List (S65)) l0 (l0.length : Int) 0
set_option maxHeartbeats 8000000 in
set_option maxRecDepth 100000 in
theorem pair_Make.calls (k : Nat) (A0 : Option Addr) (c0 : Nat) (l0 : List (S65)) (r : List (S65)) (w : World) (hr0 : Kd.C k65 w A0 l0.length l0) (hc0 : l0.length ≤ c0) (h : pair_Make.f k l0 = some r) :
    Calls Tryd.prog 49 #[.slice A0 l0.length c0] w fun e w' => ∃ v0_ : Value, e = .returned (v0_) ∧ Kd.R k65 65 w' w.heap.size (fun _ => True) v0_ r ∧ Below w.heap.size w w' := by
  have hu65 := Tryd.underlying65
  have HR0 := zX hr0
  have HC0 := zX hc0
  clear hr0 hc0
  have HB := zX (zi w.heap.size w)
  have H : (pair_Make.l0 k ([] : List (S65)) l0 (l0.length : Int) 0) = some r := h
  clear h
  have H' := zX H
  clear H
  go_enter Tryd.func49, Tryd.ntmps49
  go_wp2
  go_loopg [3, 8] k (fun kq v3 v8 w' => ∃ (x3_1 : List (S65)) (x8_1 : Int), v8 = .int .i64 x8_1 ∧ Aside0 (pair_Make.l0 kq x3_1 l0 (l0.length : Int) x8_1 = some r) ∧ Aside0 (kq ≤ k) ∧ Aside0 (Kd.R k65 65 w' w.heap.size (fun _ => True) v3 x3_1) ∧ Aside0 (Below w.heap.size w w'))
  case atStart => exact ⟨(([] : List (S65))), (0), (by first | rfl | (simp; done) | (simp [*]; done)), H', ⟨Nat.le_refl _⟩, ⟨by first | exact Kd.R_nil _ _ _ _ _ | exact Kd.N_nil _ _ _ _ _ | exact Kd.V_nil _ _ _ _ _ | exact Kd.Q_nil _ _ _ _ _ | exact Kd.S_nil _ _ _ _ _⟩, ⟨by repeat (first | (with_reducible first | exact HB.out | apply zF | apply zE | apply zG) | exact HB.out)⟩⟩
  case round =>
    clear H'
    obtain ⟨x3_1, x8_1, rfl, HA, HK1, HO_3, HB⟩ := hrel
    cases gk with
    | zero => exact absurd HA.out (by simp [pair_Make.l0])
    | succ k1 =>
      have H := HA.out
      clear HA
      simp only [pair_Make.l0] at H
      by_cases c2 : x8_1 < (l0.length : Int)
      · rw [if_pos c2] at H
        have c2b0 : decide (x8_1 < (l0.length : Int)) = true := zW c2
        clear c2
        by_cases c3 : 0 ≤ x8_1
        · rw [if_pos c3] at H
          have c3b0 : decide (0 ≤ x8_1) = true := zW c3
          clear c3
          by_cases c4 : x8_1 < (l0.length : Int)
          · rw [if_pos c4] at H
            have c4b0 : decide (x8_1 < (l0.length : Int)) = true := zW c4
            clear c4
            replace H := Option.bind_eq_some_iff.mp H
            obtain ⟨t165, A50, H⟩ := H
            replace H : (pair_Make.l0 k1 t165 l0 (l0.length : Int) (wrap64 (x8_1 + 1))) = some r := H
            have A5 := zX A50
            clear A50
            have H' := zX H
            clear H
            have p163 : 0 ≤ (x8_1 : Int) := zP (by first | (with_reducible assumption) | assumption)
            have q163 : x8_1 < (l0.length : Int) := zP (by first | (with_reducible assumption) | assumption)
            obtain ⟨ad163, e163, hx163_0, hx163_1⟩ := at_T65 HR0.out x8_1 p163 q163
            cases e163
            replace hx163_0 := (HB.out.cell (zB w _ hx163_0)).trans hx163_0
            replace hx163_1 := (HB.out.cell (zB w _ hx163_1)).trans hx163_1
            replace p163 := eq_true p163
            replace q163 := eq_true q163
            go_wp2_with (first | ((with_reducible refine gate_dst (N := 5) rfl ?_); refine box_event ?hg (N := 5) ?hd (cs := #[.string (⟨#[]⟩ : ByteArray), .string (⟨#[]⟩ : ByteArray)]) (t := 65) ?hr ?_; (case hd => rfl); (case hg => rfl); (case hr => first | (go_simp; done) | (go_simp; rfl)); intro gb164 hg w6 hbox hb; have n0_ := zX (Kd.R_below (Kd.R_elderB (by (with_reducible repeat (first | apply za | apply zg | apply zh)); exact HO_3.out) gb164 (Nat.le_of_eq hg.symm)) hb); have n1_ := zX (zT (by repeat (first | (with_reducible first | exact HB.out | apply zF | apply zE | apply zG) | exact HB.out)) hb); have n2_ := zX (hbox); have n3_ := zX ((by rw [hg]; exact (zY (by repeat (first | (with_reducible first | exact HB.out | apply zF | apply zE | apply zG) | exact HB.out))) : w.heap.size ≤ gb164)); have n4_ := zX ((by rw [hg]; exact (zY (by repeat (first | (with_reducible first | exact HB.out | apply zF | apply zE | apply zG) | exact HB.out))) : w.heap.size ≤ gb164)); clear HO_3; clear HB; have HO_3 := n0_; have HB := n1_; have BK164 := n2_; have GW164 := n3_; have GE164 := n4_; clear n0_ n1_ n2_ n3_ n4_; clear hb hbox hg; have hcz7_0 : w6.cell? ⟨gb164, 0, none⟩ = some (.string (⟨#[]⟩ : ByteArray)) := (zH BK164.out 0).trans rfl; have hcz7_1 : w6.cell? ⟨gb164, 1, none⟩ = some (.string (⟨#[]⟩ : ByteArray)) := (zH BK164.out 1).trans rfl; have hfz7_0 := zI BK164.out 0; have hfz7_1 := zI BK164.out 1; obtain ⟨Ao8, co8, eo8⟩ := Kd.R_slice HO_3.out; subst eo8) | ((with_reducible refine gate_callee (f := 68) rfl ?_); refine goesL_ (some 14) rfl rfl Tryd.func68 (by kernel_rfl) rfl #[.slice Ao8 x3_1.length co8, .agg #[.string ((rd_T65 l0 x8_1).f0), .string ((rd_T65 l0 x8_1).f1)]] rfl (by (try simp only [zS, zU, zV]); first | done | rfl | (simp only [zO, zN]; rfl)) ?_; (with_reducible refine (pair_put.calls _ _ x3_1 ((rd_T65 l0 x8_1).f0) ((rd_T65 l0 x8_1).f1) t165 _ ?side1 ?side2 A5.out).mono ?_); (case side1 => refine (Kd.R_reads' (e := 65) (base := w.heap.size) (ok := fun k_ => (True ∧ k_ ≠ gb164)) (n := x3_1.length) (c := co8) ?_).2.2; exact (by (with_reducible repeat (first | apply za | apply zg | apply zh)); exact (Kd.R_mono (Kd.R_far (p := ⟨gb164, 1, none⟩) (Kd.R_far (p := ⟨gb164, 0, none⟩) (Kd.R_mono HO_3.out (fun k_ hk => (⟨hk, hk.2⟩ : _ ∧ k_ ≠ gb164))) (fun _ hk => hk.2) (.string ((rd_T65 l0 x8_1).f0))) (fun _ hk => hk.2) (.string ((rd_T65 l0 x8_1).f1))) (fun _ h_ => h_.1)))); (case side2 => exact (Kd.R_reads' HO_3.out).2.1); rintro e w9 ⟨v166, rfl, ho0, hb⟩; refine ⟨_, rfl, ?_⟩; have n0_ := zX (Kd.R_elder' (by (with_reducible repeat (first | apply za | apply zg | apply zh)); exact (Kd.R_mono (Kd.R_far (p := ⟨gb164, 1, none⟩) (Kd.R_far (p := ⟨gb164, 0, none⟩) (Kd.R_mono HO_3.out (fun k_ hk => (⟨hk, hk.2⟩ : _ ∧ k_ ≠ gb164))) (fun _ hk => hk.2) (.string ((rd_T65 l0 x8_1).f0))) (fun _ hk => hk.2) (.string ((rd_T65 l0 x8_1).f1))) (fun _ h_ => h_.1))) (Kd.R_base ho0) hb); have n1_ := zX (Kd.R_lower (Kd.R_newB (Kd.R_new' ho0 (Kd.R_lt (by (with_reducible repeat (first | apply za | apply zg | apply zh)); exact (Kd.R_mono (Kd.R_far (p := ⟨gb164, 1, none⟩) (Kd.R_far (p := ⟨gb164, 0, none⟩) (Kd.R_mono HO_3.out (fun k_ hk => (⟨hk, hk.2⟩ : _ ∧ k_ ≠ gb164))) (fun _ hk => hk.2) (.string ((rd_T65 l0 x8_1).f0))) (fun _ hk => hk.2) (.string ((rd_T65 l0 x8_1).f1))) (fun _ h_ => h_.1))))) (g := gb164) (o := .cells #[.string ((rd_T65 l0 x8_1).f0), .string ((rd_T65 l0 x8_1).f1)] 65 (0, 0)) (by (with_reducible repeat (first | refine zL ?_ _ | refine zM ?_ | refine zJ ?_ _)); refine blk_put (cs := #[.string ((rd_T65 l0 x8_1).f0), .string (⟨#[]⟩ : ByteArray)]) ?_ 1 _ rfl; (with_reducible repeat (first | refine zL ?_ _ | refine zM ?_ | refine zJ ?_ _)); refine blk_put (cs := #[.string (⟨#[]⟩ : ByteArray), .string (⟨#[]⟩ : ByteArray)]) ?_ 0 _ rfl; (with_reducible repeat (first | refine zL ?_ _ | refine zM ?_ | refine zJ ?_ _)); exact BK164.out)) (zY (by repeat (first | (with_reducible first | exact HB.out | apply zF | apply zE | apply zG | refine zK ?_ GE164.out) | exact HB.out)))); have n2_ := zX (zm (g := gb164) (o := .cells #[.string ((rd_T65 l0 x8_1).f0), .string ((rd_T65 l0 x8_1).f1)] 65 (0, 0)) (by (with_reducible repeat (first | refine zL ?_ _ | refine zM ?_ | refine zJ ?_ _)); refine blk_put (cs := #[.string ((rd_T65 l0 x8_1).f0), .string (⟨#[]⟩ : ByteArray)]) ?_ 1 _ rfl; (with_reducible repeat (first | refine zL ?_ _ | refine zM ?_ | refine zJ ?_ _)); refine blk_put (cs := #[.string (⟨#[]⟩ : ByteArray), .string (⟨#[]⟩ : ByteArray)]) ?_ 0 _ rfl; (with_reducible repeat (first | refine zL ?_ _ | refine zM ?_ | refine zJ ?_ _)); exact BK164.out) hb); have n3_ := zX (zT (by repeat (first | (with_reducible first | exact HB.out | apply zF | apply zE | apply zG | refine zK ?_ GE164.out) | exact HB.out)) hb); clear HO_3; clear BK164; clear HB; have HO_3 := n0_; have HO167 := n1_; have BK164 := n2_; have HB := n3_; clear n0_ n1_ n2_ n3_; (try clear hb); (try clear hb2); (try clear hk); (try clear hi); (try clear ho0)))
            go_roundg k1
            case measure => have := HK1.out; omega
            case rel => exact ⟨(t165), (wrap64 (x8_1 + 1)), (by first | rfl | (simp; done) | (simp [*]; done)), H', ⟨by have := HK1.out; omega⟩, ⟨by (with_reducible repeat (first | apply za | apply zg | apply zh)); exact Kd.R_mono HO167.out (fun _ hk => trivial)⟩, ⟨by repeat (first | (with_reducible first | exact HB.out | apply zF | apply zE | apply zG | refine zK ?_ GE164.out) | exact HB.out)⟩⟩
          · rw [if_neg c4] at H
            exact absurd H (by simp)
        · rw [if_neg c3] at H
          exact absurd H (by simp)
      · rw [if_neg c2] at H
        have c2b0 : decide (x8_1 < (l0.length : Int)) = false := decide_eq_false c2
        clear c2
        obtain rfl := zQ H
        go_wp2
        go_ret
        exact ⟨_, by first | rfl | (simp [errW_none, errW_some] <;> rfl) | (simp [*, errW_none, errW_some] <;> rfl), by (with_reducible repeat (first | apply za | apply zg | apply zh)); exact HO_3.out, by repeat (first | (with_reducible first | exact HB.out | apply zF | apply zE | apply zG) | exact HB.out)⟩

end Go.Proofs.YthnococjdeafhaaDoor.PModelKeeps
