-- printed by a program of the session (wip/hyb/mkprint.py)
import Derived.Test.YthnococjdeafhaaDoorPModelKeepsx0
import Derived.Test.YthnococjdeafhaaDoorPModelKeepsx8
import Derived.Test.YthnococjdeafhaaDoorPModelKeepsx16
namespace Go.Proofs.YthnococjdeafhaaDoor.PModelKeeps
open Go.RowKit Go.Proofs.YthnococjdeafhaaDoorW.PrintWords Go.Proofs.YthnococjdeafhaaDoorW.PrintLast Go.Proofs.YthnococjdeafhaaDoorW.PrintMore
attribute [local go_sem] max2_int min2_int max_two min_two max_three min_three max_four min_four   -- for this text's walks alone
set_option linter.unusedVariables false
set_option linter.unusedSimpArgs false

/-! ### model_Same: function 22 -/
-- FULL boscage/model.Same
-- NEEDS boscage/pair.Make slices.Equal[[]boscage/api.Pair,boscage/api.Pair]
-- KIND rounds=1 making=1
/-- Whether bindings are the same, put in order (k: rounds). -/
def sameP (k : Nat) (a b : List S65) : Option Bool := (pair_Make.f k a).bind fun x => (pair_Make.f k b).bind fun y => api_Pair.f k x y
def sameH (k : Nat) : List S72 → List S72 → Option Bool
  | x :: xs, y :: ys => if x.f0 = y.f0 then (sameP k x.f1 y.f1).bind fun t => if t = true then sameH k xs ys else some false else some false
  | _, _ => some true
theorem sheap3_0 {w : World} {a b c : Obj} : (((w.alloc a).alloc b).alloc c).heap[w.heap.size]? = some a := by
  show (((w.heap.push a).push b).push c)[w.heap.size]? = _
  rw [Array.getElem?_push_lt (by simp; omega), Array.getElem_push_lt (by simp), Array.getElem_push_eq]
theorem sheap3_1 {w : World} {a b c : Obj} : (((w.alloc a).alloc b).alloc c).heap[w.heap.size + 1]? = some b := by
  show (((w.heap.push a).push b).push c)[w.heap.size + 1]? = _
  have := Array.getElem?_push_size (xs := w.heap.push a) (x := b)
  rw [show (w.heap.push a).size = w.heap.size + 1 by simp] at this
  rw [Array.getElem?_push_lt (by simp), ← Array.getElem?_eq_getElem (by simp)]
  exact this
theorem sheap3_2 {w : World} {a b c : Obj} : (((w.alloc a).alloc b).alloc c).heap[w.heap.size + 2]? = some c := by
  show (((w.heap.push a).push b).push c)[w.heap.size + 2]? = _
  have := Array.getElem?_push_size (xs := (w.heap.push a).push b) (x := c)
  rwa [show ((w.heap.push a).push b).size = w.heap.size + 2 by simp] at this
set_option maxHeartbeats 4000000 in
/-- The closure same. -/
theorem same1_calls (k : Nat) (A0 : Option Addr) (c0 : Nat) (l0 : List S65) (A1 : Option Addr) (c1 : Nat) (l1 : List S65) (t : Bool) (w : World) (hr0 : Kd.C k65 w A0 l0.length l0) (hc0 : l0.length ≤ c0) (hr1 : Kd.C k65 w A1 l1.length l1) (hc1 : l1.length ≤ c1) (h : sameP k l0 l1 = some t) :
    Calls Tryd.prog 50 #[.slice A0 l0.length c0, .slice A1 l1.length c1] w fun e w' => e = .returned (.bool t) ∧ Below w.heap.size w w' := by
  obtain ⟨x, hx, h1⟩ := Option.bind_eq_some_iff.1 h
  obtain ⟨y, hy, h2⟩ := Option.bind_eq_some_iff.1 h1
  have H0 := Lib.hid (fun (W : World) (hb : Below w.heap.size w W) => pair_Make.calls k A0 c0 l0 x W (zZ hr0 hb) hc0 hx)
  have H1 := Lib.hid (fun (W : World) (hb : Below w.heap.size w W) => pair_Make.calls k A1 c1 l1 y W (zZ hr1 hb) hc1 hy)
  have HE := Lib.hid h2
  clear hr0 hr1 hc0 hc1 h h1 h2 hx hy
  go_enter Tryd.func50, Tryd.ntmps50
  go_wp2_with fail
  refine (H0.out _ (by repeat (first | exact zi _ _ | apply zF))).mono ?_
  rintro e w1 ⟨v, rfl, hR, hb⟩
  obtain ⟨Ax, cx, rfl, hcx, hCx⟩ := Kd.R_reads hR
  have HX := zX hCx
  have HCX := zX hcx
  have HB := zX hb
  clear hR hb hCx hcx
  go_wp2_with fail
  refine (H1.out _ HB.out).mono ?_
  rintro e w2 ⟨v, rfl, hR, hb⟩
  obtain ⟨Ay, cy, rfl, hcy, hCy⟩ := Kd.R_reads hR
  have HY := zX hCy
  have HCY := zX hcy
  have HX2 := zX (zZ HX.out hb)
  have HB2 := zX (zT HB.out hb)
  clear hR hb hCy hcy
  go_wp2_with fail
  refine (api_Pair.calls k Ax cx x Ay cy y t _ HX2.out HCX.out HY.out HCY.out HE.out).mono ?_
  rintro e w3 ⟨rfl, hd⟩
  have HB3 := zX (zT HB2.out hd.below)
  clear hd
  go_wp2
  go_ret
  exact ⟨rfl, HB3.out⟩
set_option maxHeartbeats 4000000 in
/-- The closure that compares what is held. -/
theorem same2_calls (k : Nat) (x y : S72) (Ax : Option Addr) (cx : Nat) (Ay : Option Addr) (cy : Nat) (t : Bool) (p : Addr) (w : World) (hx : Kd.C k65 w Ax x.f1.length x.f1) (hcx : x.f1.length ≤ cx) (hy : Kd.C k65 w Ay y.f1.length y.f1) (hcy : y.f1.length ≤ cy) (hp : w.cell? p = some (.func (.func 50) #[] #[])) (h : (if x.f0 = y.f0 then sameP k x.f1 y.f1 else some false) = some t) :
    Calls Tryd.prog 53 #[.agg #[.int .i64 x.f0, .slice Ax x.f1.length cx], .agg #[.int .i64 y.f0, .slice Ay y.f1.length cy], .pointer (some p)] w fun e w' => e = .returned (.bool t) ∧ Below w.heap.size w w' := by
  have hpb := zB w _ hp
  have m1 : ¬ p.block = w.heap.size := by omega
  have m2 : ¬ p.block = w.heap.size + 1 := by omega
  by_cases e : x.f0 = y.f0
  · rw [if_pos e] at h
    have e1 : (x.f0 == y.f0) = true := beq_iff_eq.2 e
    have HS := Lib.hid (fun (W : World) (hb : Below w.heap.size w W) => same1_calls k Ax cx x.f1 Ay cy y.f1 t W (zZ hx hb) hcx (zZ hy hb) hcy h)
    clear hx hy hcx hcy h e
    go_enter Tryd.func53, Tryd.ntmps53
    go_wp2_with (go_at_call 50; refine (HS.out _ (by repeat (first | exact zi _ _ | apply zF))).mono ?_; rintro e w1 ⟨rfl, hb⟩; have HB := zX hb; clear hb)
    go_ret
    exact ⟨rfl, zT (by repeat (first | exact zi _ _ | apply zF)) HB.out⟩
  · rw [if_neg e] at h
    obtain rfl : false = t := zQ h
    have e1 : (x.f0 == y.f0) = false := beq_false_of_ne e
    clear hx hy hcx hcy h e
    go_enter Tryd.func53, Tryd.ntmps53
    go_wp2
    go_ret
    exact ⟨rfl, (by repeat (first | exact zi _ _ | apply zF))⟩
set_option maxHeartbeats 8000000 in
theorem equalH_calls (k : Nat) (A0 : Option Addr) (c0 : Nat) (l0 : List S72) (A1 : Option Addr) (c1 : Nat) (l1 : List S72) (t : Bool) (p : Addr) (w : World) (hr0 : Kd.C k72 w A0 l0.length l0) (hr1 : Kd.C k72 w A1 l1.length l1) (hp : w.cell? p = some (.func (.func 50) #[] #[])) (h : (if l0.length = l1.length then sameH k l0 l1 else some false) = some t) (F : Value) (hF : F = Value.func (.func 53) #[] #[.pointer (some p)]) :
    Calls Tryd.prog 52 #[.slice A0 l0.length c0, .slice A1 l1.length c1, F] w fun e w' => e = .returned (.bool t) ∧ Below w.heap.size w w' := by
  subst hF
  have hm : l0.length ≤ 9223372036854775807 := Kd.C_max hr0
  have hm1 : l1.length ≤ 9223372036854775807 := Kd.C_max hr1
  by_cases hl : l0.length = l1.length
  · rw [if_pos hl] at h
    have hpb := zB w _ hp
    have HP := Lib.hid (fun (W : World) (hb : Below w.heap.size w W) => ((hb.cell hpb).trans hp : W.cell? p = some (.func (.func 50) #[] #[])))
    have HR0 := zX hr0
    have HR1 := zX hr1
    have HH := zX h
    have HLn := Lib.hid hl
    have d1 : ((l0.length : Int) != (l1.length : Int)) = false := by rw [hl]; simp
    have d2 : (l0.length != l1.length) = false := by rw [hl]; simp
    clear hr0 hr1 h hp hpb hl
    go_enter Tryd.func52, Tryd.ntmps52
    go_wp2
    go_loopw [17] (fun si wr => ∃ i : Nat, i ≤ l0.length ∧ si = .int .i64 i ∧ Aside0 (sameH k (l0.drop i) (l1.drop i) = some t) ∧ Aside0 (Below w.heap.size w wr)) (fun si _ => l0.length - (intOf si).toNat)
    case atStart => exact ⟨0, by omega, rfl, ⟨by rw [List.drop_zero, List.drop_zero]; exact HH.out⟩, ⟨zi _ _⟩⟩
    case round =>
      obtain ⟨i, hi, rfl, HS, HB⟩ := hrel
      clear HH
      by_cases hil : i < l0.length
      · have hil1 : i < l1.length := by have := HLn.out; omega
        obtain ⟨x, hx⟩ : ∃ x, l0[i]? = some x := ⟨l0[i], List.getElem?_eq_getElem hil⟩
        obtain ⟨y, hy⟩ : ∃ y, l1[i]? = some y := ⟨l1[i], List.getElem?_eq_getElem hil1⟩
        obtain ⟨ad, Ax, cx, e, x0, x1, lx, gx⟩ := at_T72 (zZ HR0.out HB.out) (i : Int) (by omega) (by omega)
        obtain ⟨ad1, Ay, cy, e1, y0, y1, ly, gy⟩ := at_T72 (zZ HR1.out HB.out) (i : Int) (by omega) (by omega)
        have hrx : rd_T72 l0 (i : Int) = x := by unfold rd_T72; rw [Int.toNat_natCast, List.getD_eq_getElem?_getD, hx]; rfl
        have hry : rd_T72 l1 (i : Int) = y := by unfold rd_T72; rw [Int.toNat_natCast, List.getD_eq_getElem?_getD, hy]; rfl
        rw [hrx] at x0 x1 lx gx
        rw [hry] at y0 y1 ly gy
        simp only [Int.toNat_natCast] at x0 x1 y0 y1
        subst e; subst e1
        have hs := HS.out
        rw [List.drop_eq_getElem_cons hil, List.drop_eq_getElem_cons hil1, show l0[i] = x from zQ ((List.getElem?_eq_getElem hil).symm.trans hx), show l1[i] = y from zQ ((List.getElem?_eq_getElem hil1).symm.trans hy)] at hs
        unfold sameH at hs
        obtain ⟨u, hu, hrest⟩ : ∃ u, (if x.f0 = y.f0 then sameP k x.f1 y.f1 else some false) = some u ∧ (if u = true then sameH k (l0.drop (i + 1)) (l1.drop (i + 1)) else some false) = some t := by
          by_cases e : x.f0 = y.f0
          · rw [if_pos e] at hs ⊢
            exact Option.bind_eq_some_iff.1 hs
          · rw [if_neg e] at hs ⊢
            exact ⟨false, rfl, by rw [if_neg (by simp)]; exact hs⟩
        have HC := Lib.hid (fun (W : World) (hb : Below wr.heap.size wr W) => same2_calls k x y Ax cx Ay cy u p W (zZ gx hb) lx (zZ gy hb) ly (HP.out W (zT HB.out hb)) hu)
        have HRs := Lib.hid hrest
        clear hs HS hrx hry hx hy lx gx ly gy hu hrest
        have lt0 := zB wr _ x0
        have lt1 := zB wr _ y0
        cases u with
        | true =>
          have HR2 := Lib.hid (show sameH k (l0.drop (i + 1)) (l1.drop (i + 1)) = some t by have := HRs.out; rw [if_pos rfl] at this; exact this)
          clear HRs
          go_wp2_with (go_at_call 53; refine (HC.out _ (by repeat (first | exact zi _ _ | apply zF))).mono ?_; rintro e w1 ⟨rfl, hb⟩; have HB1 := zX (zT (zF (zF (zi wr.heap.size wr) _) _) hb); clear hb)
          go_roundw
          case rel => exact ⟨i + 1, by omega, by go_num, ⟨HR2.out⟩, ⟨zT HB.out HB1.out⟩⟩
          case measure => simp [intOf]; omega
        | false =>
          obtain rfl : false = t := by have := HRs.out; rw [if_neg (by simp)] at this; exact zQ this
          go_wp2_with (go_at_call 53; refine (HC.out _ (by repeat (first | exact zi _ _ | apply zF))).mono ?_; rintro e w1 ⟨rfl, hb⟩; have HB1 := zX (zT (zF (zF (zi wr.heap.size wr) _) _) hb); clear hb)
          go_ret
          exact ⟨rfl, zT HB.out HB1.out⟩
      · obtain rfl : i = l0.length := by omega
        have hs := HS.out
        rw [List.drop_length] at hs
        unfold sameH at hs
        obtain rfl : true = t := zQ hs
        clear hs HS
        go_wp2
        go_ret
        exact ⟨rfl, HB.out⟩
  · rw [if_neg hl] at h
    obtain rfl : false = t := zQ h
    have d1 : ((l0.length : Int) != (l1.length : Int)) = true := by rw [bne_iff_ne]; omega
    have d2 : (l0.length != l1.length) = true := by rw [bne_iff_ne]; omega
    clear hr0 hr1 h hp
    go_enter Tryd.func52, Tryd.ntmps52
    go_wp2
    go_ret
    exact ⟨rfl, zi _ _⟩
def model_Same.f (k : Nat) (l0_0 : List S65) (l0_1 : List S72) (l1_0 : List S65) (l1_1 : List S72) : Option Bool :=
  (sameP k l0_0 l1_0).bind fun t => if t = true then (if l0_1.length = l1_1.length then sameH k l0_1 l1_1 else some false) else some false
set_option maxHeartbeats 4000000 in
theorem model_Same.calls (k : Nat) (A0_0 : Option Addr) (c0_0 : Nat) (l0_0 : List S65) (A0_1 : Option Addr) (c0_1 : Nat) (l0_1 : List S72) (A1_0 : Option Addr) (c1_0 : Nat) (l1_0 : List S65) (A1_1 : Option Addr) (c1_1 : Nat) (l1_1 : List S72) (r : Bool) (w : World) (hr0_0 : Kd.C k65 w A0_0 l0_0.length l0_0) (hc0_0 : l0_0.length ≤ c0_0) (hr0_1 : Kd.C k72 w A0_1 l0_1.length l0_1) (hc0_1 : l0_1.length ≤ c0_1) (hr1_0 : Kd.C k65 w A1_0 l1_0.length l1_0) (hc1_0 : l1_0.length ≤ c1_0) (hr1_1 : Kd.C k72 w A1_1 l1_1.length l1_1) (hc1_1 : l1_1.length ≤ c1_1) (h : model_Same.f k l0_0 l0_1 l1_0 l1_1 = some r) :
    Calls Tryd.prog 22 #[.agg #[.slice A0_0 l0_0.length c0_0, .slice A0_1 l0_1.length c0_1], .agg #[.slice A1_0 l1_0.length c1_0, .slice A1_1 l1_1.length c1_1]] w fun e w' => e = .returned (.bool r) ∧ Below w.heap.size w w' := by
  obtain ⟨t, ht, h1⟩ := Option.bind_eq_some_iff.1 h
  have HS := Lib.hid (fun (W : World) (hb : Below w.heap.size w W) => same1_calls k A0_0 c0_0 l0_0 A1_0 c1_0 l1_0 t W (zZ hr0_0 hb) hc0_0 (zZ hr1_0 hb) hc1_0 ht)
  have HE := Lib.hid (fun (W : World) (hb : Below w.heap.size w W) (p : Addr) (hp : W.cell? p = some (.func (.func 50) #[] #[])) (u : Bool) (hu : (if l0_1.length = l1_1.length then sameH k l0_1 l1_1 else some false) = some u) => equalH_calls k A0_1 c0_1 l0_1 A1_1 c1_1 l1_1 u p W (zZ hr0_1 hb) (zZ hr1_1 hb) hp hu _ rfl)
  clear h hr0_0 hr0_1 hr1_0 hr1_1 hc0_0 hc0_1 hc1_0 hc1_1 ht
  cases t with
  | true =>
    rw [if_pos rfl] at h1
    have H1 := Lib.hid h1
    clear h1
    go_enter Tryd.func22, Tryd.ntmps22
    go_wp2_with fail
    refine (HS.out _ (by repeat (first | exact zi _ _ | apply zF))).mono ?_
    rintro e w1 ⟨rfl, hb⟩
    have hB1 : Below w.heap.size w w1 := zT (by repeat (first | exact zi _ _ | apply zF)) hb
    have q0 : w1.cell? ⟨w.heap.size, 1, none⟩ = some (.slice A0_1 l0_1.length c0_1) := (cell_row ((hb.block _ (by simp <;> omega)).trans sheap3_0)).trans rfl
    have q1 : w1.cell? ⟨w.heap.size + 1, 1, none⟩ = some (.slice A1_1 l1_1.length c1_1) := (cell_row ((hb.block _ (by simp <;> omega)).trans sheap3_1)).trans rfl
    have q2 : w1.cell? ⟨w.heap.size + 2, 0, none⟩ = some (.func (.func 50) #[] #[]) := (cell_row ((hb.block _ (by simp <;> omega)).trans sheap3_2)).trans rfl
    have HB := zX hB1
    clear hb hB1
    go_wp2_with fail
    refine (HE.out _ HB.out _ q2 r H1.out).mono ?_
    rintro e w2 ⟨rfl, hb⟩
    have HB2 := zX (zT HB.out hb)
    clear hb
    go_wp2
    go_ret
    exact ⟨rfl, HB2.out⟩
  | false =>
    rw [if_neg (by simp)] at h1
    obtain rfl : false = r := zQ h1
    go_enter Tryd.func22, Tryd.ntmps22
    go_wp2_with fail
    refine (HS.out _ (by repeat (first | exact zi _ _ | apply zF))).mono ?_
    rintro e w1 ⟨rfl, hb⟩
    have HB := zX (show Below w.heap.size w w1 from zT (by repeat (first | exact zi _ _ | apply zF)) hb)
    clear hb
    go_wp2
    go_ret
    exact ⟨rfl, HB.out⟩

/-! ### boscageref31_At: function 23 -/
def boscageref31_At.l0 : Nat → Int → Int → List (S65) → List (S61) → Option ((List (S65)) × Bool)
  | 0, _, _, _, _ => none
  | k + 1, x1, x6, x233000, x233001 => if x6 < (x233001.length : Int) then (if 0 ≤ x6 then (if ((rd_T61 x233001 x6).f0) = x1 then (some ((rd_T61 x233001 x6).f1, true)) else (boscageref31_At.l0 k x1 (wrap64 (x6 + 1)) x233000 x233001)) else (none)) else (some (([] : List (S65)), false))
def boscageref31_At.f (k : Nat) (l0_0 : List (S65)) (l0_1 : List (S61)) (a1 : Int) : Option ((List (S65)) × Bool) := boscageref31_At.l0 k a1 0 l0_0 l0_1
set_option maxHeartbeats 8000000 in
set_option maxRecDepth 100000 in
theorem boscageref31_At.calls (k : Nat) (A0_0 : Option Addr) (c0_0 : Nat) (l0_0 : List (S65)) (P0_1_ : Nat → Prop) (A0_1 : Option Addr) (c0_1 : Nat) (l0_1 : List (S61)) (a1 : Int) (r1 : List (S65)) (r2 : Bool) (w : World) (hr0_0 : Kd.C k65 w A0_0 l0_0.length l0_0) (hc0_0 : l0_0.length ≤ c0_0) (hs0_1 : Kd.V k61 61 w w.heap.size (fun k_ => P0_1_ k_) (.slice A0_1 l0_1.length c0_1) l0_1) (h : boscageref31_At.f k l0_0 l0_1 a1 = some (r1, r2)) :
    Calls Tryd.prog 23 #[.agg #[.slice A0_0 l0_0.length c0_0, .slice A0_1 l0_1.length c0_1], .int .i64 a1] w fun e w' => ∃ v0_ : Value, e = .returned (.tuple #[v0_, .bool r2]) ∧ Kd.V k65 65 w' w.heap.size (fun k_ => (P0_1_ k_ ∨ w.heap.size ≤ k_)) v0_ r1 ∧ Below w.heap.size w w' := by
  have hu27 := Tryd.underlying27
  have HR0_0 := zX hr0_0
  have HC0_0 := zX hc0_0
  clear hr0_0 hc0_0
  have HO0_1 := zX (show Kd.V k61 61 w w.heap.size (fun k_ => (P0_1_ k_ ∨ w.heap.size ≤ k_)) (.slice A0_1 l0_1.length c0_1) l0_1 from Kd.V_mono hs0_1 (fun k_ hk => .inl hk))
  have HB := zX (zi w.heap.size w)
  have H : (boscageref31_At.l0 k a1 0 l0_0 l0_1) = some (r1, r2) := h
  clear h
  have H' := zX H
  clear H
  go_enter Tryd.func23, Tryd.ntmps23
  go_wp2_with (first | ((with_reducible refine gate_dst (N := 2) rfl ?_); refine box_event ?hg (N := 2) ?hd (cs := #[.slice A0_0 l0_0.length c0_0, .slice A0_1 l0_1.length c0_1]) (t := 27) ?hr ?_; (case hd => rfl); (case hg => rfl); (case hr => first | (go_simp; done) | (go_simp; rfl)); intro gb232 hg w3 hbox hb; have n0_ := zX (Kd.V_below (Kd.V_elderB (by (with_reducible repeat (first | apply zb | apply zc | apply zd)); exact HO0_1.out) gb232 (Nat.le_of_eq hg.symm)) hb); have n1_ := zX (zT (by repeat (first | (with_reducible first | exact HB.out | apply zF | apply zE | apply zG) | exact HB.out)) hb); have n2_ := zX (hbox); have n3_ := zX ((by rw [hg]; exact (zY (by repeat (first | (with_reducible first | exact HB.out | apply zF | apply zE | apply zG) | exact HB.out))) : w.heap.size ≤ gb232)); have n4_ := zX ((by rw [hg]; exact (zY (by repeat (first | (with_reducible first | exact HB.out | apply zF | apply zE | apply zG) | exact HB.out))) : w.heap.size ≤ gb232)); clear HO0_1; clear HB; have HO0_1 := n0_; have HB := n1_; have BK232 := n2_; have GW232 := n3_; have GE232 := n4_; clear n0_ n1_ n2_ n3_ n4_; clear hb hbox hg))
  go_loopg [6] k (fun kq v6 w' => ∃ (x6_1 : Int), v6 = .int .i64 x6_1 ∧ Aside0 (boscageref31_At.l0 kq a1 x6_1 l0_0 l0_1 = some (r1, r2)) ∧ Aside0 (kq ≤ k) ∧ Aside0 (Kd.V k61 61 w' w.heap.size (fun k_ => (P0_1_ k_ ∨ w.heap.size ≤ k_) ∧ k_ ≠ gb232) (.slice A0_1 l0_1.length c0_1) l0_1) ∧ Aside0 (w'.heap[gb232]? = some (.cells #[(.slice A0_0 l0_0.length c0_0), (.slice A0_1 l0_1.length c0_1)] 27 (0, 0))) ∧ Aside0 (Below w.heap.size w w'))
  case atStart => exact ⟨(0), (by first | rfl | (simp; done) | (simp [*]; done)), H', ⟨Nat.le_refl _⟩, ⟨by (with_reducible repeat (first | apply zb | apply zc | apply zd)); exact HO0_1.out⟩, ⟨by (with_reducible repeat (first | refine zL ?_ _ | refine zM ?_ | refine zJ ?_ _)); exact BK232.out⟩, ⟨by repeat (first | (with_reducible first | exact HB.out | apply zF | apply zE | apply zG | refine zK ?_ GE232.out) | exact HB.out)⟩⟩
  case round =>
    clear H'
    try clear c2
    try clear p2
    obtain ⟨x6_1, rfl, HA, HK1, HO_233001, BK232, HB⟩ := hrel
    cases gk with
    | zero => exact absurd HA.out (by simp [boscageref31_At.l0])
    | succ k1 =>
      have H := HA.out
      clear HA
      simp only [boscageref31_At.l0] at H
      by_cases c4 : x6_1 < (l0_1.length : Int)
      · rw [if_pos c4] at H
        have c4b0 : decide (x6_1 < (l0_1.length : Int)) = true := zW c4
        clear c4
        by_cases c5 : 0 ≤ x6_1
        · rw [if_pos c5] at H
          have c5b0 : decide (0 ≤ x6_1) = true := zW c5
          clear c5
          by_cases c6 : ((rd_T61 l0_1 x6_1).f0) = a1
          · rw [if_pos c6] at H
            have c6b0 : (((rd_T61 l0_1 x6_1).f0) == a1) = true := beq_iff_eq.mpr c6
            have c6b1 : (((rd_T61 l0_1 x6_1).f0) != a1) = false := bne_eq_false_iff_eq.mpr c6
            clear c6
            simp only [Option.some.injEq, Prod.mk.injEq] at H
            obtain ⟨rfl, rfl⟩ := H
            have hcz7_0 : wr.cell? ⟨gb232, 0, none⟩ = some (.slice A0_0 l0_0.length c0_0) := (zH BK232.out 0).trans rfl
            have hcz7_1 : wr.cell? ⟨gb232, 1, none⟩ = some (.slice A0_1 l0_1.length c0_1) := (zH BK232.out 1).trans rfl
            have hfz7_0 := zI BK232.out 0
            have hfz7_1 := zI BK232.out 1
            have p233 : 0 ≤ (x6_1 : Int) := zP (by first | (with_reducible assumption) | assumption)
            have q233 : x6_1 < (l0_1.length : Int) := zP (by first | (with_reducible assumption) | assumption)
            obtain ⟨ad233, A233_1, c233_1, e233, hx233_0, hx233_1, hl233_1, hi233_1⟩ := at_T61 (Kd.V_reads' HO_233001.out).2.2 x6_1 p233 q233
            cases e233
            obtain ⟨ce233, hce233, hMe233, hcc233⟩ := Kd.V_get HO_233001.out z61 x6_1 p233 (by first | exact q233 | exact zP (by first | (with_reducible assumption) | assumption) | (have e_ := (Kd.V_reads' HO_233001.out).1; omega))
            obtain ⟨ua233_1, uc233_1, rfl, ul233_1, ge233_1⟩ := k61_openF hMe233
            have hv233_1 := hcc233 1 _ rfl
            rw [add_field _ _ 1 (by omega)] at hv233_1
            replace hv233_1 := zQ (hv233_1.symm.trans hx233_1)
            injection hv233_1 with hva_ hvn_ hvc_
            rw [hva_] at ge233_1
            rw [hvc_] at ul233_1
            have HL233_1 := zX (show Kd.V k65 65 _ w.heap.size _ _ ((rd_T61 l0_1 x6_1).f1) from Kd.V_mk ul233_1 ge233_1)
            clear hva_ hvn_ hvc_ ge233_1 ul233_1
            clear hcc233 hce233
            have HR233_1 := zX hi233_1
            have HC233_1 := zX hl233_1
            clear hi233_1 hl233_1
            replace p233 := eq_true p233
            replace q233 := eq_true q233
            have p234 : 0 ≤ (x6_1 : Int) := zP (by first | (with_reducible assumption) | assumption)
            have q234 : x6_1 < (l0_1.length : Int) := zP (by first | (with_reducible assumption) | assumption)
            obtain ⟨ad234, A234_1, c234_1, e234, hx234_0, hx234_1, hl234_1, hi234_1⟩ := at_T61 (Kd.V_reads' HO_233001.out).2.2 x6_1 p234 q234
            obtain rfl : ad233 = ad234 := (by injection e234)
            obtain ⟨ce234, hce234, hMe234, hcc234⟩ := Kd.V_get HO_233001.out z61 x6_1 p234 (by first | exact q234 | exact zP (by first | (with_reducible assumption) | assumption) | (have e_ := (Kd.V_reads' HO_233001.out).1; omega))
            obtain ⟨ua234_1, uc234_1, rfl, ul234_1, ge234_1⟩ := k61_openF hMe234
            have hv234_1 := hcc234 1 _ rfl
            rw [add_field _ _ 1 (by omega)] at hv234_1
            replace hv234_1 := zQ (hv234_1.symm.trans hx234_1)
            injection hv234_1 with hva_ hvn_ hvc_
            rw [hva_] at ge234_1
            rw [hvc_] at ul234_1
            have HL234_1 := zX (show Kd.V k65 65 _ w.heap.size _ _ ((rd_T61 l0_1 x6_1).f1) from Kd.V_mk ul234_1 ge234_1)
            clear hva_ hvn_ hvc_ ge234_1 ul234_1
            clear hcc234 hce234
            have HR234_1 := zX hi234_1
            have HC234_1 := zX hl234_1
            clear hi234_1 hl234_1
            replace p234 := eq_true p234
            replace q234 := eq_true q234
            have ea_ := zQ (hx233_1.symm.trans hx234_1)
            injection ea_ with ea_ en_ ec_
            subst ea_
            subst ec_
            clear en_
            go_wp2
            go_ret2
            exact ⟨_, by first | rfl | (simp [errW_none, errW_some] <;> rfl) | (simp [*, errW_none, errW_some] <;> rfl), by (with_reducible repeat (first | apply zb | apply zc | apply zd)); exact Kd.V_mono HL234_1.out (fun _ hk => hk.1), by repeat (first | (with_reducible first | exact HB.out | apply zF | apply zE | apply zG | refine zK ?_ GE232.out) | exact HB.out)⟩
          · rw [if_neg c6] at H
            have c6b0 : (((rd_T61 l0_1 x6_1).f0) == a1) = false := beq_eq_false_iff_ne.mpr c6
            have c6b1 : (((rd_T61 l0_1 x6_1).f0) != a1) = true := bne_iff_ne.mpr c6
            have H' := zX H
            clear H
            have hcz8_0 : wr.cell? ⟨gb232, 0, none⟩ = some (.slice A0_0 l0_0.length c0_0) := (zH BK232.out 0).trans rfl
            have hcz8_1 : wr.cell? ⟨gb232, 1, none⟩ = some (.slice A0_1 l0_1.length c0_1) := (zH BK232.out 1).trans rfl
            have hfz8_0 := zI BK232.out 0
            have hfz8_1 := zI BK232.out 1
            have p233 : 0 ≤ (x6_1 : Int) := zP (by first | (with_reducible assumption) | assumption)
            have q233 : x6_1 < (l0_1.length : Int) := zP (by first | (with_reducible assumption) | assumption)
            obtain ⟨ad233, A233_1, c233_1, e233, hx233_0, hx233_1, hl233_1, hi233_1⟩ := at_T61 (Kd.V_reads' HO_233001.out).2.2 x6_1 p233 q233
            cases e233
            obtain ⟨ce233, hce233, hMe233, hcc233⟩ := Kd.V_get HO_233001.out z61 x6_1 p233 (by first | exact q233 | exact zP (by first | (with_reducible assumption) | assumption) | (have e_ := (Kd.V_reads' HO_233001.out).1; omega))
            obtain ⟨ua233_1, uc233_1, rfl, ul233_1, ge233_1⟩ := k61_openF hMe233
            have hv233_1 := hcc233 1 _ rfl
            rw [add_field _ _ 1 (by omega)] at hv233_1
            replace hv233_1 := zQ (hv233_1.symm.trans hx233_1)
            injection hv233_1 with hva_ hvn_ hvc_
            rw [hva_] at ge233_1
            rw [hvc_] at ul233_1
            have HL233_1 := zX (show Kd.V k65 65 _ w.heap.size _ _ ((rd_T61 l0_1 x6_1).f1) from Kd.V_mk ul233_1 ge233_1)
            clear hva_ hvn_ hvc_ ge233_1 ul233_1
            clear hcc233 hce233
            have HR233_1 := zX hi233_1
            have HC233_1 := zX hl233_1
            clear hi233_1 hl233_1
            replace p233 := eq_true p233
            replace q233 := eq_true q233
            go_wp2
            go_roundg k1
            case measure => have := HK1.out; omega
            case rel => exact ⟨(wrap64 (x6_1 + 1)), (by first | rfl | (simp; done) | (simp [*]; done)), H', ⟨by have := HK1.out; omega⟩, ⟨by (with_reducible repeat (first | apply zb | apply zc | apply zd)); exact HO_233001.out⟩, ⟨by (with_reducible repeat (first | refine zL ?_ _ | refine zM ?_ | refine zJ ?_ _)); exact BK232.out⟩, ⟨by repeat (first | (with_reducible first | exact HB.out | apply zF | apply zE | apply zG | refine zK ?_ GE232.out) | exact HB.out)⟩⟩
        · rw [if_neg c5] at H
          exact absurd H (by simp)
      · rw [if_neg c4] at H
        have c4b0 : decide (x6_1 < (l0_1.length : Int)) = false := decide_eq_false c4
        clear c4
        simp only [Option.some.injEq, Prod.mk.injEq] at H
        obtain ⟨rfl, rfl⟩ := H
        have hcz9_0 : wr.cell? ⟨gb232, 0, none⟩ = some (.slice A0_0 l0_0.length c0_0) := (zH BK232.out 0).trans rfl
        have hcz9_1 : wr.cell? ⟨gb232, 1, none⟩ = some (.slice A0_1 l0_1.length c0_1) := (zH BK232.out 1).trans rfl
        have hfz9_0 := zI BK232.out 0
        have hfz9_1 := zI BK232.out 1
        go_wp2
        go_ret2
        exact ⟨_, by first | rfl | (simp [errW_none, errW_some] <;> rfl) | (simp [*, errW_none, errW_some] <;> rfl), Kd.V_nil _ _ _ _ _, by repeat (first | (with_reducible first | exact HB.out | apply zF | apply zE | apply zG | refine zK ?_ GE232.out) | exact HB.out)⟩

end Go.Proofs.YthnococjdeafhaaDoor.PModelKeeps
