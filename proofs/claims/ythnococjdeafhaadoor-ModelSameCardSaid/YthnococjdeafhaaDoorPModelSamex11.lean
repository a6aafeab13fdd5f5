-- printed by a program of the session (wip/hyb/mkprint.py)
import Derived.Test.YthnococjdeafhaaDoorPModelSamex0
import Derived.Test.YthnococjdeafhaaDoorPModelSamex9
import Derived.Test.YthnococjdeafhaaDoorPModelSamex10
namespace Go.Proofs.YthnococjdeafhaaDoor.PModelSame
open Go.RowKit Go.Proofs.YthnococjdeafhaaDoorW.PrintWords Go.Proofs.YthnococjdeafhaaDoorW.PrintLast Go.Proofs.YthnococjdeafhaaDoorW.PrintMore
attribute [local go_sem] max2_int min2_int max_two min_two max_three min_three max_four min_four   -- for this text's walks alone
set_option linter.unusedVariables false
set_option linter.unusedSimpArgs false

/-! ### model_Same: function 22 -/
-- FULL boscage/model.Same
-- NEEDS boscage/pair.Make slices.Equal[[]boscage/api.Pair,boscage/api.Pair]
-- KIND rounds=1 making=1
/-- Whether bindings are the same, put in order (k: rounds). -/
def sameP (k : Nat) (a b : List S65) : Option Bool := (pair_Make.f k a).bind fun x => (pair_Make.f k b).bind fun y => api_Pair.f k x y
def sameH (k : Nat) : List S72 → List S72 → Option Bool
  | x :: xs, y :: ys => if x.f0 = y.f0 then (sameP k x.f1 y.f1).bind fun t => if t = true then sameH k xs ys else some false else some false
  | _, _ => some true
theorem sameP_mono (k : Nat) (a b : List S65) : LeO (sameP k a b) (sameP (k + 1) a b) :=
  LeO.bind (pair_Make.mono _ k) (fun _ => LeO.bind (pair_Make.mono _ k) (fun _ => api_Pair.mono _ _ k))
theorem sameH_mono (k : Nat) : ∀ a b : List S72, LeO (sameH k a b) (sameH (k + 1) a b)
  | [], _ => by unfold sameH; exact LeO.refl _
  | _ :: _, [] => by unfold sameH; exact LeO.refl _
  | x :: xs, y :: ys => by
    unfold sameH
    exact LeO.ite (LeO.bind (sameP_mono k _ _) (fun t => LeO.ite (sameH_mono k xs ys) (LeO.refl _))) (LeO.refl _)
theorem sheap3_0 {w : World} {a b c : Obj} : (((w.alloc a).alloc b).alloc c).heap[w.heap.size]? = some a := by
  show (((w.heap.push a).push b).push c)[w.heap.size]? = _
  rw [Array.getElem?_push_lt (by simp; omega), Array.getElem_push_lt (by simp), Array.getElem_push_eq]
theorem sheap3_1 {w : World} {a b c : Obj} : (((w.alloc a).alloc b).alloc c).heap[w.heap.size + 1]? = some b := by
  show (((w.heap.push a).push b).push c)[w.heap.size + 1]? = _
  have := Array.getElem?_push_size (xs := w.heap.push a) (x := b)
  rw [show (w.heap.push a).size = w.heap.size + 1 by simp] at this
  rw [Array.getElem?_push_lt (by simp), ← Array.getElem?_eq_getElem (by simp)]
  exact this
theorem sheap3_2 {w : World} {a b c : Obj} : (((w.alloc a).alloc b).alloc c).heap[w.heap.size + 2]? = some c := by
  show (((w.heap.push a).push b).push c)[w.heap.size + 2]? = _
  have := Array.getElem?_push_size (xs := (w.heap.push a).push b) (x := c)
  rwa [show ((w.heap.push a).push b).size = w.heap.size + 2 by simp] at this
set_option maxHeartbeats 4000000 in
/-- The closure same. -/
theorem same1_calls (k : Nat) (A0 : Option Addr) (c0 : Nat) (l0 : List S65) (A1 : Option Addr) (c1 : Nat) (l1 : List S65) (t : Bool) (w : World) (hr0 : Kd.C k65 w A0 l0.length l0) (hc0 : l0.length ≤ c0) (hr1 : Kd.C k65 w A1 l1.length l1) (hc1 : l1.length ≤ c1) (h : sameP k l0 l1 = some t) :
    Calls Tryd.prog 50 #[.slice A0 l0.length c0, .slice A1 l1.length c1] w fun e w' => e = .returned (.bool t) ∧ Below w.heap.size w w' := by
  obtain ⟨x, hx, h1⟩ := Option.bind_eq_some_iff.1 h
  obtain ⟨y, hy, h2⟩ := Option.bind_eq_some_iff.1 h1
  have H0 := Lib.hid (fun (W : World) (hb : Below w.heap.size w W) => pair_Make.calls k A0 c0 l0 x W (Kd.C_below hr0 hb) hc0 hx)
  have H1 := Lib.hid (fun (W : World) (hb : Below w.heap.size w W) => pair_Make.calls k A1 c1 l1 y W (Kd.C_below hr1 hb) hc1 hy)
  have HE := Lib.hid h2
  clear hr0 hr1 hc0 hc1 h h1 h2 hx hy
  go_enter Tryd.func50, Tryd.ntmps50
  go_wp2_with fail
  refine (H0.out _ (by repeat (first | exact Below.refl _ _ | apply below_alloc))).mono ?_
  rintro e w1 ⟨v, rfl, hR, hb⟩
  obtain ⟨Ax, cx, rfl, hcx, hCx⟩ := Kd.R_reads hR
  have HX := Aside0.mk hCx
  have HCX := Aside0.mk hcx
  have HB := Aside0.mk hb
  clear hR hb hCx hcx
  go_wp2_with fail
  refine (H1.out _ HB.out).mono ?_
  rintro e w2 ⟨v, rfl, hR, hb⟩
  obtain ⟨Ay, cy, rfl, hcy, hCy⟩ := Kd.R_reads hR
  have HY := Aside0.mk hCy
  have HCY := Aside0.mk hcy
  have HX2 := Aside0.mk (Kd.C_below HX.out hb)
  have HB2 := Aside0.mk (below_step HB.out hb)
  clear hR hb hCy hcy
  go_wp2_with fail
  refine (api_Pair.calls k Ax cx x Ay cy y t _ HX2.out HCX.out HY.out HCY.out HE.out).mono ?_
  rintro e w3 ⟨rfl, hd⟩
  have HB3 := Aside0.mk (below_step HB2.out hd.below)
  clear hd
  go_wp2
  go_ret
  exact ⟨rfl, HB3.out⟩
set_option maxHeartbeats 4000000 in
/-- The closure that compares what is held. -/
theorem same2_calls (k : Nat) (x y : S72) (Ax : Option Addr) (cx : Nat) (Ay : Option Addr) (cy : Nat) (t : Bool) (p : Addr) (w : World) (hx : Kd.C k65 w Ax x.f1.length x.f1) (hcx : x.f1.length ≤ cx) (hy : Kd.C k65 w Ay y.f1.length y.f1) (hcy : y.f1.length ≤ cy) (hp : w.cell? p = some (.func (.func 50) #[] #[])) (h : (if x.f0 = y.f0 then sameP k x.f1 y.f1 else some false) = some t) :
    Calls Tryd.prog 53 #[.agg #[.int .i64 x.f0, .slice Ax x.f1.length cx], .agg #[.int .i64 y.f0, .slice Ay y.f1.length cy], .pointer (some p)] w fun e w' => e = .returned (.bool t) ∧ Below w.heap.size w w' := by
  have hpb := World.block_lt_of_cell? w _ hp
  have m1 : ¬ p.block = w.heap.size := by omega
  have m2 : ¬ p.block = w.heap.size + 1 := by omega
  by_cases e : x.f0 = y.f0
  · rw [if_pos e] at h
    have e1 : (x.f0 == y.f0) = true := beq_iff_eq.2 e
    have HS := Lib.hid (fun (W : World) (hb : Below w.heap.size w W) => same1_calls k Ax cx x.f1 Ay cy y.f1 t W (Kd.C_below hx hb) hcx (Kd.C_below hy hb) hcy h)
    clear hx hy hcx hcy h e
    go_enter Tryd.func53, Tryd.ntmps53
    go_wp2_with (go_at_call 50; refine (HS.out _ (by repeat (first | exact Below.refl _ _ | apply below_alloc))).mono ?_; rintro e w1 ⟨rfl, hb⟩; have HB := Aside0.mk hb; clear hb)
    go_ret
    exact ⟨rfl, below_step (by repeat (first | exact Below.refl _ _ | apply below_alloc)) HB.out⟩
  · rw [if_neg e] at h
    obtain rfl : false = t := Option.some.inj h
    have e1 : (x.f0 == y.f0) = false := beq_false_of_ne e
    clear hx hy hcx hcy h e
    go_enter Tryd.func53, Tryd.ntmps53
    go_wp2
    go_ret
    exact ⟨rfl, (by repeat (first | exact Below.refl _ _ | apply below_alloc))⟩
set_option maxHeartbeats 8000000 in
theorem equalH_calls (k : Nat) (A0 : Option Addr) (c0 : Nat) (l0 : List S72) (A1 : Option Addr) (c1 : Nat) (l1 : List S72) (t : Bool) (p : Addr) (w : World) (hr0 : Kd.C k72 w A0 l0.length l0) (hr1 : Kd.C k72 w A1 l1.length l1) (hp : w.cell? p = some (.func (.func 50) #[] #[])) (h : (if l0.length = l1.length then sameH k l0 l1 else some false) = some t) (F : Value) (hF : F = Value.func (.func 53) #[] #[.pointer (some p)]) :
    Calls Tryd.prog 52 #[.slice A0 l0.length c0, .slice A1 l1.length c1, F] w fun e w' => e = .returned (.bool t) ∧ Below w.heap.size w w' := by
  subst hF
  have hm : l0.length ≤ 9223372036854775807 := Kd.C_max hr0
  have hm1 : l1.length ≤ 9223372036854775807 := Kd.C_max hr1
  by_cases hl : l0.length = l1.length
  · rw [if_pos hl] at h
    have hpb := World.block_lt_of_cell? w _ hp
    have HP := Lib.hid (fun (W : World) (hb : Below w.heap.size w W) => ((hb.cell hpb).trans hp : W.cell? p = some (.func (.func 50) #[] #[])))
    have HR0 := Aside0.mk hr0
    have HR1 := Aside0.mk hr1
    have HH := Aside0.mk h
    have HLn := Lib.hid hl
    have d1 : ((l0.length : Int) != (l1.length : Int)) = false := by rw [hl]; simp
    have d2 : (l0.length != l1.length) = false := by rw [hl]; simp
    clear hr0 hr1 h hp hpb hl
    go_enter Tryd.func52, Tryd.ntmps52
    go_wp2
    go_loopw [17] (fun si wr => ∃ i : Nat, i ≤ l0.length ∧ si = .int .i64 i ∧ Aside0 (sameH k (l0.drop i) (l1.drop i) = some t) ∧ Aside0 (Below w.heap.size w wr)) (fun si _ => l0.length - (intOf si).toNat)
    case atStart => exact ⟨0, by omega, rfl, ⟨by rw [List.drop_zero, List.drop_zero]; exact HH.out⟩, ⟨Below.refl _ _⟩⟩
    case round =>
      obtain ⟨i, hi, rfl, HS, HB⟩ := hrel
      clear HH
      by_cases hil : i < l0.length
      · have hil1 : i < l1.length := by have := HLn.out; omega
        obtain ⟨x, hx⟩ : ∃ x, l0[i]? = some x := ⟨l0[i], List.getElem?_eq_getElem hil⟩
        obtain ⟨y, hy⟩ : ∃ y, l1[i]? = some y := ⟨l1[i], List.getElem?_eq_getElem hil1⟩
        obtain ⟨ad, Ax, cx, e, x0, x1, lx, gx⟩ := at_T72 (Kd.C_below HR0.out HB.out) (i : Int) (by omega) (by omega)
        obtain ⟨ad1, Ay, cy, e1, y0, y1, ly, gy⟩ := at_T72 (Kd.C_below HR1.out HB.out) (i : Int) (by omega) (by omega)
        have hrx : rd_T72 l0 (i : Int) = x := by unfold rd_T72; rw [Int.toNat_natCast, List.getD_eq_getElem?_getD, hx]; rfl
        have hry : rd_T72 l1 (i : Int) = y := by unfold rd_T72; rw [Int.toNat_natCast, List.getD_eq_getElem?_getD, hy]; rfl
        rw [hrx] at x0 x1 lx gx
        rw [hry] at y0 y1 ly gy
        simp only [Int.toNat_natCast] at x0 x1 y0 y1
        subst e; subst e1
        have hs := HS.out
        rw [List.drop_eq_getElem_cons hil, List.drop_eq_getElem_cons hil1, show l0[i] = x from Option.some.inj ((List.getElem?_eq_getElem hil).symm.trans hx), show l1[i] = y from Option.some.inj ((List.getElem?_eq_getElem hil1).symm.trans hy)] at hs
        unfold sameH at hs
        obtain ⟨u, hu, hrest⟩ : ∃ u, (if x.f0 = y.f0 then sameP k x.f1 y.f1 else some false) = some u ∧ (if u = true then sameH k (l0.drop (i + 1)) (l1.drop (i + 1)) else some false) = some t := by
          by_cases e : x.f0 = y.f0
          · rw [if_pos e] at hs ⊢
            exact Option.bind_eq_some_iff.1 hs
          · rw [if_neg e] at hs ⊢
            exact ⟨false, rfl, by rw [if_neg (by simp)]; exact hs⟩
        have HC := Lib.hid (fun (W : World) (hb : Below wr.heap.size wr W) => same2_calls k x y Ax cx Ay cy u p W (Kd.C_below gx hb) lx (Kd.C_below gy hb) ly (HP.out W (below_step HB.out hb)) hu)
        have HRs := Lib.hid hrest
        clear hs HS hrx hry hx hy lx gx ly gy hu hrest
        have lt0 := World.block_lt_of_cell? wr _ x0
        have lt1 := World.block_lt_of_cell? wr _ y0
        cases u with
        | true =>
          have HR2 := Lib.hid (show sameH k (l0.drop (i + 1)) (l1.drop (i + 1)) = some t by have := HRs.out; rw [if_pos rfl] at this; exact this)
          clear HRs
          go_wp2_with (go_at_call 53; refine (HC.out _ (by repeat (first | exact Below.refl _ _ | apply below_alloc))).mono ?_; rintro e w1 ⟨rfl, hb⟩; have HB1 := Aside0.mk (below_step (below_alloc (below_alloc (Below.refl wr.heap.size wr) _) _) hb); clear hb)
          go_roundw
          case rel => exact ⟨i + 1, by omega, by go_num, ⟨HR2.out⟩, ⟨below_step HB.out HB1.out⟩⟩
          case measure => simp [intOf]; omega
        | false =>
          obtain rfl : false = t := by have := HRs.out; rw [if_neg (by simp)] at this; exact Option.some.inj this
          go_wp2_with (go_at_call 53; refine (HC.out _ (by repeat (first | exact Below.refl _ _ | apply below_alloc))).mono ?_; rintro e w1 ⟨rfl, hb⟩; have HB1 := Aside0.mk (below_step (below_alloc (below_alloc (Below.refl wr.heap.size wr) _) _) hb); clear hb)
          go_ret
          exact ⟨rfl, below_step HB.out HB1.out⟩
      · obtain rfl : i = l0.length := by omega
        have hs := HS.out
        rw [List.drop_length] at hs
        unfold sameH at hs
        obtain rfl : true = t := Option.some.inj hs
        clear hs HS
        go_wp2
        go_ret
        exact ⟨rfl, HB.out⟩
  · rw [if_neg hl] at h
    obtain rfl : false = t := Option.some.inj h
    have d1 : ((l0.length : Int) != (l1.length : Int)) = true := by rw [bne_iff_ne]; omega
    have d2 : (l0.length != l1.length) = true := by rw [bne_iff_ne]; omega
    clear hr0 hr1 h hp
    go_enter Tryd.func52, Tryd.ntmps52
    go_wp2
    go_ret
    exact ⟨rfl, Below.refl _ _⟩
def model_Same.f (k : Nat) (l0_0 : List S65) (l0_1 : List S72) (l1_0 : List S65) (l1_1 : List S72) : Option Bool :=
  (sameP k l0_0 l1_0).bind fun t => if t = true then (if l0_1.length = l1_1.length then sameH k l0_1 l1_1 else some false) else some false
theorem model_Same.mono : ∀ a0 a1 a2 a3 k, LeO (model_Same.f k a0 a1 a2 a3) (model_Same.f (k + 1) a0 a1 a2 a3) := by
  intro a0 a1 a2 a3 k
  exact LeO.bind (sameP_mono k _ _) (fun t => LeO.ite (LeO.ite (sameH_mono k _ _) (LeO.refl _)) (LeO.refl _))
set_option maxHeartbeats 4000000 in
theorem model_Same.calls (k : Nat) (A0_0 : Option Addr) (c0_0 : Nat) (l0_0 : List S65) (A0_1 : Option Addr) (c0_1 : Nat) (l0_1 : List S72) (A1_0 : Option Addr) (c1_0 : Nat) (l1_0 : List S65) (A1_1 : Option Addr) (c1_1 : Nat) (l1_1 : List S72) (r : Bool) (w : World) (hr0_0 : Kd.C k65 w A0_0 l0_0.length l0_0) (hc0_0 : l0_0.length ≤ c0_0) (hr0_1 : Kd.C k72 w A0_1 l0_1.length l0_1) (hc0_1 : l0_1.length ≤ c0_1) (hr1_0 : Kd.C k65 w A1_0 l1_0.length l1_0) (hc1_0 : l1_0.length ≤ c1_0) (hr1_1 : Kd.C k72 w A1_1 l1_1.length l1_1) (hc1_1 : l1_1.length ≤ c1_1) (h : model_Same.f k l0_0 l0_1 l1_0 l1_1 = some r) :
    Calls Tryd.prog 22 #[.agg #[.slice A0_0 l0_0.length c0_0, .slice A0_1 l0_1.length c0_1], .agg #[.slice A1_0 l1_0.length c1_0, .slice A1_1 l1_1.length c1_1]] w fun e w' => e = .returned (.bool r) ∧ Below w.heap.size w w' := by
  obtain ⟨t, ht, h1⟩ := Option.bind_eq_some_iff.1 h
  have HS := Lib.hid (fun (W : World) (hb : Below w.heap.size w W) => same1_calls k A0_0 c0_0 l0_0 A1_0 c1_0 l1_0 t W (Kd.C_below hr0_0 hb) hc0_0 (Kd.C_below hr1_0 hb) hc1_0 ht)
  have HE := Lib.hid (fun (W : World) (hb : Below w.heap.size w W) (p : Addr) (hp : W.cell? p = some (.func (.func 50) #[] #[])) (u : Bool) (hu : (if l0_1.length = l1_1.length then sameH k l0_1 l1_1 else some false) = some u) => equalH_calls k A0_1 c0_1 l0_1 A1_1 c1_1 l1_1 u p W (Kd.C_below hr0_1 hb) (Kd.C_below hr1_1 hb) hp hu _ rfl)
  clear h hr0_0 hr0_1 hr1_0 hr1_1 hc0_0 hc0_1 hc1_0 hc1_1 ht
  cases t with
  | true =>
    rw [if_pos rfl] at h1
    have H1 := Lib.hid h1
    clear h1
    go_enter Tryd.func22, Tryd.ntmps22
    go_wp2_with fail
    refine (HS.out _ (by repeat (first | exact Below.refl _ _ | apply below_alloc))).mono ?_
    rintro e w1 ⟨rfl, hb⟩
    have hB1 : Below w.heap.size w w1 := below_step (by repeat (first | exact Below.refl _ _ | apply below_alloc)) hb
    have q0 : w1.cell? ⟨w.heap.size, 1, none⟩ = some (.slice A0_1 l0_1.length c0_1) := (cell_row ((hb.block _ (by simp <;> omega)).trans sheap3_0)).trans rfl
    have q1 : w1.cell? ⟨w.heap.size + 1, 1, none⟩ = some (.slice A1_1 l1_1.length c1_1) := (cell_row ((hb.block _ (by simp <;> omega)).trans sheap3_1)).trans rfl
    have q2 : w1.cell? ⟨w.heap.size + 2, 0, none⟩ = some (.func (.func 50) #[] #[]) := (cell_row ((hb.block _ (by simp <;> omega)).trans sheap3_2)).trans rfl
    have HB := Aside0.mk hB1
    clear hb hB1
    go_wp2_with fail
    refine (HE.out _ HB.out _ q2 r H1.out).mono ?_
    rintro e w2 ⟨rfl, hb⟩
    have HB2 := Aside0.mk (below_step HB.out hb)
    clear hb
    go_wp2
    go_ret
    exact ⟨rfl, HB2.out⟩
  | false =>
    rw [if_neg (by simp)] at h1
    obtain rfl : false = r := Option.some.inj h1
    go_enter Tryd.func22, Tryd.ntmps22
    go_wp2_with fail
    refine (HS.out _ (by repeat (first | exact Below.refl _ _ | apply below_alloc))).mono ?_
    rintro e w1 ⟨rfl, hb⟩
    have HB := Aside0.mk (show Below w.heap.size w w1 from below_step (by repeat (first | exact Below.refl _ _ | apply below_alloc)) hb)
    clear hb
    go_wp2
    go_ret
    exact ⟨rfl, HB.out⟩

end Go.Proofs.YthnococjdeafhaaDoor.PModelSame
