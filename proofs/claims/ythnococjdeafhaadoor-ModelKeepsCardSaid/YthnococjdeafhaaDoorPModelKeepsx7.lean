-- printed by a program of the session (wip/hyb/mkprint.py)
import Derived.Test.YthnococjdeafhaaDoorPModelKeepsx0
import Derived.Test.YthnococjdeafhaaDoorPModelKeepsx5
import Derived.Test.YthnococjdeafhaaDoorPModelKeepsx6
namespace Go.Proofs.YthnococjdeafhaaDoor.PModelKeeps
open Go.RowKit Go.Proofs.YthnococjdeafhaaDoorW.PrintWords Go.Proofs.YthnococjdeafhaaDoorW.PrintLast Go.Proofs.YthnococjdeafhaaDoorW.PrintMore
attribute [local go_sem] max2_int min2_int max_two min_two max_three min_three max_four min_four   -- for this text's walks alone
set_option linter.unusedVariables false
set_option linter.unusedSimpArgs false

/-! ### call_Fits: function 55 -/
mutual
def call_Fits.j0 : Nat → Bool → Int → ByteArray → ByteArray → ByteArray → Int → Option (Int)
  | 0, _, _, _, _, _, _ => none
  | k + 1, x13, x158000, x158001, x158002, x158003, x158004 => if x13 = true then (some 2) else (if (x158001.size : Int) > 16 then (call_Fits.j1 k true x158000 x158001 x158002 x158003 x158004) else (if (x158002.size : Int) > 16 then (call_Fits.j1 k true x158000 x158001 x158002 x158003 x158004) else (call_Fits.j1 k (decide ((x158003.size : Int) > 16)) x158000 x158001 x158002 x158003 x158004)))
def call_Fits.j1 : Nat → Bool → Int → ByteArray → ByteArray → ByteArray → Int → Option (Int)
  | 0, _, _, _, _, _, _ => none
  | k + 1, x22, x158000, x158001, x158002, x158003, x158004 => if x22 = true then (some 6) else (if x158004 < 0 then (some 10) else (some 0))
end
def call_Fits.f (k : Nat) (a0_0 : Int) (a0_1 : Int) (a0_2 : Int) (a0_3 : Int) (a0_4 : Int) (a1_0 : Int) (a1_1 : ByteArray) (a1_2 : ByteArray) (a1_3 : ByteArray) (a1_4 : Int) : Option (Int) := (call_Plain.f a1_0 a1_1 a1_2 a1_3 a1_4).bind fun bt152 => ((call_is.f a1_0).bind fun t158 => (if t158 = true then (if a1_0 = 6 then (call_Fits.j0 k (a0_0 != 2) bt152.1 bt152.2.1 bt152.2.2.1 bt152.2.2.2.1 bt152.2.2.2.2) else (call_Fits.j0 k false bt152.1 bt152.2.1 bt152.2.2.1 bt152.2.2.2.1 bt152.2.2.2.2)) else (some 11)))
set_option maxHeartbeats 8000000 in
set_option maxRecDepth 100000 in
theorem call_Fits.calls (k : Nat) (a0_0 : Int) (a0_1 : Int) (a0_2 : Int) (a0_3 : Int) (a0_4 : Int) (a1_0 : Int) (a1_1 : ByteArray) (a1_2 : ByteArray) (a1_3 : ByteArray) (a1_4 : Int) (r : Int) (w : World) (hL : LaidU w) (h : call_Fits.f k a0_0 a0_1 a0_2 a0_3 a0_4 a1_0 a1_1 a1_2 a1_3 a1_4 = some r) :
    Calls Tryd.prog 55 #[.agg #[.int .i64 a0_0, .int .i64 a0_1, .int .i64 a0_2, .int .i64 a0_3, .int .i64 a0_4], .agg #[.int .i64 a1_0, .string a1_1, .string a1_2, .string a1_3, .int .i64 a1_4]] w fun e w' => e = .returned (.int .i64 r) ∧ Below w.heap.size w w' := by
  have HLAID := zX hL
  clear hL
  have hu23 := Tryd.underlying23
  have hu29 := Tryd.underlying29
  have HB := zX (zi w.heap.size w)
  have H : ((call_Plain.f a1_0 a1_1 a1_2 a1_3 a1_4).bind fun bt152 => ((call_is.f a1_0).bind fun t158 => (if t158 = true then (if a1_0 = 6 then (call_Fits.j0 k (a0_0 != 2) bt152.1 bt152.2.1 bt152.2.2.1 bt152.2.2.2.1 bt152.2.2.2.2) else (call_Fits.j0 k false bt152.1 bt152.2.1 bt152.2.2.1 bt152.2.2.2.1 bt152.2.2.2.2)) else (some 11)))) = some r := h
  clear h
  replace H := Option.bind_eq_some_iff.mp H
  obtain ⟨⟨t152, t153, t154, t155, t156⟩, A30, H⟩ := H
  replace H : ((call_is.f a1_0).bind fun t158 => (if t158 = true then (if a1_0 = 6 then (call_Fits.j0 k (a0_0 != 2) t152 t153 t154 t155 t156) else (call_Fits.j0 k false t152 t153 t154 t155 t156)) else (some 11))) = some r := H
  have A3 := zX A30
  clear A30
  replace H := Option.bind_eq_some_iff.mp H
  obtain ⟨t158, A40, H⟩ := H
  replace H : (if t158 = true then (if a1_0 = 6 then (call_Fits.j0 k (a0_0 != 2) t152 t153 t154 t155 t156) else (call_Fits.j0 k false t152 t153 t154 t155 t156)) else (some 11)) = some r := H
  have A4 := zX A40
  clear A40
  by_cases c5 : t158 = true
  · subst c5
    have H1 : (if a1_0 = 6 then (call_Fits.j0 k (a0_0 != 2) t152 t153 t154 t155 t156) else (call_Fits.j0 k false t152 t153 t154 t155 t156)) = some r := by rw [if_pos rfl] at H; exact H
    clear H
    have H := H1
    clear H1
    have HC6 := zX H
    clear H
    go_enter Tryd.func55, Tryd.ntmps55
    go_upto_region 4 with (first | ((with_reducible refine gate_dst (N := 2) rfl ?_); (try (refine gate_guard (by rfl) ?_; dsimp only)); refine box_event ?hg (N := 2) ?hd (cs := #[.int .i64 a0_0, .int .i64 a0_1, .int .i64 a0_2, .int .i64 a0_3, .int .i64 a0_4]) (t := 23) ?hr ?_; (case hd => rfl); (case hg => rfl); (case hr => first | (go_simp; done) | (go_simp; rfl)); intro gb150 hg w7 hbox hb; have n0_ := zX (zT (by repeat (first | (with_reducible first | exact HB.out | apply zF | apply zE | apply zG) | exact HB.out)) hb); have n1_ := zX (hbox); have n2_ := zX ((by rw [hg]; exact (zY (by repeat (first | (with_reducible first | exact HB.out | apply zF | apply zE | apply zG) | exact HB.out))) : w.heap.size ≤ gb150)); have n3_ := zX ((by rw [hg]; exact (zY (by repeat (first | (with_reducible first | exact HB.out | apply zF | apply zE | apply zG) | exact HB.out))) : w.heap.size ≤ gb150)); clear HB; have HB := n0_; have BK150 := n1_; have GW150 := n2_; have GE150 := n3_; clear n0_ n1_ n2_ n3_; clear hb hbox hg) | ((with_reducible refine gate_dst (N := 3) rfl ?_); (try (refine gate_guard (by rfl) ?_; dsimp only)); refine box_event ?hg (N := 3) ?hd (cs := #[.int .i64 a1_0, .string a1_1, .string a1_2, .string a1_3, .int .i64 a1_4]) (t := 29) ?hr ?_; (case hd => rfl); (case hg => rfl); (case hr => first | (go_simp; done) | (go_simp; rfl)); intro gb151 hg w8 hbox hb; have n0_ := zX (zm (g := gb150) (o := .cells #[.int .i64 a0_0, .int .i64 a0_1, .int .i64 a0_2, .int .i64 a0_3, .int .i64 a0_4] 23 (0, 0)) (by (with_reducible repeat (first | refine zL ?_ _ | refine zM ?_ | refine zJ ?_ _)); exact BK150.out) hb); have n1_ := zX (zT (by repeat (first | (with_reducible first | exact HB.out | apply zF | apply zE | apply zG | refine zK ?_ GE150.out) | exact HB.out)) hb); have n2_ := zX (hbox); have n3_ := zX ((by rw [hg]; exact (zY (by repeat (first | (with_reducible first | exact HB.out | apply zF | apply zE | apply zG | refine zK ?_ GE150.out) | exact HB.out))) : w.heap.size ≤ gb151)); have n4_ := zX ((by rw [hg]; exact (zY (by repeat (first | (with_reducible first | exact HB.out | apply zF | apply zE | apply zG | refine zK ?_ GE150.out) | exact HB.out))) : w.heap.size ≤ gb151)); have n5_ := zX ((by rw [hg]; exact Nat.ne_of_lt (blk_lt (g := gb150) (o := .cells #[.int .i64 a0_0, .int .i64 a0_1, .int .i64 a0_2, .int .i64 a0_3, .int .i64 a0_4] 23 (0, 0)) (by (with_reducible repeat (first | refine zL ?_ _ | refine zM ?_ | refine zJ ?_ _)); exact BK150.out)) : gb150 ≠ gb151)); have n6_ := zX ((by rw [hg]; exact Nat.ne_of_gt (blk_lt (g := gb150) (o := .cells #[.int .i64 a0_0, .int .i64 a0_1, .int .i64 a0_2, .int .i64 a0_3, .int .i64 a0_4] 23 (0, 0)) (by (with_reducible repeat (first | refine zL ?_ _ | refine zM ?_ | refine zJ ?_ _)); exact BK150.out)) : gb151 ≠ gb150)); clear BK150; clear HB; have BK150 := n0_; have HB := n1_; have BK151 := n2_; have GW151 := n3_; have GE151 := n4_; have NB150_151 := n5_; have NB151_150 := n6_; clear n0_ n1_ n2_ n3_ n4_ n5_ n6_; clear hb hbox hg; have hnb9 := NB151_150.out; have hnc9 := NB150_151.out; have hcz10_0 : w8.cell? ⟨gb151, 0, none⟩ = some (.int .i64 a1_0) := (zH BK151.out 0).trans rfl; have hcz10_1 : w8.cell? ⟨gb151, 1, none⟩ = some (.string a1_1) := (zH BK151.out 1).trans rfl; have hcz10_2 : w8.cell? ⟨gb151, 2, none⟩ = some (.string a1_2) := (zH BK151.out 2).trans rfl; have hcz10_3 : w8.cell? ⟨gb151, 3, none⟩ = some (.string a1_3) := (zH BK151.out 3).trans rfl; have hcz10_4 : w8.cell? ⟨gb151, 4, none⟩ = some (.int .i64 a1_4) := (zH BK151.out 4).trans rfl; have hfz10_0 := zI BK151.out 0; have hfz10_1 := zI BK151.out 1; have hfz10_2 := zI BK151.out 2; have hfz10_3 := zI BK151.out 3; have hfz10_4 := zI BK151.out 4) | ((with_reducible refine gate_callee (f := 79) rfl ?_); refine goesL_ (some 7) rfl rfl Tryd.func79 (by kernel_rfl) rfl #[.agg #[.int .i64 a1_0, .string a1_1, .string a1_2, .string a1_3, .int .i64 a1_4]] rfl (by (try simp only [zS, zU, zV]); first | done | rfl | (simp only [zO, zN]; rfl)) ?_; (with_reducible refine (call_Plain.calls a1_0 a1_1 a1_2 a1_3 a1_4 t152 t153 t154 t155 t156 _ ?side1 A3.out).mono ?_); (case side1 => exact laidU_below HLAID.out (by repeat (first | (with_reducible first | exact HB.out | apply zF | apply zE | apply zG | refine zK ?_ GE150.out | refine zK ?_ GE151.out) | exact HB.out))); rintro e w11 ⟨rfl, hb⟩; refine ⟨_, rfl, ?_⟩; have n0_ := zX (zm (g := gb150) (o := .cells #[.int .i64 a0_0, .int .i64 a0_1, .int .i64 a0_2, .int .i64 a0_3, .int .i64 a0_4] 23 (0, 0)) (by (with_reducible repeat (first | refine zL ?_ _ | refine zM ?_ | refine zJ ?_ _)); exact BK150.out) hb); have n1_ := zX (zm (g := gb151) (o := .cells #[.int .i64 a1_0, .string a1_1, .string a1_2, .string a1_3, .int .i64 a1_4] 29 (0, 0)) (by (with_reducible repeat (first | refine zL ?_ _ | refine zM ?_ | refine zJ ?_ _)); exact BK151.out) hb); have n2_ := zX (zT (by repeat (first | (with_reducible first | exact HB.out | apply zF | apply zE | apply zG | refine zK ?_ GE150.out | refine zK ?_ GE151.out) | exact HB.out)) hb); clear BK150; clear BK151; clear HB; have BK150 := n0_; have BK151 := n1_; have HB := n2_; clear n0_ n1_ n2_; (try clear hb); (try clear hb2); (try clear hk); (try clear hi)) | ((with_reducible refine gate_dst (N := 5) rfl ?_); (try (refine gate_guard (by rfl) ?_; dsimp only)); refine box_event ?hg (N := 5) ?hd (cs := #[.int .i64 0, .string (⟨#[]⟩ : ByteArray), .string (⟨#[]⟩ : ByteArray), .string (⟨#[]⟩ : ByteArray), .int .i64 0]) (t := 29) ?hr ?_; (case hd => rfl); (case hg => rfl); (case hr => first | (go_simp; done) | (go_simp; rfl)); intro gb157 hg w12 hbox hb; have n0_ := zX (zm (g := gb150) (o := .cells #[.int .i64 a0_0, .int .i64 a0_1, .int .i64 a0_2, .int .i64 a0_3, .int .i64 a0_4] 23 (0, 0)) (by (with_reducible repeat (first | refine zL ?_ _ | refine zM ?_ | refine zJ ?_ _)); exact BK150.out) hb); have n1_ := zX (zm (g := gb151) (o := .cells #[.int .i64 a1_0, .string a1_1, .string a1_2, .string a1_3, .int .i64 a1_4] 29 (0, 0)) (by (with_reducible repeat (first | refine zL ?_ _ | refine zM ?_ | refine zJ ?_ _)); exact BK151.out) hb); have n2_ := zX (zT (by repeat (first | (with_reducible first | exact HB.out | apply zF | apply zE | apply zG | refine zK ?_ GE150.out | refine zK ?_ GE151.out) | exact HB.out)) hb); have n3_ := zX (hbox); have n4_ := zX ((by rw [hg]; exact (zY (by repeat (first | (with_reducible first | exact HB.out | apply zF | apply zE | apply zG | refine zK ?_ GE150.out | refine zK ?_ GE151.out) | exact HB.out))) : w.heap.size ≤ gb157)); have n5_ := zX ((by rw [hg]; exact (zY (by repeat (first | (with_reducible first | exact HB.out | apply zF | apply zE | apply zG | refine zK ?_ GE150.out | refine zK ?_ GE151.out) | exact HB.out))) : w.heap.size ≤ gb157)); have n6_ := zX ((by rw [hg]; exact Nat.ne_of_lt (blk_lt (g := gb150) (o := .cells #[.int .i64 a0_0, .int .i64 a0_1, .int .i64 a0_2, .int .i64 a0_3, .int .i64 a0_4] 23 (0, 0)) (by (with_reducible repeat (first | refine zL ?_ _ | refine zM ?_ | refine zJ ?_ _)); exact BK150.out)) : gb150 ≠ gb157)); have n7_ := zX ((by rw [hg]; exact Nat.ne_of_gt (blk_lt (g := gb150) (o := .cells #[.int .i64 a0_0, .int .i64 a0_1, .int .i64 a0_2, .int .i64 a0_3, .int .i64 a0_4] 23 (0, 0)) (by (with_reducible repeat (first | refine zL ?_ _ | refine zM ?_ | refine zJ ?_ _)); exact BK150.out)) : gb157 ≠ gb150)); have n8_ := zX ((by rw [hg]; exact Nat.ne_of_lt (blk_lt (g := gb151) (o := .cells #[.int .i64 a1_0, .string a1_1, .string a1_2, .string a1_3, .int .i64 a1_4] 29 (0, 0)) (by (with_reducible repeat (first | refine zL ?_ _ | refine zM ?_ | refine zJ ?_ _)); exact BK151.out)) : gb151 ≠ gb157)); have n9_ := zX ((by rw [hg]; exact Nat.ne_of_gt (blk_lt (g := gb151) (o := .cells #[.int .i64 a1_0, .string a1_1, .string a1_2, .string a1_3, .int .i64 a1_4] 29 (0, 0)) (by (with_reducible repeat (first | refine zL ?_ _ | refine zM ?_ | refine zJ ?_ _)); exact BK151.out)) : gb157 ≠ gb151)); clear BK150; clear BK151; clear HB; have BK150 := n0_; have BK151 := n1_; have HB := n2_; have BK157 := n3_; have GW157 := n4_; have GE157 := n5_; have NB150_157 := n6_; have NB157_150 := n7_; have NB151_157 := n8_; have NB157_151 := n9_; clear n0_ n1_ n2_ n3_ n4_ n5_ n6_ n7_ n8_ n9_; clear hb hbox hg; have hnb13 := NB157_150.out; have hnc13 := NB150_157.out; have hnb14 := NB157_151.out; have hnc14 := NB151_157.out; have hcz15_0 : w12.cell? ⟨gb157, 0, none⟩ = some (.int .i64 0) := (zH BK157.out 0).trans rfl; have hcz15_1 : w12.cell? ⟨gb157, 1, none⟩ = some (.string (⟨#[]⟩ : ByteArray)) := (zH BK157.out 1).trans rfl; have hcz15_2 : w12.cell? ⟨gb157, 2, none⟩ = some (.string (⟨#[]⟩ : ByteArray)) := (zH BK157.out 2).trans rfl; have hcz15_3 : w12.cell? ⟨gb157, 3, none⟩ = some (.string (⟨#[]⟩ : ByteArray)) := (zH BK157.out 3).trans rfl; have hcz15_4 : w12.cell? ⟨gb157, 4, none⟩ = some (.int .i64 0) := (zH BK157.out 4).trans rfl; have hfz15_0 := zI BK157.out 0; have hfz15_1 := zI BK157.out 1; have hfz15_2 := zI BK157.out 2; have hfz15_3 := zI BK157.out 3; have hfz15_4 := zI BK157.out 4; have hcz16_0 : w12.cell? ⟨gb151, 0, none⟩ = some (.int .i64 a1_0) := (zH BK151.out 0).trans rfl; have hcz16_1 : w12.cell? ⟨gb151, 1, none⟩ = some (.string a1_1) := (zH BK151.out 1).trans rfl; have hcz16_2 : w12.cell? ⟨gb151, 2, none⟩ = some (.string a1_2) := (zH BK151.out 2).trans rfl; have hcz16_3 : w12.cell? ⟨gb151, 3, none⟩ = some (.string a1_3) := (zH BK151.out 3).trans rfl; have hcz16_4 : w12.cell? ⟨gb151, 4, none⟩ = some (.int .i64 a1_4) := (zH BK151.out 4).trans rfl; have hfz16_0 := zI BK151.out 0; have hfz16_1 := zI BK151.out 1; have hfz16_2 := zI BK151.out 2; have hfz16_3 := zI BK151.out 3; have hfz16_4 := zI BK151.out 4) | ((with_reducible refine gate_callee (f := 59) rfl ?_); refine goesL_ (some 11) rfl rfl Tryd.func59 (by kernel_rfl) rfl #[.int .i64 a1_0] rfl (by (try simp only [zS, zU, zV]); first | done | rfl | (simp only [zO, zN]; rfl)) ?_; (with_reducible refine (call_is.calls a1_0 true _ A4.out).mono ?_); rintro e w' ⟨rfl, ⟨nd, rfl⟩⟩; refine ⟨_, rfl, ?_⟩))
    (try simp only [Act.put, zA, zC, zD])
    go_cut [13] (fun v13 wc => ∃ (kq : Nat) (x13_5 : Bool), v13 = .bool x13_5 ∧ Aside0 (call_Fits.j0 kq x13_5 t152 t153 t154 t155 t156 = some r) ∧ Aside0 (kq ≤ k) ∧ Aside0 (wc.heap[gb150]? = some (.cells #[.int .i64 a0_0, .int .i64 a0_1, .int .i64 a0_2, .int .i64 a0_3, .int .i64 a0_4] 23 (0, 0))) ∧ Aside0 (wc.heap[gb151]? = some (.cells #[.int .i64 a1_0, .string a1_1, .string a1_2, .string a1_3, .int .i64 a1_4] 29 (0, 0))) ∧ Aside0 (wc.heap[gb157]? = some (.cells #[.int .i64 t152, .string t153, .string t154, .string t155, .int .i64 t156] 29 (0, 0))) ∧ Aside0 (Below w.heap.size w wc))
    case first =>
      have H := HC6.out
      clear HC6
      by_cases c17 : a1_0 = 6
      · rw [if_pos c17] at H
        have c17b0 : (a1_0 == 6) = true := beq_iff_eq.mpr c17
        have c17b1 : (a1_0 != 6) = false := bne_eq_false_iff_eq.mpr c17
        clear c17
        (first | rw [c17b0] | (simp only [i64_w, i32_w]; rw [c17b0]) | skip)
        have H' := zX H
        clear H
        have hnb18 := NB151_150.out
        have hnc18 := NB150_151.out
        have hnb19 := NB151_157.out
        have hnc19 := NB157_151.out
        have hcz20_0 : w12.cell? ⟨gb151, 0, none⟩ = some (.int .i64 a1_0) := (zH BK151.out 0).trans rfl
        have hcz20_1 : w12.cell? ⟨gb151, 1, none⟩ = some (.string a1_1) := (zH BK151.out 1).trans rfl
        have hcz20_2 : w12.cell? ⟨gb151, 2, none⟩ = some (.string a1_2) := (zH BK151.out 2).trans rfl
        have hcz20_3 : w12.cell? ⟨gb151, 3, none⟩ = some (.string a1_3) := (zH BK151.out 3).trans rfl
        have hcz20_4 : w12.cell? ⟨gb151, 4, none⟩ = some (.int .i64 a1_4) := (zH BK151.out 4).trans rfl
        have hfz20_0 := zI BK151.out 0
        have hfz20_1 := zI BK151.out 1
        have hfz20_2 := zI BK151.out 2
        have hfz20_3 := zI BK151.out 3
        have hfz20_4 := zI BK151.out 4
        have hnb21 := NB150_157.out
        have hnc21 := NB157_150.out
        have hcz22_0 : w12.cell? ⟨gb150, 0, none⟩ = some (.int .i64 a0_0) := (zH BK150.out 0).trans rfl
        have hcz22_1 : w12.cell? ⟨gb150, 1, none⟩ = some (.int .i64 a0_1) := (zH BK150.out 1).trans rfl
        have hcz22_2 : w12.cell? ⟨gb150, 2, none⟩ = some (.int .i64 a0_2) := (zH BK150.out 2).trans rfl
        have hcz22_3 : w12.cell? ⟨gb150, 3, none⟩ = some (.int .i64 a0_3) := (zH BK150.out 3).trans rfl
        have hcz22_4 : w12.cell? ⟨gb150, 4, none⟩ = some (.int .i64 a0_4) := (zH BK150.out 4).trans rfl
        have hfz22_0 := zI BK150.out 0
        have hfz22_1 := zI BK150.out 1
        have hfz22_2 := zI BK150.out 2
        have hfz22_3 := zI BK150.out 3
        have hfz22_4 := zI BK150.out 4
        go_wp2
        go_meet
        case rel => exact ⟨_, ((a0_0 != 2)), (by first | rfl | (simp; done) | (simp [*]; done)), H', ⟨by first | omega | exact Nat.le_refl _⟩, ⟨by (with_reducible repeat (first | refine zL ?_ _ | refine zM ?_ | refine zJ ?_ _)); refine blk_far ?_ NB150_157.out _; (with_reducible repeat (first | refine zL ?_ _ | refine zM ?_ | refine zJ ?_ _)); refine blk_far ?_ NB150_157.out _; (with_reducible repeat (first | refine zL ?_ _ | refine zM ?_ | refine zJ ?_ _)); refine blk_far ?_ NB150_157.out _; (with_reducible repeat (first | refine zL ?_ _ | refine zM ?_ | refine zJ ?_ _)); refine blk_far ?_ NB150_157.out _; (with_reducible repeat (first | refine zL ?_ _ | refine zM ?_ | refine zJ ?_ _)); refine blk_far ?_ NB150_157.out _; (with_reducible repeat (first | refine zL ?_ _ | refine zM ?_ | refine zJ ?_ _)); exact BK150.out⟩, ⟨by (with_reducible repeat (first | refine zL ?_ _ | refine zM ?_ | refine zJ ?_ _)); refine blk_far ?_ NB151_157.out _; (with_reducible repeat (first | refine zL ?_ _ | refine zM ?_ | refine zJ ?_ _)); refine blk_far ?_ NB151_157.out _; (with_reducible repeat (first | refine zL ?_ _ | refine zM ?_ | refine zJ ?_ _)); refine blk_far ?_ NB151_157.out _; (with_reducible repeat (first | refine zL ?_ _ | refine zM ?_ | refine zJ ?_ _)); refine blk_far ?_ NB151_157.out _; (with_reducible repeat (first | refine zL ?_ _ | refine zM ?_ | refine zJ ?_ _)); refine blk_far ?_ NB151_157.out _; (with_reducible repeat (first | refine zL ?_ _ | refine zM ?_ | refine zJ ?_ _)); exact BK151.out⟩, ⟨by (with_reducible repeat (first | refine zL ?_ _ | refine zM ?_ | refine zJ ?_ _)); refine blk_put (cs := #[.int .i64 t152, .string t153, .string t154, .string t155, .int .i64 0]) ?_ 4 _ rfl; (with_reducible repeat (first | refine zL ?_ _ | refine zM ?_ | refine zJ ?_ _)); refine blk_put (cs := #[.int .i64 t152, .string t153, .string t154, .string (⟨#[]⟩ : ByteArray), .int .i64 0]) ?_ 3 _ rfl; (with_reducible repeat (first | refine zL ?_ _ | refine zM ?_ | refine zJ ?_ _)); refine blk_put (cs := #[.int .i64 t152, .string t153, .string (⟨#[]⟩ : ByteArray), .string (⟨#[]⟩ : ByteArray), .int .i64 0]) ?_ 2 _ rfl; (with_reducible repeat (first | refine zL ?_ _ | refine zM ?_ | refine zJ ?_ _)); refine blk_put (cs := #[.int .i64 t152, .string (⟨#[]⟩ : ByteArray), .string (⟨#[]⟩ : ByteArray), .string (⟨#[]⟩ : ByteArray), .int .i64 0]) ?_ 1 _ rfl; (with_reducible repeat (first | refine zL ?_ _ | refine zM ?_ | refine zJ ?_ _)); refine blk_put (cs := #[.int .i64 0, .string (⟨#[]⟩ : ByteArray), .string (⟨#[]⟩ : ByteArray), .string (⟨#[]⟩ : ByteArray), .int .i64 0]) ?_ 0 _ rfl; (with_reducible repeat (first | refine zL ?_ _ | refine zM ?_ | refine zJ ?_ _)); exact BK157.out⟩, ⟨by repeat (first | (with_reducible first | exact HB.out | apply zF | apply zE | apply zG | refine zK ?_ GE150.out | refine zK ?_ GE151.out | refine zK ?_ GE157.out) | exact HB.out)⟩⟩
      · rw [if_neg c17] at H
        have c17b0 : (a1_0 == 6) = false := beq_eq_false_iff_ne.mpr c17
        have c17b1 : (a1_0 != 6) = true := bne_iff_ne.mpr c17
        (first | rw [c17b0] | (simp only [i64_w, i32_w]; rw [c17b0]) | skip)
        have H' := zX H
        clear H
        have hnb23 := NB151_150.out
        have hnc23 := NB150_151.out
        have hnb24 := NB151_157.out
        have hnc24 := NB157_151.out
        have hcz25_0 : w12.cell? ⟨gb151, 0, none⟩ = some (.int .i64 a1_0) := (zH BK151.out 0).trans rfl
        have hcz25_1 : w12.cell? ⟨gb151, 1, none⟩ = some (.string a1_1) := (zH BK151.out 1).trans rfl
        have hcz25_2 : w12.cell? ⟨gb151, 2, none⟩ = some (.string a1_2) := (zH BK151.out 2).trans rfl
        have hcz25_3 : w12.cell? ⟨gb151, 3, none⟩ = some (.string a1_3) := (zH BK151.out 3).trans rfl
        have hcz25_4 : w12.cell? ⟨gb151, 4, none⟩ = some (.int .i64 a1_4) := (zH BK151.out 4).trans rfl
        have hfz25_0 := zI BK151.out 0
        have hfz25_1 := zI BK151.out 1
        have hfz25_2 := zI BK151.out 2
        have hfz25_3 := zI BK151.out 3
        have hfz25_4 := zI BK151.out 4
        go_wp2
        go_meet
        case rel => exact ⟨_, (false), (by first | rfl | (simp; done) | (simp [*]; done)), H', ⟨by first | omega | exact Nat.le_refl _⟩, ⟨by (with_reducible repeat (first | refine zL ?_ _ | refine zM ?_ | refine zJ ?_ _)); refine blk_far ?_ NB150_157.out _; (with_reducible repeat (first | refine zL ?_ _ | refine zM ?_ | refine zJ ?_ _)); refine blk_far ?_ NB150_157.out _; (with_reducible repeat (first | refine zL ?_ _ | refine zM ?_ | refine zJ ?_ _)); refine blk_far ?_ NB150_157.out _; (with_reducible repeat (first | refine zL ?_ _ | refine zM ?_ | refine zJ ?_ _)); refine blk_far ?_ NB150_157.out _; (with_reducible repeat (first | refine zL ?_ _ | refine zM ?_ | refine zJ ?_ _)); refine blk_far ?_ NB150_157.out _; (with_reducible repeat (first | refine zL ?_ _ | refine zM ?_ | refine zJ ?_ _)); exact BK150.out⟩, ⟨by (with_reducible repeat (first | refine zL ?_ _ | refine zM ?_ | refine zJ ?_ _)); refine blk_far ?_ NB151_157.out _; (with_reducible repeat (first | refine zL ?_ _ | refine zM ?_ | refine zJ ?_ _)); refine blk_far ?_ NB151_157.out _; (with_reducible repeat (first | refine zL ?_ _ | refine zM ?_ | refine zJ ?_ _)); refine blk_far ?_ NB151_157.out _; (with_reducible repeat (first | refine zL ?_ _ | refine zM ?_ | refine zJ ?_ _)); refine blk_far ?_ NB151_157.out _; (with_reducible repeat (first | refine zL ?_ _ | refine zM ?_ | refine zJ ?_ _)); refine blk_far ?_ NB151_157.out _; (with_reducible repeat (first | refine zL ?_ _ | refine zM ?_ | refine zJ ?_ _)); exact BK151.out⟩, ⟨by (with_reducible repeat (first | refine zL ?_ _ | refine zM ?_ | refine zJ ?_ _)); refine blk_put (cs := #[.int .i64 t152, .string t153, .string t154, .string t155, .int .i64 0]) ?_ 4 _ rfl; (with_reducible repeat (first | refine zL ?_ _ | refine zM ?_ | refine zJ ?_ _)); refine blk_put (cs := #[.int .i64 t152, .string t153, .string t154, .string (⟨#[]⟩ : ByteArray), .int .i64 0]) ?_ 3 _ rfl; (with_reducible repeat (first | refine zL ?_ _ | refine zM ?_ | refine zJ ?_ _)); refine blk_put (cs := #[.int .i64 t152, .string t153, .string (⟨#[]⟩ : ByteArray), .string (⟨#[]⟩ : ByteArray), .int .i64 0]) ?_ 2 _ rfl; (with_reducible repeat (first | refine zL ?_ _ | refine zM ?_ | refine zJ ?_ _)); refine blk_put (cs := #[.int .i64 t152, .string (⟨#[]⟩ : ByteArray), .string (⟨#[]⟩ : ByteArray), .string (⟨#[]⟩ : ByteArray), .int .i64 0]) ?_ 1 _ rfl; (with_reducible repeat (first | refine zL ?_ _ | refine zM ?_ | refine zJ ?_ _)); refine blk_put (cs := #[.int .i64 0, .string (⟨#[]⟩ : ByteArray), .string (⟨#[]⟩ : ByteArray), .string (⟨#[]⟩ : ByteArray), .int .i64 0]) ?_ 0 _ rfl; (with_reducible repeat (first | refine zL ?_ _ | refine zM ?_ | refine zJ ?_ _)); exact BK157.out⟩, ⟨by repeat (first | (with_reducible first | exact HB.out | apply zF | apply zE | apply zG | refine zK ?_ GE150.out | refine zK ?_ GE151.out | refine zK ?_ GE157.out) | exact HB.out)⟩⟩
    case rest =>
      clear HC6
      try clear c1
      try clear c2
      try clear p2
      try clear c5
      try clear c7
      try clear c9
      try clear c13
      try clear c14
      try clear c17
      try clear c17b0
      try clear c17b1
      try clear c18
      try clear c19
      try clear c21
      try clear c23
      try clear c24
      try clear hcz10_0
      try clear hcz10_1
      try clear hcz10_2
      try clear hcz10_3
      try clear hcz10_4
      try clear hcz15_0
      try clear hcz15_1
      try clear hcz15_2
      try clear hcz15_3
      try clear hcz15_4
      try clear hcz16_0
      try clear hcz16_1
      try clear hcz16_2
      try clear hcz16_3
      try clear hcz16_4
      try clear hcz20_0
      try clear hcz20_1
      try clear hcz20_2
      try clear hcz20_3
      try clear hcz20_4
      try clear hcz22_0
      try clear hcz22_1
      try clear hcz22_2
      try clear hcz22_3
      try clear hcz22_4
      try clear hcz25_0
      try clear hcz25_1
      try clear hcz25_2
      try clear hcz25_3
      try clear hcz25_4
      try clear hfz10_0
      try clear hfz10_1
      try clear hfz10_2
      try clear hfz10_3
      try clear hfz10_4
      try clear hfz15_0
      try clear hfz15_1
      try clear hfz15_2
      try clear hfz15_3
      try clear hfz15_4
      try clear hfz16_0
      try clear hfz16_1
      try clear hfz16_2
      try clear hfz16_3
      try clear hfz16_4
      try clear hfz20_0
      try clear hfz20_1
      try clear hfz20_2
      try clear hfz20_3
      try clear hfz20_4
      try clear hfz22_0
      try clear hfz22_1
      try clear hfz22_2
      try clear hfz22_3
      try clear hfz22_4
      try clear hfz25_0
      try clear hfz25_1
      try clear hfz25_2
      try clear hfz25_3
      try clear hfz25_4
      obtain ⟨kq, x13_5, rfl, HA, HJ5, BK150, BK151, BK157, HB⟩ := hcut
      cases kq with
      | zero => exact absurd HA.out (by simp [call_Fits.j0])
      | succ kj5 =>
        have H := HA.out
        clear HA
        simp only [call_Fits.j0] at H
        by_cases c26 : x13_5 = true
        · subst c26
          have H1 : (some 2) = some r := by rw [if_pos rfl] at H; exact H
          clear H
          have H := H1
          clear H1
          obtain rfl := zQ H
          go_wp2
          go_ret
          exact ⟨by first | rfl | (simp [errW_none, errW_some] <;> rfl) | (simp [*, errW_none, errW_some] <;> rfl), by repeat (first | (with_reducible first | exact HB.out | apply zF | apply zE | apply zG | refine zK ?_ GE150.out | refine zK ?_ GE151.out | refine zK ?_ GE157.out) | exact HB.out)⟩
        · replace c26 := Bool.eq_false_iff.mpr c26
          subst c26
          have H1 : (if (t153.size : Int) > 16 then (call_Fits.j1 kj5 true t152 t153 t154 t155 t156) else (if (t154.size : Int) > 16 then (call_Fits.j1 kj5 true t152 t153 t154 t155 t156) else (call_Fits.j1 kj5 (decide ((t155.size : Int) > 16)) t152 t153 t154 t155 t156))) = some r := by rw [if_neg (show ¬ (false = true) by decide)] at H; exact H
          clear H
          have H := H1
          clear H1
          have HC27 := zX H
          clear H
          go_upto_region 6 with (fail)
          go_cut [22] (fun v22 wc => ∃ (kq : Nat) (x22_26 : Bool), v22 = .bool x22_26 ∧ Aside0 (call_Fits.j1 kq x22_26 t152 t153 t154 t155 t156 = some r) ∧ Aside0 (kq ≤ kj5) ∧ Aside0 (wc.heap[gb150]? = some (.cells #[.int .i64 a0_0, .int .i64 a0_1, .int .i64 a0_2, .int .i64 a0_3, .int .i64 a0_4] 23 (0, 0))) ∧ Aside0 (wc.heap[gb151]? = some (.cells #[.int .i64 a1_0, .string a1_1, .string a1_2, .string a1_3, .int .i64 a1_4] 29 (0, 0))) ∧ Aside0 (wc.heap[gb157]? = some (.cells #[.int .i64 t152, .string t153, .string t154, .string t155, .int .i64 t156] 29 (0, 0))) ∧ Aside0 (Below w.heap.size w wc))
          case first =>
            have H := HC27.out
            clear HC27
            by_cases c28 : (t153.size : Int) > 16
            · rw [if_pos c28] at H
              have c28b0 : decide (16 < (t153.size : Int)) = true := zW c28
              have c28b1 : decide (16 < t153.size) = true := zW (by omega)
              clear c28
              (first | rw [c28b0] | (simp only [i64_w, i32_w]; rw [c28b0]) | skip)
              have H' := zX H
              clear H
              have hnb29 := NB157_150.out
              have hnc29 := NB150_157.out
              have hnb30 := NB157_151.out
              have hnc30 := NB151_157.out
              have hcz31_0 : wc.cell? ⟨gb157, 0, none⟩ = some (.int .i64 t152) := (zH BK157.out 0).trans rfl
              have hcz31_1 : wc.cell? ⟨gb157, 1, none⟩ = some (.string t153) := (zH BK157.out 1).trans rfl
              have hcz31_2 : wc.cell? ⟨gb157, 2, none⟩ = some (.string t154) := (zH BK157.out 2).trans rfl
              have hcz31_3 : wc.cell? ⟨gb157, 3, none⟩ = some (.string t155) := (zH BK157.out 3).trans rfl
              have hcz31_4 : wc.cell? ⟨gb157, 4, none⟩ = some (.int .i64 t156) := (zH BK157.out 4).trans rfl
              have hfz31_0 := zI BK157.out 0
              have hfz31_1 := zI BK157.out 1
              have hfz31_2 := zI BK157.out 2
              have hfz31_3 := zI BK157.out 3
              have hfz31_4 := zI BK157.out 4
              go_wp2
              go_meet
              case rel => exact ⟨_, (true), (by first | rfl | (simp; done) | (simp [*]; done)), H', ⟨by have := HJ5.out; first | omega | exact Nat.le_refl _⟩, ⟨by (with_reducible repeat (first | refine zL ?_ _ | refine zM ?_ | refine zJ ?_ _)); exact BK150.out⟩, ⟨by (with_reducible repeat (first | refine zL ?_ _ | refine zM ?_ | refine zJ ?_ _)); exact BK151.out⟩, ⟨by (with_reducible repeat (first | refine zL ?_ _ | refine zM ?_ | refine zJ ?_ _)); exact BK157.out⟩, ⟨by repeat (first | (with_reducible first | exact HB.out | apply zF | apply zE | apply zG | refine zK ?_ GE150.out | refine zK ?_ GE151.out | refine zK ?_ GE157.out) | exact HB.out)⟩⟩
            · rw [if_neg c28] at H
              have c28b0 : decide (16 < (t153.size : Int)) = false := decide_eq_false c28
              have c28b1 : decide (16 < t153.size) = false := decide_eq_false (by omega)
              clear c28
              (first | rw [c28b0] | (simp only [i64_w, i32_w]; rw [c28b0]) | skip)
              by_cases c32 : (t154.size : Int) > 16
              · rw [if_pos c32] at H
                have c32b0 : decide (16 < (t154.size : Int)) = true := zW c32
                have c32b1 : decide (16 < t154.size) = true := zW (by omega)
                clear c32
                have H' := zX H
                clear H
                have hnb33 := NB157_150.out
                have hnc33 := NB150_157.out
                have hnb34 := NB157_151.out
                have hnc34 := NB151_157.out
                have hcz35_0 : wc.cell? ⟨gb157, 0, none⟩ = some (.int .i64 t152) := (zH BK157.out 0).trans rfl
                have hcz35_1 : wc.cell? ⟨gb157, 1, none⟩ = some (.string t153) := (zH BK157.out 1).trans rfl
                have hcz35_2 : wc.cell? ⟨gb157, 2, none⟩ = some (.string t154) := (zH BK157.out 2).trans rfl
                have hcz35_3 : wc.cell? ⟨gb157, 3, none⟩ = some (.string t155) := (zH BK157.out 3).trans rfl
                have hcz35_4 : wc.cell? ⟨gb157, 4, none⟩ = some (.int .i64 t156) := (zH BK157.out 4).trans rfl
                have hfz35_0 := zI BK157.out 0
                have hfz35_1 := zI BK157.out 1
                have hfz35_2 := zI BK157.out 2
                have hfz35_3 := zI BK157.out 3
                have hfz35_4 := zI BK157.out 4
                go_wp2
                go_meet
                case rel => exact ⟨_, (true), (by first | rfl | (simp; done) | (simp [*]; done)), H', ⟨by have := HJ5.out; first | omega | exact Nat.le_refl _⟩, ⟨by (with_reducible repeat (first | refine zL ?_ _ | refine zM ?_ | refine zJ ?_ _)); exact BK150.out⟩, ⟨by (with_reducible repeat (first | refine zL ?_ _ | refine zM ?_ | refine zJ ?_ _)); exact BK151.out⟩, ⟨by (with_reducible repeat (first | refine zL ?_ _ | refine zM ?_ | refine zJ ?_ _)); exact BK157.out⟩, ⟨by repeat (first | (with_reducible first | exact HB.out | apply zF | apply zE | apply zG | refine zK ?_ GE150.out | refine zK ?_ GE151.out | refine zK ?_ GE157.out) | exact HB.out)⟩⟩
              · rw [if_neg c32] at H
                have c32b0 : decide (16 < (t154.size : Int)) = false := decide_eq_false c32
                have c32b1 : decide (16 < t154.size) = false := decide_eq_false (by omega)
                clear c32
                have H' := zX H
                clear H
                have hnb36 := NB157_150.out
                have hnc36 := NB150_157.out
                have hnb37 := NB157_151.out
                have hnc37 := NB151_157.out
                have hcz38_0 : wc.cell? ⟨gb157, 0, none⟩ = some (.int .i64 t152) := (zH BK157.out 0).trans rfl
                have hcz38_1 : wc.cell? ⟨gb157, 1, none⟩ = some (.string t153) := (zH BK157.out 1).trans rfl
                have hcz38_2 : wc.cell? ⟨gb157, 2, none⟩ = some (.string t154) := (zH BK157.out 2).trans rfl
                have hcz38_3 : wc.cell? ⟨gb157, 3, none⟩ = some (.string t155) := (zH BK157.out 3).trans rfl
                have hcz38_4 : wc.cell? ⟨gb157, 4, none⟩ = some (.int .i64 t156) := (zH BK157.out 4).trans rfl
                have hfz38_0 := zI BK157.out 0
                have hfz38_1 := zI BK157.out 1
                have hfz38_2 := zI BK157.out 2
                have hfz38_3 := zI BK157.out 3
                have hfz38_4 := zI BK157.out 4
                go_wp2
                go_meet
                case rel => exact ⟨_, (decide ((t155.size : Int) > 16)), (by first | rfl | (simp; done) | (simp [*]; done)), H', ⟨by have := HJ5.out; first | omega | exact Nat.le_refl _⟩, ⟨by (with_reducible repeat (first | refine zL ?_ _ | refine zM ?_ | refine zJ ?_ _)); exact BK150.out⟩, ⟨by (with_reducible repeat (first | refine zL ?_ _ | refine zM ?_ | refine zJ ?_ _)); exact BK151.out⟩, ⟨by (with_reducible repeat (first | refine zL ?_ _ | refine zM ?_ | refine zJ ?_ _)); exact BK157.out⟩, ⟨by repeat (first | (with_reducible first | exact HB.out | apply zF | apply zE | apply zG | refine zK ?_ GE150.out | refine zK ?_ GE151.out | refine zK ?_ GE157.out) | exact HB.out)⟩⟩
          case rest =>
            clear HC27
            try clear c1
            try clear c2
            try clear p2
            try clear c3
            try clear c5
            try clear c7
            try clear c9
            try clear c13
            try clear c14
            try clear c17
            try clear c17b0
            try clear c17b1
            try clear c18
            try clear c19
            try clear c21
            try clear c23
            try clear c24
            try clear c26
            try clear c28
            try clear c28b0
            try clear c28b1
            try clear c29
            try clear c30
            try clear c32
            try clear c32b0
            try clear c32b1
            try clear c33
            try clear c34
            try clear c36
            try clear c37
            try clear hcz10_0
            try clear hcz10_1
            try clear hcz10_2
            try clear hcz10_3
            try clear hcz10_4
            try clear hcz15_0
            try clear hcz15_1
            try clear hcz15_2
            try clear hcz15_3
            try clear hcz15_4
            try clear hcz16_0
            try clear hcz16_1
            try clear hcz16_2
            try clear hcz16_3
            try clear hcz16_4
            try clear hcz20_0
            try clear hcz20_1
            try clear hcz20_2
            try clear hcz20_3
            try clear hcz20_4
            try clear hcz22_0
            try clear hcz22_1
            try clear hcz22_2
            try clear hcz22_3
            try clear hcz22_4
            try clear hcz25_0
            try clear hcz25_1
            try clear hcz25_2
            try clear hcz25_3
            try clear hcz25_4
            try clear hcz31_0
            try clear hcz31_1
            try clear hcz31_2
            try clear hcz31_3
            try clear hcz31_4
            try clear hcz35_0
            try clear hcz35_1
            try clear hcz35_2
            try clear hcz35_3
            try clear hcz35_4
            try clear hcz38_0
            try clear hcz38_1
            try clear hcz38_2
            try clear hcz38_3
            try clear hcz38_4
            try clear hfz10_0
            try clear hfz10_1
            try clear hfz10_2
            try clear hfz10_3
            try clear hfz10_4
            try clear hfz15_0
            try clear hfz15_1
            try clear hfz15_2
            try clear hfz15_3
            try clear hfz15_4
            try clear hfz16_0
            try clear hfz16_1
            try clear hfz16_2
            try clear hfz16_3
            try clear hfz16_4
            try clear hfz20_0
            try clear hfz20_1
            try clear hfz20_2
            try clear hfz20_3
            try clear hfz20_4
            try clear hfz22_0
            try clear hfz22_1
            try clear hfz22_2
            try clear hfz22_3
            try clear hfz22_4
            try clear hfz25_0
            try clear hfz25_1
            try clear hfz25_2
            try clear hfz25_3
            try clear hfz25_4
            try clear hfz31_0
            try clear hfz31_1
            try clear hfz31_2
            try clear hfz31_3
            try clear hfz31_4
            try clear hfz35_0
            try clear hfz35_1
            try clear hfz35_2
            try clear hfz35_3
            try clear hfz35_4
            try clear hfz38_0
            try clear hfz38_1
            try clear hfz38_2
            try clear hfz38_3
            try clear hfz38_4
            try clear p2
            obtain ⟨kq, x22_26, rfl, HA, HJ26, BK150, BK151, BK157, HB⟩ := hcut
            cases kq with
            | zero => exact absurd HA.out (by simp [call_Fits.j1])
            | succ kj26 =>
              have H := HA.out
              clear HA
              simp only [call_Fits.j1] at H
              by_cases c39 : x22_26 = true
              · subst c39
                have H1 : (some 6) = some r := by rw [if_pos rfl] at H; exact H
                clear H
                have H := H1
                clear H1
                obtain rfl := zQ H
                go_wp2
                go_ret
                exact ⟨by first | rfl | (simp [errW_none, errW_some] <;> rfl) | (simp [*, errW_none, errW_some] <;> rfl), by repeat (first | (with_reducible first | exact HB.out | apply zF | apply zE | apply zG | refine zK ?_ GE150.out | refine zK ?_ GE151.out | refine zK ?_ GE157.out) | exact HB.out)⟩
              · replace c39 := Bool.eq_false_iff.mpr c39
                subst c39
                have H1 : (if t156 < 0 then (some 10) else (some 0)) = some r := by rw [if_neg (show ¬ (false = true) by decide)] at H; exact H
                clear H
                have H := H1
                clear H1
                by_cases c40 : t156 < 0
                · rw [if_pos c40] at H
                  have c40b0 : decide (t156 < 0) = true := zW c40
                  clear c40
                  obtain rfl := zQ H
                  have hnb41 := NB157_150.out
                  have hnc41 := NB150_157.out
                  have hnb42 := NB157_151.out
                  have hnc42 := NB151_157.out
                  have hcz43_0 : wc.cell? ⟨gb157, 0, none⟩ = some (.int .i64 t152) := (zH BK157.out 0).trans rfl
                  have hcz43_1 : wc.cell? ⟨gb157, 1, none⟩ = some (.string t153) := (zH BK157.out 1).trans rfl
                  have hcz43_2 : wc.cell? ⟨gb157, 2, none⟩ = some (.string t154) := (zH BK157.out 2).trans rfl
                  have hcz43_3 : wc.cell? ⟨gb157, 3, none⟩ = some (.string t155) := (zH BK157.out 3).trans rfl
                  have hcz43_4 : wc.cell? ⟨gb157, 4, none⟩ = some (.int .i64 t156) := (zH BK157.out 4).trans rfl
                  have hfz43_0 := zI BK157.out 0
                  have hfz43_1 := zI BK157.out 1
                  have hfz43_2 := zI BK157.out 2
                  have hfz43_3 := zI BK157.out 3
                  have hfz43_4 := zI BK157.out 4
                  go_wp2
                  go_ret
                  exact ⟨by first | rfl | (simp [errW_none, errW_some] <;> rfl) | (simp [*, errW_none, errW_some] <;> rfl), by repeat (first | (with_reducible first | exact HB.out | apply zF | apply zE | apply zG | refine zK ?_ GE150.out | refine zK ?_ GE151.out | refine zK ?_ GE157.out) | exact HB.out)⟩
                · rw [if_neg c40] at H
                  have c40b0 : decide (t156 < 0) = false := decide_eq_false c40
                  clear c40
                  obtain rfl := zQ H
                  have hnb44 := NB157_150.out
                  have hnc44 := NB150_157.out
                  have hnb45 := NB157_151.out
                  have hnc45 := NB151_157.out
                  have hcz46_0 : wc.cell? ⟨gb157, 0, none⟩ = some (.int .i64 t152) := (zH BK157.out 0).trans rfl
                  have hcz46_1 : wc.cell? ⟨gb157, 1, none⟩ = some (.string t153) := (zH BK157.out 1).trans rfl
                  have hcz46_2 : wc.cell? ⟨gb157, 2, none⟩ = some (.string t154) := (zH BK157.out 2).trans rfl
                  have hcz46_3 : wc.cell? ⟨gb157, 3, none⟩ = some (.string t155) := (zH BK157.out 3).trans rfl
                  have hcz46_4 : wc.cell? ⟨gb157, 4, none⟩ = some (.int .i64 t156) := (zH BK157.out 4).trans rfl
                  have hfz46_0 := zI BK157.out 0
                  have hfz46_1 := zI BK157.out 1
                  have hfz46_2 := zI BK157.out 2
                  have hfz46_3 := zI BK157.out 3
                  have hfz46_4 := zI BK157.out 4
                  go_wp2
                  go_ret
                  exact ⟨by first | rfl | (simp [errW_none, errW_some] <;> rfl) | (simp [*, errW_none, errW_some] <;> rfl), by repeat (first | (with_reducible first | exact HB.out | apply zF | apply zE | apply zG | refine zK ?_ GE150.out | refine zK ?_ GE151.out | refine zK ?_ GE157.out) | exact HB.out)⟩
  · replace c5 := Bool.eq_false_iff.mpr c5
    subst c5
    have H1 : (some 11) = some r := by rw [if_neg (show ¬ (false = true) by decide)] at H; exact H
    clear H
    have H := H1
    clear H1
    obtain rfl := zQ H
    go_enter Tryd.func55, Tryd.ntmps55
    go_wp2_with (first | ((with_reducible refine gate_dst (N := 2) rfl ?_); (try (refine gate_guard (by rfl) ?_; dsimp only)); refine box_event ?hg (N := 2) ?hd (cs := #[.int .i64 a0_0, .int .i64 a0_1, .int .i64 a0_2, .int .i64 a0_3, .int .i64 a0_4]) (t := 23) ?hr ?_; (case hd => rfl); (case hg => rfl); (case hr => first | (go_simp; done) | (go_simp; rfl)); intro gb150 hg w47 hbox hb; have n0_ := zX (zT (by repeat (first | (with_reducible first | exact HB.out | apply zF | apply zE | apply zG) | exact HB.out)) hb); have n1_ := zX (hbox); have n2_ := zX ((by rw [hg]; exact (zY (by repeat (first | (with_reducible first | exact HB.out | apply zF | apply zE | apply zG) | exact HB.out))) : w.heap.size ≤ gb150)); have n3_ := zX ((by rw [hg]; exact (zY (by repeat (first | (with_reducible first | exact HB.out | apply zF | apply zE | apply zG) | exact HB.out))) : w.heap.size ≤ gb150)); clear HB; have HB := n0_; have BK150 := n1_; have GW150 := n2_; have GE150 := n3_; clear n0_ n1_ n2_ n3_; clear hb hbox hg) | ((with_reducible refine gate_dst (N := 3) rfl ?_); (try (refine gate_guard (by rfl) ?_; dsimp only)); refine box_event ?hg (N := 3) ?hd (cs := #[.int .i64 a1_0, .string a1_1, .string a1_2, .string a1_3, .int .i64 a1_4]) (t := 29) ?hr ?_; (case hd => rfl); (case hg => rfl); (case hr => first | (go_simp; done) | (go_simp; rfl)); intro gb151 hg w48 hbox hb; have n0_ := zX (zm (g := gb150) (o := .cells #[.int .i64 a0_0, .int .i64 a0_1, .int .i64 a0_2, .int .i64 a0_3, .int .i64 a0_4] 23 (0, 0)) (by (with_reducible repeat (first | refine zL ?_ _ | refine zM ?_ | refine zJ ?_ _)); exact BK150.out) hb); have n1_ := zX (zT (by repeat (first | (with_reducible first | exact HB.out | apply zF | apply zE | apply zG | refine zK ?_ GE150.out) | exact HB.out)) hb); have n2_ := zX (hbox); have n3_ := zX ((by rw [hg]; exact (zY (by repeat (first | (with_reducible first | exact HB.out | apply zF | apply zE | apply zG | refine zK ?_ GE150.out) | exact HB.out))) : w.heap.size ≤ gb151)); have n4_ := zX ((by rw [hg]; exact (zY (by repeat (first | (with_reducible first | exact HB.out | apply zF | apply zE | apply zG | refine zK ?_ GE150.out) | exact HB.out))) : w.heap.size ≤ gb151)); have n5_ := zX ((by rw [hg]; exact Nat.ne_of_lt (blk_lt (g := gb150) (o := .cells #[.int .i64 a0_0, .int .i64 a0_1, .int .i64 a0_2, .int .i64 a0_3, .int .i64 a0_4] 23 (0, 0)) (by (with_reducible repeat (first | refine zL ?_ _ | refine zM ?_ | refine zJ ?_ _)); exact BK150.out)) : gb150 ≠ gb151)); have n6_ := zX ((by rw [hg]; exact Nat.ne_of_gt (blk_lt (g := gb150) (o := .cells #[.int .i64 a0_0, .int .i64 a0_1, .int .i64 a0_2, .int .i64 a0_3, .int .i64 a0_4] 23 (0, 0)) (by (with_reducible repeat (first | refine zL ?_ _ | refine zM ?_ | refine zJ ?_ _)); exact BK150.out)) : gb151 ≠ gb150)); clear BK150; clear HB; have BK150 := n0_; have HB := n1_; have BK151 := n2_; have GW151 := n3_; have GE151 := n4_; have NB150_151 := n5_; have NB151_150 := n6_; clear n0_ n1_ n2_ n3_ n4_ n5_ n6_; clear hb hbox hg; have hnb49 := NB151_150.out; have hnc49 := NB150_151.out; have hcz50_0 : w48.cell? ⟨gb151, 0, none⟩ = some (.int .i64 a1_0) := (zH BK151.out 0).trans rfl; have hcz50_1 : w48.cell? ⟨gb151, 1, none⟩ = some (.string a1_1) := (zH BK151.out 1).trans rfl; have hcz50_2 : w48.cell? ⟨gb151, 2, none⟩ = some (.string a1_2) := (zH BK151.out 2).trans rfl; have hcz50_3 : w48.cell? ⟨gb151, 3, none⟩ = some (.string a1_3) := (zH BK151.out 3).trans rfl; have hcz50_4 : w48.cell? ⟨gb151, 4, none⟩ = some (.int .i64 a1_4) := (zH BK151.out 4).trans rfl; have hfz50_0 := zI BK151.out 0; have hfz50_1 := zI BK151.out 1; have hfz50_2 := zI BK151.out 2; have hfz50_3 := zI BK151.out 3; have hfz50_4 := zI BK151.out 4) | ((with_reducible refine gate_callee (f := 79) rfl ?_); refine goesL_ (some 7) rfl rfl Tryd.func79 (by kernel_rfl) rfl #[.agg #[.int .i64 a1_0, .string a1_1, .string a1_2, .string a1_3, .int .i64 a1_4]] rfl (by (try simp only [zS, zU, zV]); first | done | rfl | (simp only [zO, zN]; rfl)) ?_; (with_reducible refine (call_Plain.calls a1_0 a1_1 a1_2 a1_3 a1_4 t152 t153 t154 t155 t156 _ ?side1 A3.out).mono ?_); (case side1 => exact laidU_below HLAID.out (by repeat (first | (with_reducible first | exact HB.out | apply zF | apply zE | apply zG | refine zK ?_ GE150.out | refine zK ?_ GE151.out) | exact HB.out))); rintro e w51 ⟨rfl, hb⟩; refine ⟨_, rfl, ?_⟩; have n0_ := zX (zm (g := gb150) (o := .cells #[.int .i64 a0_0, .int .i64 a0_1, .int .i64 a0_2, .int .i64 a0_3, .int .i64 a0_4] 23 (0, 0)) (by (with_reducible repeat (first | refine zL ?_ _ | refine zM ?_ | refine zJ ?_ _)); exact BK150.out) hb); have n1_ := zX (zm (g := gb151) (o := .cells #[.int .i64 a1_0, .string a1_1, .string a1_2, .string a1_3, .int .i64 a1_4] 29 (0, 0)) (by (with_reducible repeat (first | refine zL ?_ _ | refine zM ?_ | refine zJ ?_ _)); exact BK151.out) hb); have n2_ := zX (zT (by repeat (first | (with_reducible first | exact HB.out | apply zF | apply zE | apply zG | refine zK ?_ GE150.out | refine zK ?_ GE151.out) | exact HB.out)) hb); clear BK150; clear BK151; clear HB; have BK150 := n0_; have BK151 := n1_; have HB := n2_; clear n0_ n1_ n2_; (try clear hb); (try clear hb2); (try clear hk); (try clear hi)) | ((with_reducible refine gate_dst (N := 5) rfl ?_); (try (refine gate_guard (by rfl) ?_; dsimp only)); refine box_event ?hg (N := 5) ?hd (cs := #[.int .i64 0, .string (⟨#[]⟩ : ByteArray), .string (⟨#[]⟩ : ByteArray), .string (⟨#[]⟩ : ByteArray), .int .i64 0]) (t := 29) ?hr ?_; (case hd => rfl); (case hg => rfl); (case hr => first | (go_simp; done) | (go_simp; rfl)); intro gb157 hg w52 hbox hb; have n0_ := zX (zm (g := gb150) (o := .cells #[.int .i64 a0_0, .int .i64 a0_1, .int .i64 a0_2, .int .i64 a0_3, .int .i64 a0_4] 23 (0, 0)) (by (with_reducible repeat (first | refine zL ?_ _ | refine zM ?_ | refine zJ ?_ _)); exact BK150.out) hb); have n1_ := zX (zm (g := gb151) (o := .cells #[.int .i64 a1_0, .string a1_1, .string a1_2, .string a1_3, .int .i64 a1_4] 29 (0, 0)) (by (with_reducible repeat (first | refine zL ?_ _ | refine zM ?_ | refine zJ ?_ _)); exact BK151.out) hb); have n2_ := zX (zT (by repeat (first | (with_reducible first | exact HB.out | apply zF | apply zE | apply zG | refine zK ?_ GE150.out | refine zK ?_ GE151.out) | exact HB.out)) hb); have n3_ := zX (hbox); have n4_ := zX ((by rw [hg]; exact (zY (by repeat (first | (with_reducible first | exact HB.out | apply zF | apply zE | apply zG | refine zK ?_ GE150.out | refine zK ?_ GE151.out) | exact HB.out))) : w.heap.size ≤ gb157)); have n5_ := zX ((by rw [hg]; exact (zY (by repeat (first | (with_reducible first | exact HB.out | apply zF | apply zE | apply zG | refine zK ?_ GE150.out | refine zK ?_ GE151.out) | exact HB.out))) : w.heap.size ≤ gb157)); have n6_ := zX ((by rw [hg]; exact Nat.ne_of_lt (blk_lt (g := gb150) (o := .cells #[.int .i64 a0_0, .int .i64 a0_1, .int .i64 a0_2, .int .i64 a0_3, .int .i64 a0_4] 23 (0, 0)) (by (with_reducible repeat (first | refine zL ?_ _ | refine zM ?_ | refine zJ ?_ _)); exact BK150.out)) : gb150 ≠ gb157)); have n7_ := zX ((by rw [hg]; exact Nat.ne_of_gt (blk_lt (g := gb150) (o := .cells #[.int .i64 a0_0, .int .i64 a0_1, .int .i64 a0_2, .int .i64 a0_3, .int .i64 a0_4] 23 (0, 0)) (by (with_reducible repeat (first | refine zL ?_ _ | refine zM ?_ | refine zJ ?_ _)); exact BK150.out)) : gb157 ≠ gb150)); have n8_ := zX ((by rw [hg]; exact Nat.ne_of_lt (blk_lt (g := gb151) (o := .cells #[.int .i64 a1_0, .string a1_1, .string a1_2, .string a1_3, .int .i64 a1_4] 29 (0, 0)) (by (with_reducible repeat (first | refine zL ?_ _ | refine zM ?_ | refine zJ ?_ _)); exact BK151.out)) : gb151 ≠ gb157)); have n9_ := zX ((by rw [hg]; exact Nat.ne_of_gt (blk_lt (g := gb151) (o := .cells #[.int .i64 a1_0, .string a1_1, .string a1_2, .string a1_3, .int .i64 a1_4] 29 (0, 0)) (by (with_reducible repeat (first | refine zL ?_ _ | refine zM ?_ | refine zJ ?_ _)); exact BK151.out)) : gb157 ≠ gb151)); clear BK150; clear BK151; clear HB; have BK150 := n0_; have BK151 := n1_; have HB := n2_; have BK157 := n3_; have GW157 := n4_; have GE157 := n5_; have NB150_157 := n6_; have NB157_150 := n7_; have NB151_157 := n8_; have NB157_151 := n9_; clear n0_ n1_ n2_ n3_ n4_ n5_ n6_ n7_ n8_ n9_; clear hb hbox hg; have hnb53 := NB157_150.out; have hnc53 := NB150_157.out; have hnb54 := NB157_151.out; have hnc54 := NB151_157.out; have hcz55_0 : w52.cell? ⟨gb157, 0, none⟩ = some (.int .i64 0) := (zH BK157.out 0).trans rfl; have hcz55_1 : w52.cell? ⟨gb157, 1, none⟩ = some (.string (⟨#[]⟩ : ByteArray)) := (zH BK157.out 1).trans rfl; have hcz55_2 : w52.cell? ⟨gb157, 2, none⟩ = some (.string (⟨#[]⟩ : ByteArray)) := (zH BK157.out 2).trans rfl; have hcz55_3 : w52.cell? ⟨gb157, 3, none⟩ = some (.string (⟨#[]⟩ : ByteArray)) := (zH BK157.out 3).trans rfl; have hcz55_4 : w52.cell? ⟨gb157, 4, none⟩ = some (.int .i64 0) := (zH BK157.out 4).trans rfl; have hfz55_0 := zI BK157.out 0; have hfz55_1 := zI BK157.out 1; have hfz55_2 := zI BK157.out 2; have hfz55_3 := zI BK157.out 3; have hfz55_4 := zI BK157.out 4; have hcz56_0 : w52.cell? ⟨gb151, 0, none⟩ = some (.int .i64 a1_0) := (zH BK151.out 0).trans rfl; have hcz56_1 : w52.cell? ⟨gb151, 1, none⟩ = some (.string a1_1) := (zH BK151.out 1).trans rfl; have hcz56_2 : w52.cell? ⟨gb151, 2, none⟩ = some (.string a1_2) := (zH BK151.out 2).trans rfl; have hcz56_3 : w52.cell? ⟨gb151, 3, none⟩ = some (.string a1_3) := (zH BK151.out 3).trans rfl; have hcz56_4 : w52.cell? ⟨gb151, 4, none⟩ = some (.int .i64 a1_4) := (zH BK151.out 4).trans rfl; have hfz56_0 := zI BK151.out 0; have hfz56_1 := zI BK151.out 1; have hfz56_2 := zI BK151.out 2; have hfz56_3 := zI BK151.out 3; have hfz56_4 := zI BK151.out 4) | ((with_reducible refine gate_callee (f := 59) rfl ?_); refine goesL_ (some 11) rfl rfl Tryd.func59 (by kernel_rfl) rfl #[.int .i64 a1_0] rfl (by (try simp only [zS, zU, zV]); first | done | rfl | (simp only [zO, zN]; rfl)) ?_; (with_reducible refine (call_is.calls a1_0 false _ A4.out).mono ?_); rintro e w' ⟨rfl, ⟨nd, rfl⟩⟩; refine ⟨_, rfl, ?_⟩))
    go_ret
    exact ⟨by first | rfl | (simp [errW_none, errW_some] <;> rfl) | (simp [*, errW_none, errW_some] <;> rfl), by repeat (first | (with_reducible first | exact HB.out | apply zF | apply zE | apply zG | refine zK ?_ GE150.out | refine zK ?_ GE151.out | refine zK ?_ GE157.out) | exact HB.out)⟩

/-! ### model_fits: function 25 -/
def model_fits.f (k : Nat) (a0_0 : Int) (a0_1 : Int) (a0_2 : Int) (a0_3 : Int) (a0_4 : Int) (a1_0 : Int) (a1_1 : ByteArray) (a1_2 : ByteArray) (a1_3 : ByteArray) (a1_4 : Int) : Option (Bool) := (call_May.f k a0_0 a0_1 a0_2 a0_3 a0_4).bind fun t161 => (if t161 = 0 then ((call_Fits.f k a0_0 a0_1 a0_2 a0_3 a0_4 a1_0 a1_1 a1_2 a1_3 a1_4).bind fun t162 => (some (t162 == 0))) else (some false))
set_option maxHeartbeats 8000000 in
set_option maxRecDepth 100000 in
theorem model_fits.calls (k : Nat) (a0_0 : Int) (a0_1 : Int) (a0_2 : Int) (a0_3 : Int) (a0_4 : Int) (a1_0 : Int) (a1_1 : ByteArray) (a1_2 : ByteArray) (a1_3 : ByteArray) (a1_4 : Int) (r : Bool) (w : World) (hL : LaidU w) (h : model_fits.f k a0_0 a0_1 a0_2 a0_3 a0_4 a1_0 a1_1 a1_2 a1_3 a1_4 = some r) :
    Calls Tryd.prog 25 #[.agg #[.int .i64 a0_0, .int .i64 a0_1, .int .i64 a0_2, .int .i64 a0_3, .int .i64 a0_4], .agg #[.int .i64 a1_0, .string a1_1, .string a1_2, .string a1_3, .int .i64 a1_4]] w fun e w' => e = .returned (.bool r) ∧ Below w.heap.size w w' := by
  have HLAID := zX hL
  clear hL
  have hu23 := Tryd.underlying23
  have hu29 := Tryd.underlying29
  have HB := zX (zi w.heap.size w)
  have H : ((call_May.f k a0_0 a0_1 a0_2 a0_3 a0_4).bind fun t161 => (if t161 = 0 then ((call_Fits.f k a0_0 a0_1 a0_2 a0_3 a0_4 a1_0 a1_1 a1_2 a1_3 a1_4).bind fun t162 => (some (t162 == 0))) else (some false))) = some r := h
  clear h
  replace H := Option.bind_eq_some_iff.mp H
  obtain ⟨t161, A30, H⟩ := H
  replace H : (if t161 = 0 then ((call_Fits.f k a0_0 a0_1 a0_2 a0_3 a0_4 a1_0 a1_1 a1_2 a1_3 a1_4).bind fun t162 => (some (t162 == 0))) else (some false)) = some r := H
  have A3 := zX A30
  clear A30
  by_cases c4 : t161 = 0
  · rw [if_pos c4] at H
    have c4b0 : (t161 == 0) = true := beq_iff_eq.mpr c4
    have c4b1 : (t161 != 0) = false := bne_eq_false_iff_eq.mpr c4
    clear c4
    replace H := Option.bind_eq_some_iff.mp H
    obtain ⟨t162, A50, H⟩ := H
    replace H : (some (t162 == 0)) = some r := H
    have A5 := zX A50
    clear A50
    obtain rfl := zQ H
    go_enter Tryd.func25, Tryd.ntmps25
    go_wp2_with (first | ((with_reducible refine gate_dst (N := 2) rfl ?_); refine box_event ?hg (N := 2) ?hd (cs := #[.int .i64 a0_0, .int .i64 a0_1, .int .i64 a0_2, .int .i64 a0_3, .int .i64 a0_4]) (t := 23) ?hr ?_; (case hd => rfl); (case hg => rfl); (case hr => first | (go_simp; done) | (go_simp; rfl)); intro gb159 hg w6 hbox hb; have n0_ := zX (zT (by repeat (first | (with_reducible first | exact HB.out | apply zF | apply zE | apply zG) | exact HB.out)) hb); have n1_ := zX (hbox); have n2_ := zX ((by rw [hg]; exact (zY (by repeat (first | (with_reducible first | exact HB.out | apply zF | apply zE | apply zG) | exact HB.out))) : w.heap.size ≤ gb159)); have n3_ := zX ((by rw [hg]; exact (zY (by repeat (first | (with_reducible first | exact HB.out | apply zF | apply zE | apply zG) | exact HB.out))) : w.heap.size ≤ gb159)); clear HB; have HB := n0_; have BK159 := n1_; have GW159 := n2_; have GE159 := n3_; clear n0_ n1_ n2_ n3_; clear hb hbox hg) | ((with_reducible refine gate_dst (N := 3) rfl ?_); refine box_event ?hg (N := 3) ?hd (cs := #[.int .i64 a1_0, .string a1_1, .string a1_2, .string a1_3, .int .i64 a1_4]) (t := 29) ?hr ?_; (case hd => rfl); (case hg => rfl); (case hr => first | (go_simp; done) | (go_simp; rfl)); intro gb160 hg w7 hbox hb; have n0_ := zX (zm (g := gb159) (o := .cells #[.int .i64 a0_0, .int .i64 a0_1, .int .i64 a0_2, .int .i64 a0_3, .int .i64 a0_4] 23 (0, 0)) (by (with_reducible repeat (first | refine zL ?_ _ | refine zM ?_ | refine zJ ?_ _)); exact BK159.out) hb); have n1_ := zX (zT (by repeat (first | (with_reducible first | exact HB.out | apply zF | apply zE | apply zG | refine zK ?_ GE159.out) | exact HB.out)) hb); have n2_ := zX (hbox); have n3_ := zX ((by rw [hg]; exact (zY (by repeat (first | (with_reducible first | exact HB.out | apply zF | apply zE | apply zG | refine zK ?_ GE159.out) | exact HB.out))) : w.heap.size ≤ gb160)); have n4_ := zX ((by rw [hg]; exact (zY (by repeat (first | (with_reducible first | exact HB.out | apply zF | apply zE | apply zG | refine zK ?_ GE159.out) | exact HB.out))) : w.heap.size ≤ gb160)); have n5_ := zX ((by rw [hg]; exact Nat.ne_of_lt (blk_lt (g := gb159) (o := .cells #[.int .i64 a0_0, .int .i64 a0_1, .int .i64 a0_2, .int .i64 a0_3, .int .i64 a0_4] 23 (0, 0)) (by (with_reducible repeat (first | refine zL ?_ _ | refine zM ?_ | refine zJ ?_ _)); exact BK159.out)) : gb159 ≠ gb160)); have n6_ := zX ((by rw [hg]; exact Nat.ne_of_gt (blk_lt (g := gb159) (o := .cells #[.int .i64 a0_0, .int .i64 a0_1, .int .i64 a0_2, .int .i64 a0_3, .int .i64 a0_4] 23 (0, 0)) (by (with_reducible repeat (first | refine zL ?_ _ | refine zM ?_ | refine zJ ?_ _)); exact BK159.out)) : gb160 ≠ gb159)); clear BK159; clear HB; have BK159 := n0_; have HB := n1_; have BK160 := n2_; have GW160 := n3_; have GE160 := n4_; have NB159_160 := n5_; have NB160_159 := n6_; clear n0_ n1_ n2_ n3_ n4_ n5_ n6_; clear hb hbox hg; have hnb8 := NB159_160.out; have hnc8 := NB160_159.out; have hcz9_0 : w7.cell? ⟨gb159, 0, none⟩ = some (.int .i64 a0_0) := (zH BK159.out 0).trans rfl; have hcz9_1 : w7.cell? ⟨gb159, 1, none⟩ = some (.int .i64 a0_1) := (zH BK159.out 1).trans rfl; have hcz9_2 : w7.cell? ⟨gb159, 2, none⟩ = some (.int .i64 a0_2) := (zH BK159.out 2).trans rfl; have hcz9_3 : w7.cell? ⟨gb159, 3, none⟩ = some (.int .i64 a0_3) := (zH BK159.out 3).trans rfl; have hcz9_4 : w7.cell? ⟨gb159, 4, none⟩ = some (.int .i64 a0_4) := (zH BK159.out 4).trans rfl; have hfz9_0 := zI BK159.out 0; have hfz9_1 := zI BK159.out 1; have hfz9_2 := zI BK159.out 2; have hfz9_3 := zI BK159.out 3; have hfz9_4 := zI BK159.out 4) | ((with_reducible refine gate_callee (f := 54) rfl ?_); refine goesL_ (some 6) rfl rfl Tryd.func54 (by kernel_rfl) rfl #[.agg #[.int .i64 a0_0, .int .i64 a0_1, .int .i64 a0_2, .int .i64 a0_3, .int .i64 a0_4]] rfl (by (try simp only [zS, zU, zV]); first | done | rfl | (simp only [zO, zN]; rfl)) ?_; (with_reducible refine (call_May.calls k a0_0 a0_1 a0_2 a0_3 a0_4 t161 _ A3.out).mono ?_); rintro e w10 ⟨rfl, hb⟩; refine ⟨_, rfl, ?_⟩; have n0_ := zX (zm (g := gb159) (o := .cells #[.int .i64 a0_0, .int .i64 a0_1, .int .i64 a0_2, .int .i64 a0_3, .int .i64 a0_4] 23 (0, 0)) (by (with_reducible repeat (first | refine zL ?_ _ | refine zM ?_ | refine zJ ?_ _)); exact BK159.out) hb); have n1_ := zX (zm (g := gb160) (o := .cells #[.int .i64 a1_0, .string a1_1, .string a1_2, .string a1_3, .int .i64 a1_4] 29 (0, 0)) (by (with_reducible repeat (first | refine zL ?_ _ | refine zM ?_ | refine zJ ?_ _)); exact BK160.out) hb); have n2_ := zX (zT (by repeat (first | (with_reducible first | exact HB.out | apply zF | apply zE | apply zG | refine zK ?_ GE159.out | refine zK ?_ GE160.out) | exact HB.out)) hb); clear BK159; clear BK160; clear HB; have BK159 := n0_; have BK160 := n1_; have HB := n2_; clear n0_ n1_ n2_; (try clear hb); (try clear hb2); (try clear hk); (try clear hi); have hcz11_0 : w10.cell? ⟨gb159, 0, none⟩ = some (.int .i64 a0_0) := (zH BK159.out 0).trans rfl; have hcz11_1 : w10.cell? ⟨gb159, 1, none⟩ = some (.int .i64 a0_1) := (zH BK159.out 1).trans rfl; have hcz11_2 : w10.cell? ⟨gb159, 2, none⟩ = some (.int .i64 a0_2) := (zH BK159.out 2).trans rfl; have hcz11_3 : w10.cell? ⟨gb159, 3, none⟩ = some (.int .i64 a0_3) := (zH BK159.out 3).trans rfl; have hcz11_4 : w10.cell? ⟨gb159, 4, none⟩ = some (.int .i64 a0_4) := (zH BK159.out 4).trans rfl; have hfz11_0 := zI BK159.out 0; have hfz11_1 := zI BK159.out 1; have hfz11_2 := zI BK159.out 2; have hfz11_3 := zI BK159.out 3; have hfz11_4 := zI BK159.out 4; have hcz12_0 : w10.cell? ⟨gb160, 0, none⟩ = some (.int .i64 a1_0) := (zH BK160.out 0).trans rfl; have hcz12_1 : w10.cell? ⟨gb160, 1, none⟩ = some (.string a1_1) := (zH BK160.out 1).trans rfl; have hcz12_2 : w10.cell? ⟨gb160, 2, none⟩ = some (.string a1_2) := (zH BK160.out 2).trans rfl; have hcz12_3 : w10.cell? ⟨gb160, 3, none⟩ = some (.string a1_3) := (zH BK160.out 3).trans rfl; have hcz12_4 : w10.cell? ⟨gb160, 4, none⟩ = some (.int .i64 a1_4) := (zH BK160.out 4).trans rfl; have hfz12_0 := zI BK160.out 0; have hfz12_1 := zI BK160.out 1; have hfz12_2 := zI BK160.out 2; have hfz12_3 := zI BK160.out 3; have hfz12_4 := zI BK160.out 4) | (go_at_call 55; (with_reducible refine (call_Fits.calls k a0_0 a0_1 a0_2 a0_3 a0_4 a1_0 a1_1 a1_2 a1_3 a1_4 t162 _ ?side1 A5.out).mono ?_); (case side1 => exact laidU_below HLAID.out (by repeat (first | (with_reducible first | exact HB.out | apply zF | apply zE | apply zG | refine zK ?_ GE159.out | refine zK ?_ GE160.out) | exact HB.out))); rintro e w13 ⟨rfl, hb⟩; have n0_ := zX (zm (g := gb159) (o := .cells #[.int .i64 a0_0, .int .i64 a0_1, .int .i64 a0_2, .int .i64 a0_3, .int .i64 a0_4] 23 (0, 0)) (by (with_reducible repeat (first | refine zL ?_ _ | refine zM ?_ | refine zJ ?_ _)); exact BK159.out) hb); have n1_ := zX (zm (g := gb160) (o := .cells #[.int .i64 a1_0, .string a1_1, .string a1_2, .string a1_3, .int .i64 a1_4] 29 (0, 0)) (by (with_reducible repeat (first | refine zL ?_ _ | refine zM ?_ | refine zJ ?_ _)); exact BK160.out) hb); have n2_ := zX (zT (by repeat (first | (with_reducible first | exact HB.out | apply zF | apply zE | apply zG | refine zK ?_ GE159.out | refine zK ?_ GE160.out) | exact HB.out)) hb); clear BK159; clear BK160; clear HB; have BK159 := n0_; have BK160 := n1_; have HB := n2_; clear n0_ n1_ n2_; (try clear hb); (try clear hb2); (try clear hk); (try clear hi)))
    go_ret
    exact ⟨by first | rfl | (simp [errW_none, errW_some] <;> rfl) | (simp [*, errW_none, errW_some] <;> rfl), by repeat (first | (with_reducible first | exact HB.out | apply zF | apply zE | apply zG | refine zK ?_ GE159.out | refine zK ?_ GE160.out) | exact HB.out)⟩
  · rw [if_neg c4] at H
    have c4b0 : (t161 == 0) = false := beq_eq_false_iff_ne.mpr c4
    have c4b1 : (t161 != 0) = true := bne_iff_ne.mpr c4
    obtain rfl := zQ H
    go_enter Tryd.func25, Tryd.ntmps25
    go_wp2_with (first | ((with_reducible refine gate_dst (N := 2) rfl ?_); refine box_event ?hg (N := 2) ?hd (cs := #[.int .i64 a0_0, .int .i64 a0_1, .int .i64 a0_2, .int .i64 a0_3, .int .i64 a0_4]) (t := 23) ?hr ?_; (case hd => rfl); (case hg => rfl); (case hr => first | (go_simp; done) | (go_simp; rfl)); intro gb159 hg w14 hbox hb; have n0_ := zX (zT (by repeat (first | (with_reducible first | exact HB.out | apply zF | apply zE | apply zG) | exact HB.out)) hb); have n1_ := zX (hbox); have n2_ := zX ((by rw [hg]; exact (zY (by repeat (first | (with_reducible first | exact HB.out | apply zF | apply zE | apply zG) | exact HB.out))) : w.heap.size ≤ gb159)); have n3_ := zX ((by rw [hg]; exact (zY (by repeat (first | (with_reducible first | exact HB.out | apply zF | apply zE | apply zG) | exact HB.out))) : w.heap.size ≤ gb159)); clear HB; have HB := n0_; have BK159 := n1_; have GW159 := n2_; have GE159 := n3_; clear n0_ n1_ n2_ n3_; clear hb hbox hg) | ((with_reducible refine gate_dst (N := 3) rfl ?_); refine box_event ?hg (N := 3) ?hd (cs := #[.int .i64 a1_0, .string a1_1, .string a1_2, .string a1_3, .int .i64 a1_4]) (t := 29) ?hr ?_; (case hd => rfl); (case hg => rfl); (case hr => first | (go_simp; done) | (go_simp; rfl)); intro gb160 hg w15 hbox hb; have n0_ := zX (zm (g := gb159) (o := .cells #[.int .i64 a0_0, .int .i64 a0_1, .int .i64 a0_2, .int .i64 a0_3, .int .i64 a0_4] 23 (0, 0)) (by (with_reducible repeat (first | refine zL ?_ _ | refine zM ?_ | refine zJ ?_ _)); exact BK159.out) hb); have n1_ := zX (zT (by repeat (first | (with_reducible first | exact HB.out | apply zF | apply zE | apply zG | refine zK ?_ GE159.out) | exact HB.out)) hb); have n2_ := zX (hbox); have n3_ := zX ((by rw [hg]; exact (zY (by repeat (first | (with_reducible first | exact HB.out | apply zF | apply zE | apply zG | refine zK ?_ GE159.out) | exact HB.out))) : w.heap.size ≤ gb160)); have n4_ := zX ((by rw [hg]; exact (zY (by repeat (first | (with_reducible first | exact HB.out | apply zF | apply zE | apply zG | refine zK ?_ GE159.out) | exact HB.out))) : w.heap.size ≤ gb160)); have n5_ := zX ((by rw [hg]; exact Nat.ne_of_lt (blk_lt (g := gb159) (o := .cells #[.int .i64 a0_0, .int .i64 a0_1, .int .i64 a0_2, .int .i64 a0_3, .int .i64 a0_4] 23 (0, 0)) (by (with_reducible repeat (first | refine zL ?_ _ | refine zM ?_ | refine zJ ?_ _)); exact BK159.out)) : gb159 ≠ gb160)); have n6_ := zX ((by rw [hg]; exact Nat.ne_of_gt (blk_lt (g := gb159) (o := .cells #[.int .i64 a0_0, .int .i64 a0_1, .int .i64 a0_2, .int .i64 a0_3, .int .i64 a0_4] 23 (0, 0)) (by (with_reducible repeat (first | refine zL ?_ _ | refine zM ?_ | refine zJ ?_ _)); exact BK159.out)) : gb160 ≠ gb159)); clear BK159; clear HB; have BK159 := n0_; have HB := n1_; have BK160 := n2_; have GW160 := n3_; have GE160 := n4_; have NB159_160 := n5_; have NB160_159 := n6_; clear n0_ n1_ n2_ n3_ n4_ n5_ n6_; clear hb hbox hg; have hnb16 := NB159_160.out; have hnc16 := NB160_159.out; have hcz17_0 : w15.cell? ⟨gb159, 0, none⟩ = some (.int .i64 a0_0) := (zH BK159.out 0).trans rfl; have hcz17_1 : w15.cell? ⟨gb159, 1, none⟩ = some (.int .i64 a0_1) := (zH BK159.out 1).trans rfl; have hcz17_2 : w15.cell? ⟨gb159, 2, none⟩ = some (.int .i64 a0_2) := (zH BK159.out 2).trans rfl; have hcz17_3 : w15.cell? ⟨gb159, 3, none⟩ = some (.int .i64 a0_3) := (zH BK159.out 3).trans rfl; have hcz17_4 : w15.cell? ⟨gb159, 4, none⟩ = some (.int .i64 a0_4) := (zH BK159.out 4).trans rfl; have hfz17_0 := zI BK159.out 0; have hfz17_1 := zI BK159.out 1; have hfz17_2 := zI BK159.out 2; have hfz17_3 := zI BK159.out 3; have hfz17_4 := zI BK159.out 4) | ((with_reducible refine gate_callee (f := 54) rfl ?_); refine goesL_ (some 6) rfl rfl Tryd.func54 (by kernel_rfl) rfl #[.agg #[.int .i64 a0_0, .int .i64 a0_1, .int .i64 a0_2, .int .i64 a0_3, .int .i64 a0_4]] rfl (by (try simp only [zS, zU, zV]); first | done | rfl | (simp only [zO, zN]; rfl)) ?_; (with_reducible refine (call_May.calls k a0_0 a0_1 a0_2 a0_3 a0_4 t161 _ A3.out).mono ?_); rintro e w18 ⟨rfl, hb⟩; refine ⟨_, rfl, ?_⟩; have n0_ := zX (zm (g := gb159) (o := .cells #[.int .i64 a0_0, .int .i64 a0_1, .int .i64 a0_2, .int .i64 a0_3, .int .i64 a0_4] 23 (0, 0)) (by (with_reducible repeat (first | refine zL ?_ _ | refine zM ?_ | refine zJ ?_ _)); exact BK159.out) hb); have n1_ := zX (zm (g := gb160) (o := .cells #[.int .i64 a1_0, .string a1_1, .string a1_2, .string a1_3, .int .i64 a1_4] 29 (0, 0)) (by (with_reducible repeat (first | refine zL ?_ _ | refine zM ?_ | refine zJ ?_ _)); exact BK160.out) hb); have n2_ := zX (zT (by repeat (first | (with_reducible first | exact HB.out | apply zF | apply zE | apply zG | refine zK ?_ GE159.out | refine zK ?_ GE160.out) | exact HB.out)) hb); clear BK159; clear BK160; clear HB; have BK159 := n0_; have BK160 := n1_; have HB := n2_; clear n0_ n1_ n2_; (try clear hb); (try clear hb2); (try clear hk); (try clear hi)))
    go_ret
    exact ⟨by first | rfl | (simp [errW_none, errW_some] <;> rfl) | (simp [*, errW_none, errW_some] <;> rfl), by repeat (first | (with_reducible first | exact HB.out | apply zF | apply zE | apply zG | refine zK ?_ GE159.out | refine zK ?_ GE160.out) | exact HB.out)⟩

/-! ### model_held: function 30 -/
-- FULL boscage/model.held
-- KIND rounds=0 making=1
/-- Where something is held; -1: nowhere. -/
def heldL (l : List S72) (id : Int) : Int := match l.findIdx? (fun h => h.f0 == id) with | some i => (i : Int) | none => -1
theorem heldL_at {l : List S72} {id : Int} {i : Nat} {x : S72} (hx : l[i]? = some x) (he : (x.f0 == id) = true) (hb : ∀ j y, j < i → l[j]? = some y → (y.f0 == id) = false) : heldL l id = (i : Int) := by
  obtain ⟨hi, rfl⟩ := List.getElem?_eq_some_iff.1 hx
  have : l.findIdx? (fun h => h.f0 == id) = some i := by
    rw [List.findIdx?_eq_some_iff_getElem]
    refine ⟨hi, he, fun j hj => ?_⟩
    have := hb j l[j] hj (List.getElem?_eq_getElem (by omega))
    simp [this]
  unfold heldL
  rw [this]
theorem heldL_no {l : List S72} {id : Int} (hb : ∀ j y, j < l.length → l[j]? = some y → (y.f0 == id) = false) : heldL l id = -1 := by
  have : l.findIdx? (fun h => h.f0 == id) = none := by
    rw [List.findIdx?_eq_none_iff]
    intro y hy
    obtain ⟨j, hj, rfl⟩ := List.getElem_of_mem hy
    exact hb j _ hj (List.getElem?_eq_getElem hj)
  unfold heldL
  rw [this]
/-- The closure that held hands to the search. -/
theorem held_closure (a id : Int) (v : Value) (p : Addr) (w : World) (hp : w.cell? p = some (.int .i64 id)) (hne : p.block < w.heap.size) :
    Calls Tryd.prog 61 #[.agg #[.int .i64 a, v], .pointer (some p)] w fun e w' => e = .returned (.bool (a == id)) ∧ Below w.heap.size w w' := by
  go_enter Tryd.func61, Tryd.ntmps61
  go_wp2
  go_ret
  exact ⟨rfl, (zi _ _).alloc (Nat.le_refl _) _⟩
set_option maxHeartbeats 4000000 in
theorem index_calls (A0 : Option Addr) (c0 : Nat) (l0 : List S72) (id : Int) (p : Addr) (w : World) (hr0 : Kd.C k72 w A0 l0.length l0) (hp : w.cell? p = some (.int .i64 id)) (F : Value) (hF : F = Value.func (.func 61) #[] #[.pointer (some p)]) :
    Calls Tryd.prog 60 #[.slice A0 l0.length c0, F] w fun e w' => e = .returned (.int .i64 (heldL l0 id)) ∧ Below w.heap.size w w' := by
  have HR0 := zX hr0
  have hpb := zB w _ hp
  have HP := Lib.hid (fun (W : World) (hb : Below w.heap.size w W) => ((hb.cell hpb).trans hp : W.cell? p = some (.int .i64 id)))
  have HPB := Lib.hid hpb
  have hm : l0.length ≤ 9223372036854775807 := Kd.C_max hr0
  clear hr0 hp hpb
  subst hF
  go_enter Tryd.func60, Tryd.ntmps60
  go_wp2
  go_loopw [8] (fun si wr => ∃ i : Nat, i ≤ l0.length ∧ si = .int .i64 i ∧ Aside0 (∀ j y, j < i → l0[j]? = some y → (y.f0 == id) = false) ∧ Aside0 (Below w.heap.size w wr)) (fun si _ => l0.length - (intOf si).toNat)
  case atStart => exact ⟨0, by omega, rfl, ⟨fun j y hj => by omega⟩, ⟨zi _ _⟩⟩
  case round =>
    obtain ⟨i, hi, rfl, HN, HB⟩ := hrel
    by_cases hil : i < l0.length
    · obtain ⟨x, hx⟩ : ∃ x, l0[i]? = some x := ⟨l0[i], List.getElem?_eq_getElem hil⟩
      obtain ⟨ad, A1, c1, e, hx0, hx1, _, _⟩ := at_T72 (zZ HR0.out HB.out) (i : Int) (by omega) (by omega)
      have hrd : rd_T72 l0 (i : Int) = x := by unfold rd_T72; rw [Int.toNat_natCast, List.getD_eq_getElem?_getD, hx]; rfl
      rw [hrd] at hx0 hx1
      simp only [Int.toNat_natCast] at hx0 hx1
      subst e
      have HCL := Lib.hid (fun (v : Value) => held_closure x.f0 id v p wr (HP.out wr HB.out) (Nat.lt_of_lt_of_le HPB.out HB.out.size))
      have HX := Lib.hid hx
      clear hrd hx
      cases hc : x.f0 == id with
      | true =>
        rw [hc] at HCL
        have HC := Lib.hid hc
        clear hc
        go_wp2_with (go_at_call 61; refine (HCL.out _).mono ?_; rintro e w1 ⟨rfl, hb⟩; have HB1 := zX hb; clear hb)
        go_ret
        exact ⟨by rw [heldL_at HX.out HC.out HN.out]; rfl, HB.out.trans (HB1.out.mono HB.out.size)⟩
      | false =>
        rw [hc] at HCL
        have HC := Lib.hid hc
        clear hc
        go_wp2_with (go_at_call 61; refine (HCL.out _).mono ?_; rintro e w1 ⟨rfl, hb⟩; have HB1 := zX hb; clear hb)
        go_roundw
        case rel =>
          refine ⟨i + 1, by omega, by go_num, ⟨fun j y hj hy => ?_⟩, ⟨HB.out.trans (HB1.out.mono HB.out.size)⟩⟩
          by_cases e : j = i
          · subst e
            obtain rfl := zQ (HX.out.symm.trans hy)
            exact HC.out
          · exact HN.out j y (by omega) hy
        case measure => simp [intOf]; omega
    · obtain rfl : i = l0.length := by omega
      go_wp2
      go_ret
      exact ⟨by rw [heldL_no HN.out]; rfl, HB.out⟩
def model_held.f (l0_0 : List S65) (l0_1 : List S72) (a1 : Int) : Option Int := some (heldL l0_1 a1)
set_option maxHeartbeats 4000000 in
theorem model_held.calls (A0_0 : Option Addr) (c0_0 : Nat) (l0_0 : List S65) (A0_1 : Option Addr) (c0_1 : Nat) (l0_1 : List S72) (a1 : Int) (r : Int) (w : World) (hr0_0 : Kd.C k65 w A0_0 l0_0.length l0_0) (hc0_0 : l0_0.length ≤ c0_0) (hr0_1 : Kd.C k72 w A0_1 l0_1.length l0_1) (hc0_1 : l0_1.length ≤ c0_1) (h : model_held.f l0_0 l0_1 a1 = some r) :
    Calls Tryd.prog 30 #[.agg #[.slice A0_0 l0_0.length c0_0, .slice A0_1 l0_1.length c0_1], .int .i64 a1] w fun e w' => e = .returned (.int .i64 r) ∧ Below w.heap.size w w' := by
  obtain rfl : heldL l0_1 a1 = r := zQ h
  have HI := Lib.hid (fun (W : World) (hb : Below w.heap.size w W) (p : Addr) (hp : W.cell? p = some (.int .i64 a1)) => index_calls A0_1 c0_1 l0_1 a1 p W (zZ hr0_1 hb) hp _ rfl)
  clear h hr0_0 hr0_1
  go_enter Tryd.func30, Tryd.ntmps30
  go_wp2_with fail
  refine (HI.out _ (by repeat (first | exact zi _ _ | apply zF)) _ (by go_simp)).mono ?_
  rintro e w1 ⟨rfl, hb⟩
  have HB := zX hb
  clear hb
  go_wp2
  go_ret
  exact ⟨rfl, zT (by repeat (first | exact zi _ _ | apply zF)) HB.out⟩

/-! ### order_Common: function 73 -/
-- FULL boscage/order.Common
-- KIND rounds=0 making=1
theorem ret_int {k : IntKind} {a b : Int} (h : a = b) : Ending.returned (.int k a) = .returned (.int k b) := by rw [h]
def order_Common.f (a0 a1 : ByteArray) : Option Int := if a0.size ≤ 1099511627776 ∧ a1.size ≤ 1099511627776 then some (comS a0 a1 : Int) else none
theorem common_stop {a b : ByteArray} {k : Nat} (h1 : k ≤ a.size) (h2 : k ≤ b.size) (h3 : ∀ j, j < k → a.data[j]? = b.data[j]?) (h4 : k = a.size ∨ k = b.size ∨ a.data[k]? ≠ b.data[k]?) : comS a b = k :=
  comL_of _ _ k (by simpa using h1) (by simpa using h2) (fun j hj => by simpa using h3 j hj) (by simpa using h4)
set_option maxHeartbeats 2000000 in
theorem order_Common.calls (a0 a1 : ByteArray) (r : Int) (w : World) (h : order_Common.f a0 a1 = some r) :
    Calls Tryd.prog 73 #[.string a0, .string a1] w fun e w' => e = .returned (.int .i64 r) ∧ Below w.heap.size w w' := by
  have hs : a0.size ≤ 1099511627776 ∧ a1.size ≤ 1099511627776 := by
    unfold order_Common.f at h
    split at h
    · assumption
    · cases h
  obtain rfl : (comS a0 a1 : Int) = r := by
    unfold order_Common.f at h
    rw [if_pos hs] at h
    exact zQ h
  clear h
  obtain ⟨hs0, hs1⟩ := hs
  by_cases hc : a1.size < a0.size
  all_goals
    go_enter Tryd.func73, Tryd.ntmps73
    go_wp2
    go_loopw [6, 13] (fun _ i wr => ∃ k nq : Nat, k ≤ a0.size ∧ k ≤ a1.size ∧ i = .int .i64 k ∧ wr = w.drewN nq ∧ Hid (∀ j, j < k → a0.data[j]? = a1.data[j]?)) (fun _ i _ => a0.size + a1.size - (intOf i).toNat)
    case atStart => exact ⟨0, 0, by omega, by omega, rfl, rfl, fun j hj => by omega⟩
    case round =>
      obtain ⟨k, nq, hk0, hk1, rfl, rfl, HE⟩ := hrel
      by_cases hk : k < a0.size ∧ k < a1.size
      · obtain ⟨hk2, hk3⟩ := hk
        by_cases he : a0[k] = a1[k]
        · have hen : ((a0[k].toNat : Int) != (a1[k].toNat : Int)) = false := by rw [he]; simp
          have HEK := Lib.hid he
          clear he
          go_wp2
          go_quiet (fail)
          go_wp2
          go_roundw
          case rel => exact ⟨k + 1, _, by omega, by omega, by go_num, rfl, fun j hj => by
            by_cases e : j = k
            · subst e
              have h1 : a0.data[j]? = some a0[j] := by rw [Array.getElem?_eq_getElem hk2]; rfl
              have h2 : a1.data[j]? = some a1[j] := by rw [Array.getElem?_eq_getElem hk3]; rfl
              rw [h1, h2, HEK.out]
            · exact HE j (by omega)⟩
          case measure => simp [intOf]; omega
        · have hen : ((a0[k].toNat : Int) != (a1[k].toNat : Int)) = true := by
            rw [bne_iff_ne]; intro h; exact he (UInt8.toNat_inj.1 (by omega))
          have hcs := common_stop hk0 hk1 HE (.inr (.inr (by
            have h1 : a0.data[k]? = some a0[k] := by rw [Array.getElem?_eq_getElem hk2]; rfl
            have h2 : a1.data[k]? = some a1[k] := by rw [Array.getElem?_eq_getElem hk3]; rfl
            rw [h1, h2]; intro h; exact he (zQ h))))
          have HCS := Lib.hid hcs
          clear hcs he
          go_wp2
          go_quiet (fail)
          go_wp2
          go_ret
          exact ⟨ret_int (by rw [HCS.out]), by repeat (first | exact zi _ _ | apply zE)⟩
      · have hke : (k = a0.size ∨ k = a1.size) := by omega
        have hcs := common_stop hk0 hk1 HE (hke.elim .inl (fun h => .inr (.inl h)))
        have HCS := Lib.hid hcs
        clear hcs
        have hkm : ¬ k < a1.size ∨ ¬ k < a0.size := by omega
        clear hke hk
        have hkk : ¬ (k < (if a1.size < a0.size then a1.size else a0.size)) := by split <;> omega
        have hkv : k = (if a1.size < a0.size then a1.size else a0.size) := by split <;> omega
        first | rw [if_pos hc] at hkk hkv | rw [if_neg hc] at hkk hkv
        subst hkv
        clear hkm hkk
        go_wp2
        go_ret
        exact ⟨ret_int (by rw [HCS.out]), by repeat (first | exact zi _ _ | apply zE)⟩

/-! ### order_Compare: function 44 -/
-- FULL boscage/order.Compare
-- NEEDS boscage/order.Common
-- KIND rounds=0 making=1
def order_Compare.f (a0 a1 : ByteArray) : Option Int := if a0.size ≤ 1099511627776 ∧ a1.size ≤ 1099511627776 then some (cmpS a0 a1) else none
set_option maxHeartbeats 2000000 in
theorem order_Compare.calls (a0 a1 : ByteArray) (r : Int) (w : World) (h : order_Compare.f a0 a1 = some r) :
    Calls Tryd.prog 44 #[.string a0, .string a1] w fun e w' => e = .returned (.int .i64 r) ∧ Below w.heap.size w w' := by
  have hs : a0.size ≤ 1099511627776 ∧ a1.size ≤ 1099511627776 := by
    unfold order_Compare.f at h
    split at h
    · assumption
    · cases h
  obtain rfl : cmpS a0 a1 = r := by
    unfold order_Compare.f at h
    rw [if_pos hs] at h
    exact zQ h
  clear h
  obtain ⟨hs0, hs1⟩ := hs
  have hc : order_Common.f a0 a1 = some (comS a0 a1 : Int) := by unfold order_Common.f; rw [if_pos ⟨hs0, hs1⟩]
  have HF := Lib.hid hc
  have hle := comL_le a0.data.toList a1.data.toList
  have hval := cmp_com a0.data.toList a1.data.toList
  clear hc
  obtain ⟨c, hcc⟩ : ∃ c, c = comS a0 a1 := ⟨_, rfl⟩
  change comS a0 a1 ≤ _ ∧ comS a0 a1 ≤ _ at hle
  change cmpS a0 a1 = if comS a0 a1 = _ ∧ comS a0 a1 = _ then _ else if comS a0 a1 = _ then _ else if comS a0 a1 = _ then _ else if _ then _ else _ at hval
  change _ = if _ then _ else if _ then _ else if _ then _ else if a1.data.toList.getD (comS a0 a1) 0 < a0.data.toList.getD (comS a0 a1) 0 then _ else _ at hval
  rw [← hcc] at hle hval
  have HF2 : Hid (order_Common.f a0 a1 = some (c : Int)) := Lib.hid (by rw [hcc]; exact HF.out)
  clear HF hcc
  simp only [Array.length_toList] at hle hval
  change c ≤ a0.size ∧ c ≤ a1.size at hle
  change cmpS a0 a1 = if c = a0.size ∧ c = a1.size then _ else if c = a0.size then _ else if c = a1.size then _ else _ at hval
  obtain ⟨hl0, hl1⟩ := hle
  by_cases h0 : c = a0.size
  · by_cases h1 : c = a1.size
    · rw [if_pos ⟨h0, h1⟩] at hval
      have HV := Lib.hid hval
      have b0 : ((c : Int) == (a0.size : Int)) = true := by rw [h0]; simp
      have b1 : ((c : Int) == (a1.size : Int)) = true := by rw [h1]; simp
      clear hval h0 h1
      go_enter Tryd.func44, Tryd.ntmps44
      go_wp2_with (go_at_call 73; refine (order_Common.calls a0 a1 c _ HF2.out).mono ?_; rintro e w1 ⟨rfl, hb⟩; have HB := Lib.hid hb; clear hb)
      go_ret
      exact ⟨ret_int (by rw [HV.out]), by repeat (first | exact HB.out | apply zE)⟩
    · rw [if_neg (fun h => h1 h.2), if_pos h0] at hval
      have HV := Lib.hid hval
      have b0 : ((c : Int) == (a0.size : Int)) = true := by rw [h0]; simp
      have b1 : ((c : Int) == (a1.size : Int)) = false := by rw [beq_eq_false_iff_ne]; omega
      clear hval h0 h1
      go_enter Tryd.func44, Tryd.ntmps44
      go_wp2_with (go_at_call 73; refine (order_Common.calls a0 a1 c _ HF2.out).mono ?_; rintro e w1 ⟨rfl, hb⟩; have HB := Lib.hid hb; clear hb)
      go_ret
      exact ⟨ret_int (by rw [HV.out]), by repeat (first | exact HB.out | apply zE)⟩
  · by_cases h1 : c = a1.size
    · rw [if_neg (fun h => h0 h.1), if_neg h0, if_pos h1] at hval
      have HV := Lib.hid hval
      have b0 : ((c : Int) == (a0.size : Int)) = false := by rw [beq_eq_false_iff_ne]; omega
      have b1 : ((c : Int) == (a1.size : Int)) = true := by rw [h1]; simp
      clear hval h0 h1
      go_enter Tryd.func44, Tryd.ntmps44
      go_wp2_with (go_at_call 73; refine (order_Common.calls a0 a1 c _ HF2.out).mono ?_; rintro e w1 ⟨rfl, hb⟩; have HB := Lib.hid hb; clear hb)
      go_quiet (fail)
      go_wp2
      go_ret
      exact ⟨ret_int (by rw [HV.out]), by repeat (first | exact HB.out | apply zE)⟩
    · rw [if_neg (fun h => h0 h.1), if_neg h0, if_neg h1] at hval
      have b0 : ((c : Int) == (a0.size : Int)) = false := by rw [beq_eq_false_iff_ne]; omega
      have b1 : ((c : Int) == (a1.size : Int)) = false := by rw [beq_eq_false_iff_ne]; omega
      have hk0 : c < a0.size := by omega
      have hk1 : c < a1.size := by omega
      have e0 : a0.data.toList.getD c 0 = a0[c] := by rw [List.getD_eq_getElem?_getD, Array.getElem?_toList, Array.getElem?_eq_getElem hk0]; rfl
      have e1 : a1.data.toList.getD c 0 = a1[c] := by rw [List.getD_eq_getElem?_getD, Array.getElem?_toList, Array.getElem?_eq_getElem hk1]; rfl
      rw [e0, e1] at hval
      clear h0 h1 e0 e1
      by_cases hlt : a1[c] < a0[c]
      · rw [if_pos hlt] at hval
        have HV := Lib.hid hval
        have hg : decide (a1[c].toNat < a0[c].toNat) = true := by rw [decide_eq_true_iff]; rw [UInt8.lt_iff_toNat_lt] at hlt; omega
        clear hval hlt
        go_enter Tryd.func44, Tryd.ntmps44
        go_wp2_with (go_at_call 73; refine (order_Common.calls a0 a1 c _ HF2.out).mono ?_; rintro e w1 ⟨rfl, hb⟩; have HB := Lib.hid hb; clear hb)
        go_quiet (fail)
        go_wp2
        go_ret
        exact ⟨ret_int (by rw [HV.out]), by repeat (first | exact HB.out | apply zE)⟩
      · rw [if_neg hlt] at hval
        have HV := Lib.hid hval
        have hg : decide (a1[c].toNat < a0[c].toNat) = false := by rw [decide_eq_false_iff_not]; rw [UInt8.lt_iff_toNat_lt] at hlt; omega
        clear hval hlt
        go_enter Tryd.func44, Tryd.ntmps44
        go_wp2_with (go_at_call 73; refine (order_Common.calls a0 a1 c _ HF2.out).mono ?_; rintro e w1 ⟨rfl, hb⟩; have HB := Lib.hid hb; clear hb)
        go_quiet (fail)
        go_wp2
        go_ret
        exact ⟨ret_int (by rw [HV.out]), by repeat (first | exact HB.out | apply zE)⟩

end Go.Proofs.YthnococjdeafhaaDoor.PModelKeeps
