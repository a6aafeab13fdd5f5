-- printed by a program of the session (wip/hyb/mkprint.py)
import Derived.Test.YtipdhjdlfdbkiaaPHistAddsx0
import Derived.Test.YtipdhjdlfdbkiaaPHistAddsx1
import Derived.Test.YtipdhjdlfdbkiaaPHistAddsx2
import Derived.Test.YtipdhjdlfdbkiaaPHistAddsx4
namespace Go.Proofs.Ytipdhjdlfdbkiaa.PHistAdds
open Go.RowKit Go.Proofs.YtipdhjdlfdbkiaaW.PrintWords Go.Proofs.YtipdhjdlfdbkiaaW.PrintLast Go.Proofs.YtipdhjdlfdbkiaaW.PrintMore
attribute [local go_sem] max2_int min2_int max_two min_two max_three min_three max_four min_four   -- for this text's walks alone
set_option linter.unusedVariables false
set_option linter.unusedSimpArgs false

attribute [local go_sem high] eqA74 eqA76
/-! ### boscageref32_Err: function 79 -/
mutual
def boscageref32_Err.j0 : Nat → List (S127) → Int → Bool → Bool → Int → Int → ByteArray → ByteArray → ByteArray → Int → Int → Bool → ByteArray → ByteArray → Int → Option (Int)
  | 0, _, _, _, _, _, _, _, _, _, _, _, _, _, _, _ => none
  | k + 1, x0, x1, x19, x114000, x114001, x114002, x114003, x114004, x114005, x114006, x114007, x114008, x114009, x114010, x114011 => if x19 = true then (some 2) else ((boscageref32_last.f k x0 x114001 x1).bind fun t114 => (if t114 ≥ 0 then (if 0 ≤ t114 then (if t114 < (x0.length : Int) then (boscageref32_Err.j1 k x0 t114 (!((rd_T127 x0 t114).f0)) x114000 x114001 x114002 x114003 x114004 x114005 x114006 x114007 x114008 x114009 x114010 x114011) else (none)) else (none)) else (boscageref32_Err.j1 k x0 t114 false x114000 x114001 x114002 x114003 x114004 x114005 x114006 x114007 x114008 x114009 x114010 x114011)))
def boscageref32_Err.j1 : Nat → List (S127) → Int → Bool → Bool → Int → Int → ByteArray → ByteArray → ByteArray → Int → Int → Bool → ByteArray → ByteArray → Int → Option (Int)
  | 0, _, _, _, _, _, _, _, _, _, _, _, _, _, _, _ => none
  | k + 1, x0, x6, x7, x114000, x114001, x114002, x114003, x114004, x114005, x114006, x114007, x114008, x114009, x114010, x114011 => if (x7 != x114000) = true then (some 4) else (if x114000 = true then (if 0 ≤ x6 then (if x6 < (x0.length : Int) then (if (!(((rd_T127 x0 x6).f2.f0) == x114002) || (!((((rd_T127 x0 x6).f2.f1).toList) == x114003.toList) || (!((((rd_T127 x0 x6).f2.f2).toList) == x114004.toList) || (!((((rd_T127 x0 x6).f2.f3).toList) == x114005.toList) || (!(((rd_T127 x0 x6).f2.f4) == x114006)))))) = true then (some 4) else (some 0)) else (none)) else (none)) else (if (!(x114007 == 0) || (x114008 || (!(x114009.toList == ([] : List UInt8)) || (!(x114010.toList == ([] : List UInt8)) || (!(x114011 == 0)))))) = true then (some 4) else (some 0)))
end
def boscageref32_Err.f (k : Nat) (l0 : List (S127)) (a1 : Int) : Option (Int) := if 0 ≤ a1 then (if a1 < (l0.length : Int) then (if ((rd_T127 l0 a1).f1) < 0 then (boscageref32_Err.j0 k l0 a1 true ((rd_T127 l0 a1).f0) ((rd_T127 l0 a1).f1) ((rd_T127 l0 a1).f2.f0) ((rd_T127 l0 a1).f2.f1) ((rd_T127 l0 a1).f2.f2) ((rd_T127 l0 a1).f2.f3) ((rd_T127 l0 a1).f2.f4) ((rd_T127 l0 a1).f3.f0) ((rd_T127 l0 a1).f3.f1) ((rd_T127 l0 a1).f3.f2) ((rd_T127 l0 a1).f3.f3) ((rd_T127 l0 a1).f3.f4)) else (boscageref32_Err.j0 k l0 a1 (decide (((rd_T127 l0 a1).f1) > 63)) ((rd_T127 l0 a1).f0) ((rd_T127 l0 a1).f1) ((rd_T127 l0 a1).f2.f0) ((rd_T127 l0 a1).f2.f1) ((rd_T127 l0 a1).f2.f2) ((rd_T127 l0 a1).f2.f3) ((rd_T127 l0 a1).f2.f4) ((rd_T127 l0 a1).f3.f0) ((rd_T127 l0 a1).f3.f1) ((rd_T127 l0 a1).f3.f2) ((rd_T127 l0 a1).f3.f3) ((rd_T127 l0 a1).f3.f4))) else (none)) else (none)
theorem boscageref32_Err.mono_l : ∀ k, (∀ y0 y1 y2 y3 y4 y5 y6 y7 y8 y9 y10 y11 y12 y13 y14, LeO (boscageref32_Err.j0 k y0 y1 y2 y3 y4 y5 y6 y7 y8 y9 y10 y11 y12 y13 y14) (boscageref32_Err.j0 (k + 1) y0 y1 y2 y3 y4 y5 y6 y7 y8 y9 y10 y11 y12 y13 y14)) ∧ (∀ y0 y1 y2 y3 y4 y5 y6 y7 y8 y9 y10 y11 y12 y13 y14, LeO (boscageref32_Err.j1 k y0 y1 y2 y3 y4 y5 y6 y7 y8 y9 y10 y11 y12 y13 y14) (boscageref32_Err.j1 (k + 1) y0 y1 y2 y3 y4 y5 y6 y7 y8 y9 y10 y11 y12 y13 y14))
  | 0 => ⟨fun _ _ _ _ _ _ _ _ _ _ _ _ _ _ _ r h => by simp [boscageref32_Err.j0] at h, fun _ _ _ _ _ _ _ _ _ _ _ _ _ _ _ r h => by simp [boscageref32_Err.j1] at h⟩
  | k + 1 => by
    obtain ⟨ih0, ih1⟩ := boscageref32_Err.mono_l k
    refine ⟨?_, ?_⟩
    · intro y0 y1 y2 y3 y4 y5 y6 y7 y8 y9 y10 y11 y12 y13 y14
      unfold boscageref32_Err.j0
      repeat' first
      | (with_reducible exact ih0 _ _ _ _ _ _ _ _ _ _ _ _ _ _ _)
      | (with_reducible exact ih1 _ _ _ _ _ _ _ _ _ _ _ _ _ _ _)
      | (with_reducible exact boscageref32_last.mono _ _ _ _)
      | (with_reducible exact LeO.refl _)
      | (with_reducible exact LeO.none _)
      | (with_reducible refine LeO.ite ?_ ?_)
      | (with_reducible refine LeO.bind ?_ (fun _ => ?_))
      | exact ih0 _ _ _ _ _ _ _ _ _ _ _ _ _ _ _
      | exact ih1 _ _ _ _ _ _ _ _ _ _ _ _ _ _ _
      | exact boscageref32_last.mono _ _ _ _
      | exact LeO.none _
      | refine LeO.ite ?_ ?_
      | refine LeO.bind ?_ (fun _ => ?_)
    · intro y0 y1 y2 y3 y4 y5 y6 y7 y8 y9 y10 y11 y12 y13 y14
      unfold boscageref32_Err.j1
      repeat' first
      | (with_reducible exact ih0 _ _ _ _ _ _ _ _ _ _ _ _ _ _ _)
      | (with_reducible exact ih1 _ _ _ _ _ _ _ _ _ _ _ _ _ _ _)
      | (with_reducible exact boscageref32_last.mono _ _ _ _)
      | (with_reducible exact LeO.refl _)
      | (with_reducible exact LeO.none _)
      | (with_reducible refine LeO.ite ?_ ?_)
      | (with_reducible refine LeO.bind ?_ (fun _ => ?_))
      | exact ih0 _ _ _ _ _ _ _ _ _ _ _ _ _ _ _
      | exact ih1 _ _ _ _ _ _ _ _ _ _ _ _ _ _ _
      | exact boscageref32_last.mono _ _ _ _
      | exact LeO.none _
      | refine LeO.ite ?_ ?_
      | refine LeO.bind ?_ (fun _ => ?_)
theorem boscageref32_Err.mono : ∀ a0 a1 k, LeO (boscageref32_Err.f k a0 a1) (boscageref32_Err.f (k + 1) a0 a1) := by
  intro a0 a1 k
  obtain ⟨ih0, ih1⟩ := boscageref32_Err.mono_l k
  unfold boscageref32_Err.f
  repeat' first
      | (with_reducible exact ih0 _ _ _ _ _ _ _ _ _ _ _ _ _ _ _)
      | (with_reducible exact ih1 _ _ _ _ _ _ _ _ _ _ _ _ _ _ _)
      | (with_reducible exact boscageref32_last.mono _ _ _ _)
      | (with_reducible exact LeO.refl _)
      | (with_reducible exact LeO.none _)
      | (with_reducible refine LeO.ite ?_ ?_)
      | (with_reducible refine LeO.bind ?_ (fun _ => ?_))
      | exact ih0 _ _ _ _ _ _ _ _ _ _ _ _ _ _ _
      | exact ih1 _ _ _ _ _ _ _ _ _ _ _ _ _ _ _
      | exact boscageref32_last.mono _ _ _ _
      | exact LeO.none _
      | refine LeO.ite ?_ ?_
      | refine LeO.bind ?_ (fun _ => ?_)
set_option maxHeartbeats 8000000 in
set_option maxRecDepth 100000 in
theorem boscageref32_Err.calls (k : Nat) (A0 : Option Addr) (c0 : Nat) (l0 : List (S127)) (a1 : Int) (r : Int) (w : World) (hr0 : Kd.C k127 w A0 l0.length l0) (hc0 : l0.length ≤ c0) (h : boscageref32_Err.f k l0 a1 = some r) :
    Calls Try.prog 79 #[.slice A0 l0.length c0, .int .i64 a1] w fun e w' => e = .returned (.int .i64 r) ∧ Below w.heap.size w w' := by
  have hu127 := Try.underlying127
  have hu74 := Try.underlying74
  have hu76 := Try.underlying76
  have HR0 := Aside0.mk hr0
  have HC0 := Aside0.mk hc0
  clear hr0 hc0
  have HB := Aside0.mk (Below.refl w.heap.size w)
  have H : (if 0 ≤ a1 then (if a1 < (l0.length : Int) then (if ((rd_T127 l0 a1).f1) < 0 then (boscageref32_Err.j0 k l0 a1 true ((rd_T127 l0 a1).f0) ((rd_T127 l0 a1).f1) ((rd_T127 l0 a1).f2.f0) ((rd_T127 l0 a1).f2.f1) ((rd_T127 l0 a1).f2.f2) ((rd_T127 l0 a1).f2.f3) ((rd_T127 l0 a1).f2.f4) ((rd_T127 l0 a1).f3.f0) ((rd_T127 l0 a1).f3.f1) ((rd_T127 l0 a1).f3.f2) ((rd_T127 l0 a1).f3.f3) ((rd_T127 l0 a1).f3.f4)) else (boscageref32_Err.j0 k l0 a1 (decide (((rd_T127 l0 a1).f1) > 63)) ((rd_T127 l0 a1).f0) ((rd_T127 l0 a1).f1) ((rd_T127 l0 a1).f2.f0) ((rd_T127 l0 a1).f2.f1) ((rd_T127 l0 a1).f2.f2) ((rd_T127 l0 a1).f2.f3) ((rd_T127 l0 a1).f2.f4) ((rd_T127 l0 a1).f3.f0) ((rd_T127 l0 a1).f3.f1) ((rd_T127 l0 a1).f3.f2) ((rd_T127 l0 a1).f3.f3) ((rd_T127 l0 a1).f3.f4))) else (none)) else (none)) = some r := h
  clear h
  by_cases c3 : 0 ≤ a1
  · rw [if_pos c3] at H
    have c3b0 : decide (0 ≤ a1) = true := decide_eq_true c3
    clear c3
    by_cases c4 : a1 < (l0.length : Int)
    · rw [if_pos c4] at H
      have c4b0 : decide (a1 < (l0.length : Int)) = true := decide_eq_true c4
      clear c4
      have HC5 := Aside0.mk H
      clear H
      have p112 : 0 ≤ (a1 : Int) := of_decide_eq_true (by first | (with_reducible assumption) | assumption)
      have q112 : a1 < (l0.length : Int) := of_decide_eq_true (by first | (with_reducible assumption) | assumption)
      obtain ⟨ad112, e112, hx112_0, hx112_1, hx112_2, hx112_3, hx112_4, hx112_5, hx112_6, hx112_7, hx112_8, hx112_9, hx112_10, hx112_11⟩ := at_T127 HR0.out a1 p112 q112
      cases e112
      replace p112 := eq_true p112
      replace q112 := eq_true q112
      go_enter Try.func79, Try.ntmps79
      go_upto_region 2 with (first | ((with_reducible refine gate_dst (N := 5) rfl ?_); refine box_event ?hg (N := 5) ?hd (cs := #[.bool false, .int .i64 0, .int .i64 0, .string (⟨#[]⟩ : ByteArray), .string (⟨#[]⟩ : ByteArray), .string (⟨#[]⟩ : ByteArray), .int .i64 0, .int .i64 0, .bool false, .string (⟨#[]⟩ : ByteArray), .string (⟨#[]⟩ : ByteArray), .int .i64 0]) (t := 127) ?hr ?_; (case hd => rfl); (case hg => rfl); (case hr => first | (go_simp; done) | (go_simp; rfl)); intro gb113 hg w6 hbox hb; have n0_ := Aside0.mk (below_step (by repeat (first | (with_reducible first | exact HB.out | apply below_alloc | apply pw_below_drewN | apply below_drew1) | exact HB.out)) hb); have n1_ := Aside0.mk (hbox); have n2_ := Aside0.mk ((by rw [hg]; exact (below_size (by repeat (first | (with_reducible first | exact HB.out | apply below_alloc | apply pw_below_drewN | apply below_drew1) | exact HB.out))) : w.heap.size ≤ gb113)); have n3_ := Aside0.mk ((by rw [hg]; exact (below_size (by repeat (first | (with_reducible first | exact HB.out | apply below_alloc | apply pw_below_drewN | apply below_drew1) | exact HB.out))) : w.heap.size ≤ gb113)); clear HB; have HB := n0_; have BK113 := n1_; have GW113 := n2_; have GE113 := n3_; clear n0_ n1_ n2_ n3_; clear hb hbox hg; have hcz7_0 : w6.cell? ⟨gb113, 0, none⟩ = some (.bool false) := (blk_cell BK113.out 0).trans rfl; have hcz7_1 : w6.cell? ⟨gb113, 1, none⟩ = some (.int .i64 0) := (blk_cell BK113.out 1).trans rfl; have hcz7_2 : w6.cell? ⟨gb113, 2, none⟩ = some (.int .i64 0) := (blk_cell BK113.out 2).trans rfl; have hcz7_3 : w6.cell? ⟨gb113, 3, none⟩ = some (.string (⟨#[]⟩ : ByteArray)) := (blk_cell BK113.out 3).trans rfl; have hcz7_4 : w6.cell? ⟨gb113, 4, none⟩ = some (.string (⟨#[]⟩ : ByteArray)) := (blk_cell BK113.out 4).trans rfl; have hcz7_5 : w6.cell? ⟨gb113, 5, none⟩ = some (.string (⟨#[]⟩ : ByteArray)) := (blk_cell BK113.out 5).trans rfl; have hcz7_6 : w6.cell? ⟨gb113, 6, none⟩ = some (.int .i64 0) := (blk_cell BK113.out 6).trans rfl; have hcz7_7 : w6.cell? ⟨gb113, 7, none⟩ = some (.int .i64 0) := (blk_cell BK113.out 7).trans rfl; have hcz7_8 : w6.cell? ⟨gb113, 8, none⟩ = some (.bool false) := (blk_cell BK113.out 8).trans rfl; have hcz7_9 : w6.cell? ⟨gb113, 9, none⟩ = some (.string (⟨#[]⟩ : ByteArray)) := (blk_cell BK113.out 9).trans rfl; have hcz7_10 : w6.cell? ⟨gb113, 10, none⟩ = some (.string (⟨#[]⟩ : ByteArray)) := (blk_cell BK113.out 10).trans rfl; have hcz7_11 : w6.cell? ⟨gb113, 11, none⟩ = some (.int .i64 0) := (blk_cell BK113.out 11).trans rfl; have hfz7_0 := blk_frozen BK113.out 0; have hfz7_1 := blk_frozen BK113.out 1; have hfz7_2 := blk_frozen BK113.out 2; have hfz7_3 := blk_frozen BK113.out 3; have hfz7_4 := blk_frozen BK113.out 4; have hfz7_5 := blk_frozen BK113.out 5; have hfz7_6 := blk_frozen BK113.out 6; have hfz7_7 := blk_frozen BK113.out 7; have hfz7_8 := blk_frozen BK113.out 8; have hfz7_9 := blk_frozen BK113.out 9; have hfz7_10 := blk_frozen BK113.out 10; have hfz7_11 := blk_frozen BK113.out 11))
      repeat (go_quiet (first | ((with_reducible refine gate_dst (N := 5) rfl ?_); refine box_event ?hg (N := 5) ?hd (cs := #[.bool false, .int .i64 0, .int .i64 0, .string (⟨#[]⟩ : ByteArray), .string (⟨#[]⟩ : ByteArray), .string (⟨#[]⟩ : ByteArray), .int .i64 0, .int .i64 0, .bool false, .string (⟨#[]⟩ : ByteArray), .string (⟨#[]⟩ : ByteArray), .int .i64 0]) (t := 127) ?hr ?_; (case hd => rfl); (case hg => rfl); (case hr => first | (go_simp; done) | (go_simp; rfl)); intro gb113 hg w6 hbox hb; have n0_ := Aside0.mk (below_step (by repeat (first | (with_reducible first | exact HB.out | apply below_alloc | apply pw_below_drewN | apply below_drew1) | exact HB.out)) hb); have n1_ := Aside0.mk (hbox); have n2_ := Aside0.mk ((by rw [hg]; exact (below_size (by repeat (first | (with_reducible first | exact HB.out | apply below_alloc | apply pw_below_drewN | apply below_drew1) | exact HB.out))) : w.heap.size ≤ gb113)); have n3_ := Aside0.mk ((by rw [hg]; exact (below_size (by repeat (first | (with_reducible first | exact HB.out | apply below_alloc | apply pw_below_drewN | apply below_drew1) | exact HB.out))) : w.heap.size ≤ gb113)); clear HB; have HB := n0_; have BK113 := n1_; have GW113 := n2_; have GE113 := n3_; clear n0_ n1_ n2_ n3_; clear hb hbox hg; have hcz7_0 : w6.cell? ⟨gb113, 0, none⟩ = some (.bool false) := (blk_cell BK113.out 0).trans rfl; have hcz7_1 : w6.cell? ⟨gb113, 1, none⟩ = some (.int .i64 0) := (blk_cell BK113.out 1).trans rfl; have hcz7_2 : w6.cell? ⟨gb113, 2, none⟩ = some (.int .i64 0) := (blk_cell BK113.out 2).trans rfl; have hcz7_3 : w6.cell? ⟨gb113, 3, none⟩ = some (.string (⟨#[]⟩ : ByteArray)) := (blk_cell BK113.out 3).trans rfl; have hcz7_4 : w6.cell? ⟨gb113, 4, none⟩ = some (.string (⟨#[]⟩ : ByteArray)) := (blk_cell BK113.out 4).trans rfl; have hcz7_5 : w6.cell? ⟨gb113, 5, none⟩ = some (.string (⟨#[]⟩ : ByteArray)) := (blk_cell BK113.out 5).trans rfl; have hcz7_6 : w6.cell? ⟨gb113, 6, none⟩ = some (.int .i64 0) := (blk_cell BK113.out 6).trans rfl; have hcz7_7 : w6.cell? ⟨gb113, 7, none⟩ = some (.int .i64 0) := (blk_cell BK113.out 7).trans rfl; have hcz7_8 : w6.cell? ⟨gb113, 8, none⟩ = some (.bool false) := (blk_cell BK113.out 8).trans rfl; have hcz7_9 : w6.cell? ⟨gb113, 9, none⟩ = some (.string (⟨#[]⟩ : ByteArray)) := (blk_cell BK113.out 9).trans rfl; have hcz7_10 : w6.cell? ⟨gb113, 10, none⟩ = some (.string (⟨#[]⟩ : ByteArray)) := (blk_cell BK113.out 10).trans rfl; have hcz7_11 : w6.cell? ⟨gb113, 11, none⟩ = some (.int .i64 0) := (blk_cell BK113.out 11).trans rfl; have hfz7_0 := blk_frozen BK113.out 0; have hfz7_1 := blk_frozen BK113.out 1; have hfz7_2 := blk_frozen BK113.out 2; have hfz7_3 := blk_frozen BK113.out 3; have hfz7_4 := blk_frozen BK113.out 4; have hfz7_5 := blk_frozen BK113.out 5; have hfz7_6 := blk_frozen BK113.out 6; have hfz7_7 := blk_frozen BK113.out 7; have hfz7_8 := blk_frozen BK113.out 8; have hfz7_9 := blk_frozen BK113.out 9; have hfz7_10 := blk_frozen BK113.out 10; have hfz7_11 := blk_frozen BK113.out 11)); go_upto_region 2 with (first | ((with_reducible refine gate_dst (N := 5) rfl ?_); refine box_event ?hg (N := 5) ?hd (cs := #[.bool false, .int .i64 0, .int .i64 0, .string (⟨#[]⟩ : ByteArray), .string (⟨#[]⟩ : ByteArray), .string (⟨#[]⟩ : ByteArray), .int .i64 0, .int .i64 0, .bool false, .string (⟨#[]⟩ : ByteArray), .string (⟨#[]⟩ : ByteArray), .int .i64 0]) (t := 127) ?hr ?_; (case hd => rfl); (case hg => rfl); (case hr => first | (go_simp; done) | (go_simp; rfl)); intro gb113 hg w6 hbox hb; have n0_ := Aside0.mk (below_step (by repeat (first | (with_reducible first | exact HB.out | apply below_alloc | apply pw_below_drewN | apply below_drew1) | exact HB.out)) hb); have n1_ := Aside0.mk (hbox); have n2_ := Aside0.mk ((by rw [hg]; exact (below_size (by repeat (first | (with_reducible first | exact HB.out | apply below_alloc | apply pw_below_drewN | apply below_drew1) | exact HB.out))) : w.heap.size ≤ gb113)); have n3_ := Aside0.mk ((by rw [hg]; exact (below_size (by repeat (first | (with_reducible first | exact HB.out | apply below_alloc | apply pw_below_drewN | apply below_drew1) | exact HB.out))) : w.heap.size ≤ gb113)); clear HB; have HB := n0_; have BK113 := n1_; have GW113 := n2_; have GE113 := n3_; clear n0_ n1_ n2_ n3_; clear hb hbox hg; have hcz7_0 : w6.cell? ⟨gb113, 0, none⟩ = some (.bool false) := (blk_cell BK113.out 0).trans rfl; have hcz7_1 : w6.cell? ⟨gb113, 1, none⟩ = some (.int .i64 0) := (blk_cell BK113.out 1).trans rfl; have hcz7_2 : w6.cell? ⟨gb113, 2, none⟩ = some (.int .i64 0) := (blk_cell BK113.out 2).trans rfl; have hcz7_3 : w6.cell? ⟨gb113, 3, none⟩ = some (.string (⟨#[]⟩ : ByteArray)) := (blk_cell BK113.out 3).trans rfl; have hcz7_4 : w6.cell? ⟨gb113, 4, none⟩ = some (.string (⟨#[]⟩ : ByteArray)) := (blk_cell BK113.out 4).trans rfl; have hcz7_5 : w6.cell? ⟨gb113, 5, none⟩ = some (.string (⟨#[]⟩ : ByteArray)) := (blk_cell BK113.out 5).trans rfl; have hcz7_6 : w6.cell? ⟨gb113, 6, none⟩ = some (.int .i64 0) := (blk_cell BK113.out 6).trans rfl; have hcz7_7 : w6.cell? ⟨gb113, 7, none⟩ = some (.int .i64 0) := (blk_cell BK113.out 7).trans rfl; have hcz7_8 : w6.cell? ⟨gb113, 8, none⟩ = some (.bool false) := (blk_cell BK113.out 8).trans rfl; have hcz7_9 : w6.cell? ⟨gb113, 9, none⟩ = some (.string (⟨#[]⟩ : ByteArray)) := (blk_cell BK113.out 9).trans rfl; have hcz7_10 : w6.cell? ⟨gb113, 10, none⟩ = some (.string (⟨#[]⟩ : ByteArray)) := (blk_cell BK113.out 10).trans rfl; have hcz7_11 : w6.cell? ⟨gb113, 11, none⟩ = some (.int .i64 0) := (blk_cell BK113.out 11).trans rfl; have hfz7_0 := blk_frozen BK113.out 0; have hfz7_1 := blk_frozen BK113.out 1; have hfz7_2 := blk_frozen BK113.out 2; have hfz7_3 := blk_frozen BK113.out 3; have hfz7_4 := blk_frozen BK113.out 4; have hfz7_5 := blk_frozen BK113.out 5; have hfz7_6 := blk_frozen BK113.out 6; have hfz7_7 := blk_frozen BK113.out 7; have hfz7_8 := blk_frozen BK113.out 8; have hfz7_9 := blk_frozen BK113.out 9; have hfz7_10 := blk_frozen BK113.out 10; have hfz7_11 := blk_frozen BK113.out 11)))
      (try simp only [Act.put, List.setIfInBounds_toArray, List.set_cons_zero, List.set_cons_succ])
      go_cut [19] (fun v19 wc => ∃ (kq : Nat) (x19_4 : Bool), v19 = .bool x19_4 ∧ Aside0 (boscageref32_Err.j0 kq l0 a1 x19_4 ((rd_T127 l0 a1).f0) ((rd_T127 l0 a1).f1) ((rd_T127 l0 a1).f2.f0) ((rd_T127 l0 a1).f2.f1) ((rd_T127 l0 a1).f2.f2) ((rd_T127 l0 a1).f2.f3) ((rd_T127 l0 a1).f2.f4) ((rd_T127 l0 a1).f3.f0) ((rd_T127 l0 a1).f3.f1) ((rd_T127 l0 a1).f3.f2) ((rd_T127 l0 a1).f3.f3) ((rd_T127 l0 a1).f3.f4) = some r) ∧ Aside0 (kq ≤ k) ∧ Aside0 (wc.heap[gb113]? = some (.cells #[.bool ((rd_T127 l0 a1).f0), .int .i64 ((rd_T127 l0 a1).f1), .int .i64 ((rd_T127 l0 a1).f2.f0), .string ((rd_T127 l0 a1).f2.f1), .string ((rd_T127 l0 a1).f2.f2), .string ((rd_T127 l0 a1).f2.f3), .int .i64 ((rd_T127 l0 a1).f2.f4), .int .i64 ((rd_T127 l0 a1).f3.f0), .bool ((rd_T127 l0 a1).f3.f1), .string ((rd_T127 l0 a1).f3.f2), .string ((rd_T127 l0 a1).f3.f3), .int .i64 ((rd_T127 l0 a1).f3.f4)] 127 (0, 0))) ∧ Aside0 (Below w.heap.size w wc))
      case first =>
        have H := HC5.out
        clear HC5
        by_cases c8 : ((rd_T127 l0 a1).f1) < 0
        · rw [if_pos c8] at H
          have c8b0 : decide (((rd_T127 l0 a1).f1) < 0) = true := decide_eq_true c8
          clear c8
          (first | rw [c8b0] | (simp only [i64_w, i32_w]; rw [c8b0]) | skip)
          have H' := Aside0.mk H
          clear H
          have hcz9_0 : w6.cell? ⟨gb113, 0, none⟩ = some (.bool false) := (blk_cell BK113.out 0).trans rfl
          have hcz9_1 : w6.cell? ⟨gb113, 1, none⟩ = some (.int .i64 0) := (blk_cell BK113.out 1).trans rfl
          have hcz9_2 : w6.cell? ⟨gb113, 2, none⟩ = some (.int .i64 0) := (blk_cell BK113.out 2).trans rfl
          have hcz9_3 : w6.cell? ⟨gb113, 3, none⟩ = some (.string (⟨#[]⟩ : ByteArray)) := (blk_cell BK113.out 3).trans rfl
          have hcz9_4 : w6.cell? ⟨gb113, 4, none⟩ = some (.string (⟨#[]⟩ : ByteArray)) := (blk_cell BK113.out 4).trans rfl
          have hcz9_5 : w6.cell? ⟨gb113, 5, none⟩ = some (.string (⟨#[]⟩ : ByteArray)) := (blk_cell BK113.out 5).trans rfl
          have hcz9_6 : w6.cell? ⟨gb113, 6, none⟩ = some (.int .i64 0) := (blk_cell BK113.out 6).trans rfl
          have hcz9_7 : w6.cell? ⟨gb113, 7, none⟩ = some (.int .i64 0) := (blk_cell BK113.out 7).trans rfl
          have hcz9_8 : w6.cell? ⟨gb113, 8, none⟩ = some (.bool false) := (blk_cell BK113.out 8).trans rfl
          have hcz9_9 : w6.cell? ⟨gb113, 9, none⟩ = some (.string (⟨#[]⟩ : ByteArray)) := (blk_cell BK113.out 9).trans rfl
          have hcz9_10 : w6.cell? ⟨gb113, 10, none⟩ = some (.string (⟨#[]⟩ : ByteArray)) := (blk_cell BK113.out 10).trans rfl
          have hcz9_11 : w6.cell? ⟨gb113, 11, none⟩ = some (.int .i64 0) := (blk_cell BK113.out 11).trans rfl
          have hfz9_0 := blk_frozen BK113.out 0
          have hfz9_1 := blk_frozen BK113.out 1
          have hfz9_2 := blk_frozen BK113.out 2
          have hfz9_3 := blk_frozen BK113.out 3
          have hfz9_4 := blk_frozen BK113.out 4
          have hfz9_5 := blk_frozen BK113.out 5
          have hfz9_6 := blk_frozen BK113.out 6
          have hfz9_7 := blk_frozen BK113.out 7
          have hfz9_8 := blk_frozen BK113.out 8
          have hfz9_9 := blk_frozen BK113.out 9
          have hfz9_10 := blk_frozen BK113.out 10
          have hfz9_11 := blk_frozen BK113.out 11
          go_wp2
          repeat (go_quiet (fail); try go_wp2)
          go_meet
          case rel => exact ⟨_, (true), (by first | rfl | (simp; done) | (simp [*]; done)), H', ⟨by first | omega | exact Nat.le_refl _⟩, ⟨by (with_reducible repeat (first | refine blk_drewN ?_ _ | refine blk_drew ?_ | refine blk_alloc ?_ _)); refine blk_put (cs := #[.bool ((rd_T127 l0 a1).f0), .int .i64 ((rd_T127 l0 a1).f1), .int .i64 ((rd_T127 l0 a1).f2.f0), .string ((rd_T127 l0 a1).f2.f1), .string ((rd_T127 l0 a1).f2.f2), .string ((rd_T127 l0 a1).f2.f3), .int .i64 ((rd_T127 l0 a1).f2.f4), .int .i64 ((rd_T127 l0 a1).f3.f0), .bool ((rd_T127 l0 a1).f3.f1), .string ((rd_T127 l0 a1).f3.f2), .string ((rd_T127 l0 a1).f3.f3), .int .i64 0]) ?_ 11 _ rfl; (with_reducible repeat (first | refine blk_drewN ?_ _ | refine blk_drew ?_ | refine blk_alloc ?_ _)); refine blk_put (cs := #[.bool ((rd_T127 l0 a1).f0), .int .i64 ((rd_T127 l0 a1).f1), .int .i64 ((rd_T127 l0 a1).f2.f0), .string ((rd_T127 l0 a1).f2.f1), .string ((rd_T127 l0 a1).f2.f2), .string ((rd_T127 l0 a1).f2.f3), .int .i64 ((rd_T127 l0 a1).f2.f4), .int .i64 ((rd_T127 l0 a1).f3.f0), .bool ((rd_T127 l0 a1).f3.f1), .string ((rd_T127 l0 a1).f3.f2), .string (⟨#[]⟩ : ByteArray), .int .i64 0]) ?_ 10 _ rfl; (with_reducible repeat (first | refine blk_drewN ?_ _ | refine blk_drew ?_ | refine blk_alloc ?_ _)); refine blk_put (cs := #[.bool ((rd_T127 l0 a1).f0), .int .i64 ((rd_T127 l0 a1).f1), .int .i64 ((rd_T127 l0 a1).f2.f0), .string ((rd_T127 l0 a1).f2.f1), .string ((rd_T127 l0 a1).f2.f2), .string ((rd_T127 l0 a1).f2.f3), .int .i64 ((rd_T127 l0 a1).f2.f4), .int .i64 ((rd_T127 l0 a1).f3.f0), .bool ((rd_T127 l0 a1).f3.f1), .string (⟨#[]⟩ : ByteArray), .string (⟨#[]⟩ : ByteArray), .int .i64 0]) ?_ 9 _ rfl; (with_reducible repeat (first | refine blk_drewN ?_ _ | refine blk_drew ?_ | refine blk_alloc ?_ _)); refine blk_put (cs := #[.bool ((rd_T127 l0 a1).f0), .int .i64 ((rd_T127 l0 a1).f1), .int .i64 ((rd_T127 l0 a1).f2.f0), .string ((rd_T127 l0 a1).f2.f1), .string ((rd_T127 l0 a1).f2.f2), .string ((rd_T127 l0 a1).f2.f3), .int .i64 ((rd_T127 l0 a1).f2.f4), .int .i64 ((rd_T127 l0 a1).f3.f0), .bool false, .string (⟨#[]⟩ : ByteArray), .string (⟨#[]⟩ : ByteArray), .int .i64 0]) ?_ 8 _ rfl; (with_reducible repeat (first | refine blk_drewN ?_ _ | refine blk_drew ?_ | refine blk_alloc ?_ _)); refine blk_put (cs := #[.bool ((rd_T127 l0 a1).f0), .int .i64 ((rd_T127 l0 a1).f1), .int .i64 ((rd_T127 l0 a1).f2.f0), .string ((rd_T127 l0 a1).f2.f1), .string ((rd_T127 l0 a1).f2.f2), .string ((rd_T127 l0 a1).f2.f3), .int .i64 ((rd_T127 l0 a1).f2.f4), .int .i64 0, .bool false, .string (⟨#[]⟩ : ByteArray), .string (⟨#[]⟩ : ByteArray), .int .i64 0]) ?_ 7 _ rfl; (with_reducible repeat (first | refine blk_drewN ?_ _ | refine blk_drew ?_ | refine blk_alloc ?_ _)); refine blk_put (cs := #[.bool ((rd_T127 l0 a1).f0), .int .i64 ((rd_T127 l0 a1).f1), .int .i64 ((rd_T127 l0 a1).f2.f0), .string ((rd_T127 l0 a1).f2.f1), .string ((rd_T127 l0 a1).f2.f2), .string ((rd_T127 l0 a1).f2.f3), .int .i64 0, .int .i64 0, .bool false, .string (⟨#[]⟩ : ByteArray), .string (⟨#[]⟩ : ByteArray), .int .i64 0]) ?_ 6 _ rfl; (with_reducible repeat (first | refine blk_drewN ?_ _ | refine blk_drew ?_ | refine blk_alloc ?_ _)); refine blk_put (cs := #[.bool ((rd_T127 l0 a1).f0), .int .i64 ((rd_T127 l0 a1).f1), .int .i64 ((rd_T127 l0 a1).f2.f0), .string ((rd_T127 l0 a1).f2.f1), .string ((rd_T127 l0 a1).f2.f2), .string (⟨#[]⟩ : ByteArray), .int .i64 0, .int .i64 0, .bool false, .string (⟨#[]⟩ : ByteArray), .string (⟨#[]⟩ : ByteArray), .int .i64 0]) ?_ 5 _ rfl; (with_reducible repeat (first | refine blk_drewN ?_ _ | refine blk_drew ?_ | refine blk_alloc ?_ _)); refine blk_put (cs := #[.bool ((rd_T127 l0 a1).f0), .int .i64 ((rd_T127 l0 a1).f1), .int .i64 ((rd_T127 l0 a1).f2.f0), .string ((rd_T127 l0 a1).f2.f1), .string (⟨#[]⟩ : ByteArray), .string (⟨#[]⟩ : ByteArray), .int .i64 0, .int .i64 0, .bool false, .string (⟨#[]⟩ : ByteArray), .string (⟨#[]⟩ : ByteArray), .int .i64 0]) ?_ 4 _ rfl; (with_reducible repeat (first | refine blk_drewN ?_ _ | refine blk_drew ?_ | refine blk_alloc ?_ _)); refine blk_put (cs := #[.bool ((rd_T127 l0 a1).f0), .int .i64 ((rd_T127 l0 a1).f1), .int .i64 ((rd_T127 l0 a1).f2.f0), .string (⟨#[]⟩ : ByteArray), .string (⟨#[]⟩ : ByteArray), .string (⟨#[]⟩ : ByteArray), .int .i64 0, .int .i64 0, .bool false, .string (⟨#[]⟩ : ByteArray), .string (⟨#[]⟩ : ByteArray), .int .i64 0]) ?_ 3 _ rfl; (with_reducible repeat (first | refine blk_drewN ?_ _ | refine blk_drew ?_ | refine blk_alloc ?_ _)); refine blk_put (cs := #[.bool ((rd_T127 l0 a1).f0), .int .i64 ((rd_T127 l0 a1).f1), .int .i64 0, .string (⟨#[]⟩ : ByteArray), .string (⟨#[]⟩ : ByteArray), .string (⟨#[]⟩ : ByteArray), .int .i64 0, .int .i64 0, .bool false, .string (⟨#[]⟩ : ByteArray), .string (⟨#[]⟩ : ByteArray), .int .i64 0]) ?_ 2 _ rfl; (with_reducible repeat (first | refine blk_drewN ?_ _ | refine blk_drew ?_ | refine blk_alloc ?_ _)); refine blk_put (cs := #[.bool ((rd_T127 l0 a1).f0), .int .i64 0, .int .i64 0, .string (⟨#[]⟩ : ByteArray), .string (⟨#[]⟩ : ByteArray), .string (⟨#[]⟩ : ByteArray), .int .i64 0, .int .i64 0, .bool false, .string (⟨#[]⟩ : ByteArray), .string (⟨#[]⟩ : ByteArray), .int .i64 0]) ?_ 1 _ rfl; (with_reducible repeat (first | refine blk_drewN ?_ _ | refine blk_drew ?_ | refine blk_alloc ?_ _)); refine blk_put (cs := #[.bool false, .int .i64 0, .int .i64 0, .string (⟨#[]⟩ : ByteArray), .string (⟨#[]⟩ : ByteArray), .string (⟨#[]⟩ : ByteArray), .int .i64 0, .int .i64 0, .bool false, .string (⟨#[]⟩ : ByteArray), .string (⟨#[]⟩ : ByteArray), .int .i64 0]) ?_ 0 _ rfl; (with_reducible repeat (first | refine blk_drewN ?_ _ | refine blk_drew ?_ | refine blk_alloc ?_ _)); exact BK113.out⟩, ⟨by repeat (first | (with_reducible first | exact HB.out | apply below_alloc | apply pw_below_drewN | apply below_drew1 | refine below_set ?_ GE113.out) | exact HB.out)⟩⟩
        · rw [if_neg c8] at H
          have c8b0 : decide (((rd_T127 l0 a1).f1) < 0) = false := decide_eq_false c8
          clear c8
          (first | rw [c8b0] | (simp only [i64_w, i32_w]; rw [c8b0]) | skip)
          have H' := Aside0.mk H
          clear H
          have hcz10_0 : w6.cell? ⟨gb113, 0, none⟩ = some (.bool false) := (blk_cell BK113.out 0).trans rfl
          have hcz10_1 : w6.cell? ⟨gb113, 1, none⟩ = some (.int .i64 0) := (blk_cell BK113.out 1).trans rfl
          have hcz10_2 : w6.cell? ⟨gb113, 2, none⟩ = some (.int .i64 0) := (blk_cell BK113.out 2).trans rfl
          have hcz10_3 : w6.cell? ⟨gb113, 3, none⟩ = some (.string (⟨#[]⟩ : ByteArray)) := (blk_cell BK113.out 3).trans rfl
          have hcz10_4 : w6.cell? ⟨gb113, 4, none⟩ = some (.string (⟨#[]⟩ : ByteArray)) := (blk_cell BK113.out 4).trans rfl
          have hcz10_5 : w6.cell? ⟨gb113, 5, none⟩ = some (.string (⟨#[]⟩ : ByteArray)) := (blk_cell BK113.out 5).trans rfl
          have hcz10_6 : w6.cell? ⟨gb113, 6, none⟩ = some (.int .i64 0) := (blk_cell BK113.out 6).trans rfl
          have hcz10_7 : w6.cell? ⟨gb113, 7, none⟩ = some (.int .i64 0) := (blk_cell BK113.out 7).trans rfl
          have hcz10_8 : w6.cell? ⟨gb113, 8, none⟩ = some (.bool false) := (blk_cell BK113.out 8).trans rfl
          have hcz10_9 : w6.cell? ⟨gb113, 9, none⟩ = some (.string (⟨#[]⟩ : ByteArray)) := (blk_cell BK113.out 9).trans rfl
          have hcz10_10 : w6.cell? ⟨gb113, 10, none⟩ = some (.string (⟨#[]⟩ : ByteArray)) := (blk_cell BK113.out 10).trans rfl
          have hcz10_11 : w6.cell? ⟨gb113, 11, none⟩ = some (.int .i64 0) := (blk_cell BK113.out 11).trans rfl
          have hfz10_0 := blk_frozen BK113.out 0
          have hfz10_1 := blk_frozen BK113.out 1
          have hfz10_2 := blk_frozen BK113.out 2
          have hfz10_3 := blk_frozen BK113.out 3
          have hfz10_4 := blk_frozen BK113.out 4
          have hfz10_5 := blk_frozen BK113.out 5
          have hfz10_6 := blk_frozen BK113.out 6
          have hfz10_7 := blk_frozen BK113.out 7
          have hfz10_8 := blk_frozen BK113.out 8
          have hfz10_9 := blk_frozen BK113.out 9
          have hfz10_10 := blk_frozen BK113.out 10
          have hfz10_11 := blk_frozen BK113.out 11
          go_wp2
          repeat (go_quiet (fail); try go_wp2)
          go_meet
          case rel => exact ⟨_, (decide (((rd_T127 l0 a1).f1) > 63)), (by first | rfl | (simp; done) | (simp [*]; done)), H', ⟨by first | omega | exact Nat.le_refl _⟩, ⟨by (with_reducible repeat (first | refine blk_drewN ?_ _ | refine blk_drew ?_ | refine blk_alloc ?_ _)); refine blk_put (cs := #[.bool ((rd_T127 l0 a1).f0), .int .i64 ((rd_T127 l0 a1).f1), .int .i64 ((rd_T127 l0 a1).f2.f0), .string ((rd_T127 l0 a1).f2.f1), .string ((rd_T127 l0 a1).f2.f2), .string ((rd_T127 l0 a1).f2.f3), .int .i64 ((rd_T127 l0 a1).f2.f4), .int .i64 ((rd_T127 l0 a1).f3.f0), .bool ((rd_T127 l0 a1).f3.f1), .string ((rd_T127 l0 a1).f3.f2), .string ((rd_T127 l0 a1).f3.f3), .int .i64 0]) ?_ 11 _ rfl; (with_reducible repeat (first | refine blk_drewN ?_ _ | refine blk_drew ?_ | refine blk_alloc ?_ _)); refine blk_put (cs := #[.bool ((rd_T127 l0 a1).f0), .int .i64 ((rd_T127 l0 a1).f1), .int .i64 ((rd_T127 l0 a1).f2.f0), .string ((rd_T127 l0 a1).f2.f1), .string ((rd_T127 l0 a1).f2.f2), .string ((rd_T127 l0 a1).f2.f3), .int .i64 ((rd_T127 l0 a1).f2.f4), .int .i64 ((rd_T127 l0 a1).f3.f0), .bool ((rd_T127 l0 a1).f3.f1), .string ((rd_T127 l0 a1).f3.f2), .string (⟨#[]⟩ : ByteArray), .int .i64 0]) ?_ 10 _ rfl; (with_reducible repeat (first | refine blk_drewN ?_ _ | refine blk_drew ?_ | refine blk_alloc ?_ _)); refine blk_put (cs := #[.bool ((rd_T127 l0 a1).f0), .int .i64 ((rd_T127 l0 a1).f1), .int .i64 ((rd_T127 l0 a1).f2.f0), .string ((rd_T127 l0 a1).f2.f1), .string ((rd_T127 l0 a1).f2.f2), .string ((rd_T127 l0 a1).f2.f3), .int .i64 ((rd_T127 l0 a1).f2.f4), .int .i64 ((rd_T127 l0 a1).f3.f0), .bool ((rd_T127 l0 a1).f3.f1), .string (⟨#[]⟩ : ByteArray), .string (⟨#[]⟩ : ByteArray), .int .i64 0]) ?_ 9 _ rfl; (with_reducible repeat (first | refine blk_drewN ?_ _ | refine blk_drew ?_ | refine blk_alloc ?_ _)); refine blk_put (cs := #[.bool ((rd_T127 l0 a1).f0), .int .i64 ((rd_T127 l0 a1).f1), .int .i64 ((rd_T127 l0 a1).f2.f0), .string ((rd_T127 l0 a1).f2.f1), .string ((rd_T127 l0 a1).f2.f2), .string ((rd_T127 l0 a1).f2.f3), .int .i64 ((rd_T127 l0 a1).f2.f4), .int .i64 ((rd_T127 l0 a1).f3.f0), .bool false, .string (⟨#[]⟩ : ByteArray), .string (⟨#[]⟩ : ByteArray), .int .i64 0]) ?_ 8 _ rfl; (with_reducible repeat (first | refine blk_drewN ?_ _ | refine blk_drew ?_ | refine blk_alloc ?_ _)); refine blk_put (cs := #[.bool ((rd_T127 l0 a1).f0), .int .i64 ((rd_T127 l0 a1).f1), .int .i64 ((rd_T127 l0 a1).f2.f0), .string ((rd_T127 l0 a1).f2.f1), .string ((rd_T127 l0 a1).f2.f2), .string ((rd_T127 l0 a1).f2.f3), .int .i64 ((rd_T127 l0 a1).f2.f4), .int .i64 0, .bool false, .string (⟨#[]⟩ : ByteArray), .string (⟨#[]⟩ : ByteArray), .int .i64 0]) ?_ 7 _ rfl; (with_reducible repeat (first | refine blk_drewN ?_ _ | refine blk_drew ?_ | refine blk_alloc ?_ _)); refine blk_put (cs := #[.bool ((rd_T127 l0 a1).f0), .int .i64 ((rd_T127 l0 a1).f1), .int .i64 ((rd_T127 l0 a1).f2.f0), .string ((rd_T127 l0 a1).f2.f1), .string ((rd_T127 l0 a1).f2.f2), .string ((rd_T127 l0 a1).f2.f3), .int .i64 0, .int .i64 0, .bool false, .string (⟨#[]⟩ : ByteArray), .string (⟨#[]⟩ : ByteArray), .int .i64 0]) ?_ 6 _ rfl; (with_reducible repeat (first | refine blk_drewN ?_ _ | refine blk_drew ?_ | refine blk_alloc ?_ _)); refine blk_put (cs := #[.bool ((rd_T127 l0 a1).f0), .int .i64 ((rd_T127 l0 a1).f1), .int .i64 ((rd_T127 l0 a1).f2.f0), .string ((rd_T127 l0 a1).f2.f1), .string ((rd_T127 l0 a1).f2.f2), .string (⟨#[]⟩ : ByteArray), .int .i64 0, .int .i64 0, .bool false, .string (⟨#[]⟩ : ByteArray), .string (⟨#[]⟩ : ByteArray), .int .i64 0]) ?_ 5 _ rfl; (with_reducible repeat (first | refine blk_drewN ?_ _ | refine blk_drew ?_ | refine blk_alloc ?_ _)); refine blk_put (cs := #[.bool ((rd_T127 l0 a1).f0), .int .i64 ((rd_T127 l0 a1).f1), .int .i64 ((rd_T127 l0 a1).f2.f0), .string ((rd_T127 l0 a1).f2.f1), .string (⟨#[]⟩ : ByteArray), .string (⟨#[]⟩ : ByteArray), .int .i64 0, .int .i64 0, .bool false, .string (⟨#[]⟩ : ByteArray), .string (⟨#[]⟩ : ByteArray), .int .i64 0]) ?_ 4 _ rfl; (with_reducible repeat (first | refine blk_drewN ?_ _ | refine blk_drew ?_ | refine blk_alloc ?_ _)); refine blk_put (cs := #[.bool ((rd_T127 l0 a1).f0), .int .i64 ((rd_T127 l0 a1).f1), .int .i64 ((rd_T127 l0 a1).f2.f0), .string (⟨#[]⟩ : ByteArray), .string (⟨#[]⟩ : ByteArray), .string (⟨#[]⟩ : ByteArray), .int .i64 0, .int .i64 0, .bool false, .string (⟨#[]⟩ : ByteArray), .string (⟨#[]⟩ : ByteArray), .int .i64 0]) ?_ 3 _ rfl; (with_reducible repeat (first | refine blk_drewN ?_ _ | refine blk_drew ?_ | refine blk_alloc ?_ _)); refine blk_put (cs := #[.bool ((rd_T127 l0 a1).f0), .int .i64 ((rd_T127 l0 a1).f1), .int .i64 0, .string (⟨#[]⟩ : ByteArray), .string (⟨#[]⟩ : ByteArray), .string (⟨#[]⟩ : ByteArray), .int .i64 0, .int .i64 0, .bool false, .string (⟨#[]⟩ : ByteArray), .string (⟨#[]⟩ : ByteArray), .int .i64 0]) ?_ 2 _ rfl; (with_reducible repeat (first | refine blk_drewN ?_ _ | refine blk_drew ?_ | refine blk_alloc ?_ _)); refine blk_put (cs := #[.bool ((rd_T127 l0 a1).f0), .int .i64 0, .int .i64 0, .string (⟨#[]⟩ : ByteArray), .string (⟨#[]⟩ : ByteArray), .string (⟨#[]⟩ : ByteArray), .int .i64 0, .int .i64 0, .bool false, .string (⟨#[]⟩ : ByteArray), .string (⟨#[]⟩ : ByteArray), .int .i64 0]) ?_ 1 _ rfl; (with_reducible repeat (first | refine blk_drewN ?_ _ | refine blk_drew ?_ | refine blk_alloc ?_ _)); refine blk_put (cs := #[.bool false, .int .i64 0, .int .i64 0, .string (⟨#[]⟩ : ByteArray), .string (⟨#[]⟩ : ByteArray), .string (⟨#[]⟩ : ByteArray), .int .i64 0, .int .i64 0, .bool false, .string (⟨#[]⟩ : ByteArray), .string (⟨#[]⟩ : ByteArray), .int .i64 0]) ?_ 0 _ rfl; (with_reducible repeat (first | refine blk_drewN ?_ _ | refine blk_drew ?_ | refine blk_alloc ?_ _)); exact BK113.out⟩, ⟨by repeat (first | (with_reducible first | exact HB.out | apply below_alloc | apply pw_below_drewN | apply below_drew1 | refine below_set ?_ GE113.out) | exact HB.out)⟩⟩
      case rest =>
        clear HC5
        try clear p1
        try clear q1
        try clear hx1
        try clear p2
        try clear c3
        try clear c3b0
        try clear c4
        try clear c4b0
        try clear c7
        try clear c8
        try clear c8b0
        try clear hcz10_0
        try clear hcz10_1
        try clear hcz10_10
        try clear hcz10_11
        try clear hcz10_2
        try clear hcz10_3
        try clear hcz10_4
        try clear hcz10_5
        try clear hcz10_6
        try clear hcz10_7
        try clear hcz10_8
        try clear hcz10_9
        try clear hcz7_0
        try clear hcz7_1
        try clear hcz7_10
        try clear hcz7_11
        try clear hcz7_2
        try clear hcz7_3
        try clear hcz7_4
        try clear hcz7_5
        try clear hcz7_6
        try clear hcz7_7
        try clear hcz7_8
        try clear hcz7_9
        try clear hcz9_0
        try clear hcz9_1
        try clear hcz9_10
        try clear hcz9_11
        try clear hcz9_2
        try clear hcz9_3
        try clear hcz9_4
        try clear hcz9_5
        try clear hcz9_6
        try clear hcz9_7
        try clear hcz9_8
        try clear hcz9_9
        try clear hfz10_0
        try clear hfz10_1
        try clear hfz10_10
        try clear hfz10_11
        try clear hfz10_2
        try clear hfz10_3
        try clear hfz10_4
        try clear hfz10_5
        try clear hfz10_6
        try clear hfz10_7
        try clear hfz10_8
        try clear hfz10_9
        try clear hfz7_0
        try clear hfz7_1
        try clear hfz7_10
        try clear hfz7_11
        try clear hfz7_2
        try clear hfz7_3
        try clear hfz7_4
        try clear hfz7_5
        try clear hfz7_6
        try clear hfz7_7
        try clear hfz7_8
        try clear hfz7_9
        try clear hfz9_0
        try clear hfz9_1
        try clear hfz9_10
        try clear hfz9_11
        try clear hfz9_2
        try clear hfz9_3
        try clear hfz9_4
        try clear hfz9_5
        try clear hfz9_6
        try clear hfz9_7
        try clear hfz9_8
        try clear hfz9_9
        try clear hx112_0
        try clear hx112_1
        try clear hx112_10
        try clear hx112_11
        try clear hx112_2
        try clear hx112_3
        try clear hx112_4
        try clear hx112_5
        try clear hx112_6
        try clear hx112_7
        try clear hx112_8
        try clear hx112_9
        try clear p112
        try clear q112
        obtain ⟨kq, x19_4, rfl, HA, HJ4, BK113, HB⟩ := hcut
        cases kq with
        | zero => exact absurd HA.out (by simp [boscageref32_Err.j0])
        | succ kj4 =>
          have H := HA.out
          clear HA
          simp only [boscageref32_Err.j0] at H
          by_cases c11 : x19_4 = true
          · subst c11
            have H1 : (some 2) = some r := by rw [if_pos rfl] at H; exact H
            clear H
            have H := H1
            clear H1
            obtain rfl := Option.some.inj H
            go_wp2
            repeat (go_quiet (fail); try go_wp2)
            go_ret
            exact ⟨by first | rfl | (simp [errW_none, errW_some] <;> rfl) | (simp [*, errW_none, errW_some] <;> rfl), by repeat (first | (with_reducible first | exact HB.out | apply below_alloc | apply pw_below_drewN | apply below_drew1 | refine below_set ?_ GE113.out) | exact HB.out)⟩
          · replace c11 := Bool.eq_false_iff.mpr c11
            subst c11
            have H1 : ((boscageref32_last.f kj4 l0 ((rd_T127 l0 a1).f1) a1).bind fun t114 => (if t114 ≥ 0 then (if 0 ≤ t114 then (if t114 < (l0.length : Int) then (boscageref32_Err.j1 kj4 l0 t114 (!((rd_T127 l0 t114).f0)) ((rd_T127 l0 a1).f0) ((rd_T127 l0 a1).f1) ((rd_T127 l0 a1).f2.f0) ((rd_T127 l0 a1).f2.f1) ((rd_T127 l0 a1).f2.f2) ((rd_T127 l0 a1).f2.f3) ((rd_T127 l0 a1).f2.f4) ((rd_T127 l0 a1).f3.f0) ((rd_T127 l0 a1).f3.f1) ((rd_T127 l0 a1).f3.f2) ((rd_T127 l0 a1).f3.f3) ((rd_T127 l0 a1).f3.f4)) else (none)) else (none)) else (boscageref32_Err.j1 kj4 l0 t114 false ((rd_T127 l0 a1).f0) ((rd_T127 l0 a1).f1) ((rd_T127 l0 a1).f2.f0) ((rd_T127 l0 a1).f2.f1) ((rd_T127 l0 a1).f2.f2) ((rd_T127 l0 a1).f2.f3) ((rd_T127 l0 a1).f2.f4) ((rd_T127 l0 a1).f3.f0) ((rd_T127 l0 a1).f3.f1) ((rd_T127 l0 a1).f3.f2) ((rd_T127 l0 a1).f3.f3) ((rd_T127 l0 a1).f3.f4)))) = some r := by rw [if_neg (show ¬ (false = true) by decide)] at H; exact H
            clear H
            have H := H1
            clear H1
            replace H := Option.bind_eq_some_iff.mp H
            obtain ⟨t114, A120, H⟩ := H
            replace H : (if t114 ≥ 0 then (if 0 ≤ t114 then (if t114 < (l0.length : Int) then (boscageref32_Err.j1 kj4 l0 t114 (!((rd_T127 l0 t114).f0)) ((rd_T127 l0 a1).f0) ((rd_T127 l0 a1).f1) ((rd_T127 l0 a1).f2.f0) ((rd_T127 l0 a1).f2.f1) ((rd_T127 l0 a1).f2.f2) ((rd_T127 l0 a1).f2.f3) ((rd_T127 l0 a1).f2.f4) ((rd_T127 l0 a1).f3.f0) ((rd_T127 l0 a1).f3.f1) ((rd_T127 l0 a1).f3.f2) ((rd_T127 l0 a1).f3.f3) ((rd_T127 l0 a1).f3.f4)) else (none)) else (none)) else (boscageref32_Err.j1 kj4 l0 t114 false ((rd_T127 l0 a1).f0) ((rd_T127 l0 a1).f1) ((rd_T127 l0 a1).f2.f0) ((rd_T127 l0 a1).f2.f1) ((rd_T127 l0 a1).f2.f2) ((rd_T127 l0 a1).f2.f3) ((rd_T127 l0 a1).f2.f4) ((rd_T127 l0 a1).f3.f0) ((rd_T127 l0 a1).f3.f1) ((rd_T127 l0 a1).f3.f2) ((rd_T127 l0 a1).f3.f3) ((rd_T127 l0 a1).f3.f4))) = some r := H
            have A12 := Aside0.mk A120
            clear A120
            have HC13 := Aside0.mk H
            clear H
            have hcz14_0 : wc.cell? ⟨gb113, 0, none⟩ = some (.bool ((rd_T127 l0 a1).f0)) := (blk_cell BK113.out 0).trans rfl
            have hcz14_1 : wc.cell? ⟨gb113, 1, none⟩ = some (.int .i64 ((rd_T127 l0 a1).f1)) := (blk_cell BK113.out 1).trans rfl
            have hcz14_2 : wc.cell? ⟨gb113, 2, none⟩ = some (.int .i64 ((rd_T127 l0 a1).f2.f0)) := (blk_cell BK113.out 2).trans rfl
            have hcz14_3 : wc.cell? ⟨gb113, 3, none⟩ = some (.string ((rd_T127 l0 a1).f2.f1)) := (blk_cell BK113.out 3).trans rfl
            have hcz14_4 : wc.cell? ⟨gb113, 4, none⟩ = some (.string ((rd_T127 l0 a1).f2.f2)) := (blk_cell BK113.out 4).trans rfl
            have hcz14_5 : wc.cell? ⟨gb113, 5, none⟩ = some (.string ((rd_T127 l0 a1).f2.f3)) := (blk_cell BK113.out 5).trans rfl
            have hcz14_6 : wc.cell? ⟨gb113, 6, none⟩ = some (.int .i64 ((rd_T127 l0 a1).f2.f4)) := (blk_cell BK113.out 6).trans rfl
            have hcz14_7 : wc.cell? ⟨gb113, 7, none⟩ = some (.int .i64 ((rd_T127 l0 a1).f3.f0)) := (blk_cell BK113.out 7).trans rfl
            have hcz14_8 : wc.cell? ⟨gb113, 8, none⟩ = some (.bool ((rd_T127 l0 a1).f3.f1)) := (blk_cell BK113.out 8).trans rfl
            have hcz14_9 : wc.cell? ⟨gb113, 9, none⟩ = some (.string ((rd_T127 l0 a1).f3.f2)) := (blk_cell BK113.out 9).trans rfl
            have hcz14_10 : wc.cell? ⟨gb113, 10, none⟩ = some (.string ((rd_T127 l0 a1).f3.f3)) := (blk_cell BK113.out 10).trans rfl
            have hcz14_11 : wc.cell? ⟨gb113, 11, none⟩ = some (.int .i64 ((rd_T127 l0 a1).f3.f4)) := (blk_cell BK113.out 11).trans rfl
            have hfz14_0 := blk_frozen BK113.out 0
            have hfz14_1 := blk_frozen BK113.out 1
            have hfz14_2 := blk_frozen BK113.out 2
            have hfz14_3 := blk_frozen BK113.out 3
            have hfz14_4 := blk_frozen BK113.out 4
            have hfz14_5 := blk_frozen BK113.out 5
            have hfz14_6 := blk_frozen BK113.out 6
            have hfz14_7 := blk_frozen BK113.out 7
            have hfz14_8 := blk_frozen BK113.out 8
            have hfz14_9 := blk_frozen BK113.out 9
            have hfz14_10 := blk_frozen BK113.out 10
            have hfz14_11 := blk_frozen BK113.out 11
            go_upto_region 5 with (first | (go_at_call 82; (with_reducible refine (boscageref32_last.calls kj4 _ _ l0 ((rd_T127 l0 a1).f1) a1 t114 _ ?side1 ?side2 A12.out).mono ?_); (case side1 => repeat (first | exact (Kd.C_below HR0.out HB.out) | (with_reducible refine Kd.C_alloc ?_ _) | (with_reducible refine Kd.C_drewN ?_ _) | (with_reducible refine Kd.C_drew ?_))); (case side2 => exact HC0.out); rintro e w' ⟨rfl, ⟨nd, rfl⟩⟩; (try first | exact ⟨rfl, _, World.drewN_drewN _ _ _⟩ | exact ⟨rfl, _, Eq.trans (World.drewN_drewN _ _ _) (congrArg (World.drewN _) (Nat.add_assoc _ _ _))⟩)))
            repeat (go_quiet (first | (go_at_call 82; (with_reducible refine (boscageref32_last.calls kj4 _ _ l0 ((rd_T127 l0 a1).f1) a1 t114 _ ?side1 ?side2 A12.out).mono ?_); (case side1 => repeat (first | exact (Kd.C_below HR0.out HB.out) | (with_reducible refine Kd.C_alloc ?_ _) | (with_reducible refine Kd.C_drewN ?_ _) | (with_reducible refine Kd.C_drew ?_))); (case side2 => exact HC0.out); rintro e w' ⟨rfl, ⟨nd, rfl⟩⟩; (try first | exact ⟨rfl, _, World.drewN_drewN _ _ _⟩ | exact ⟨rfl, _, Eq.trans (World.drewN_drewN _ _ _) (congrArg (World.drewN _) (Nat.add_assoc _ _ _))⟩))); go_upto_region 5 with (first | (go_at_call 82; (with_reducible refine (boscageref32_last.calls kj4 _ _ l0 ((rd_T127 l0 a1).f1) a1 t114 _ ?side1 ?side2 A12.out).mono ?_); (case side1 => repeat (first | exact (Kd.C_below HR0.out HB.out) | (with_reducible refine Kd.C_alloc ?_ _) | (with_reducible refine Kd.C_drewN ?_ _) | (with_reducible refine Kd.C_drew ?_))); (case side2 => exact HC0.out); rintro e w' ⟨rfl, ⟨nd, rfl⟩⟩; (try first | exact ⟨rfl, _, World.drewN_drewN _ _ _⟩ | exact ⟨rfl, _, Eq.trans (World.drewN_drewN _ _ _) (congrArg (World.drewN _) (Nat.add_assoc _ _ _))⟩))))
            (try simp only [Act.put, List.setIfInBounds_toArray, List.set_cons_zero, List.set_cons_succ])
            go_cut [7] (fun v7 wc => ∃ (kq : Nat) (x7_12 : Bool), v7 = .bool x7_12 ∧ Aside0 (boscageref32_Err.j1 kq l0 t114 x7_12 ((rd_T127 l0 a1).f0) ((rd_T127 l0 a1).f1) ((rd_T127 l0 a1).f2.f0) ((rd_T127 l0 a1).f2.f1) ((rd_T127 l0 a1).f2.f2) ((rd_T127 l0 a1).f2.f3) ((rd_T127 l0 a1).f2.f4) ((rd_T127 l0 a1).f3.f0) ((rd_T127 l0 a1).f3.f1) ((rd_T127 l0 a1).f3.f2) ((rd_T127 l0 a1).f3.f3) ((rd_T127 l0 a1).f3.f4) = some r) ∧ Aside0 (kq ≤ kj4) ∧ Aside0 (wc.heap[gb113]? = some (.cells #[.bool ((rd_T127 l0 a1).f0), .int .i64 ((rd_T127 l0 a1).f1), .int .i64 ((rd_T127 l0 a1).f2.f0), .string ((rd_T127 l0 a1).f2.f1), .string ((rd_T127 l0 a1).f2.f2), .string ((rd_T127 l0 a1).f2.f3), .int .i64 ((rd_T127 l0 a1).f2.f4), .int .i64 ((rd_T127 l0 a1).f3.f0), .bool ((rd_T127 l0 a1).f3.f1), .string ((rd_T127 l0 a1).f3.f2), .string ((rd_T127 l0 a1).f3.f3), .int .i64 ((rd_T127 l0 a1).f3.f4)] 127 (0, 0))) ∧ Aside0 (Below w.heap.size w wc))
            case first =>
              have H := HC13.out
              clear HC13
              by_cases c15 : t114 ≥ 0
              · rw [if_pos c15] at H
                have c15b0 : decide (0 ≤ t114) = true := decide_eq_true c15
                clear c15
                (first | rw [c15b0] | (simp only [i64_w, i32_w]; rw [c15b0]) | skip)
                by_cases c16 : 0 ≤ t114
                · rw [if_pos c16] at H
                  have c16b0 : decide (0 ≤ t114) = true := decide_eq_true c16
                  clear c16
                  by_cases c17 : t114 < (l0.length : Int)
                  · rw [if_pos c17] at H
                    have c17b0 : decide (t114 < (l0.length : Int)) = true := decide_eq_true c17
                    clear c17
                    have H' := Aside0.mk H
                    clear H
                    have p115 : 0 ≤ (t114 : Int) := of_decide_eq_true (by first | (with_reducible assumption) | assumption)
                    have q115 : t114 < (l0.length : Int) := of_decide_eq_true (by first | (with_reducible assumption) | assumption)
                    obtain ⟨ad115, e115, hx115_0, hx115_1, hx115_2, hx115_3, hx115_4, hx115_5, hx115_6, hx115_7, hx115_8, hx115_9, hx115_10, hx115_11⟩ := at_T127 HR0.out t114 p115 q115
                    obtain rfl : ad112 = ad115 := (by injection e115)
                    replace hx115_0 := (HB.out.cell (World.block_lt_of_cell? w _ hx115_0)).trans hx115_0
                    replace hx115_1 := (HB.out.cell (World.block_lt_of_cell? w _ hx115_1)).trans hx115_1
                    replace hx115_2 := (HB.out.cell (World.block_lt_of_cell? w _ hx115_2)).trans hx115_2
                    replace hx115_3 := (HB.out.cell (World.block_lt_of_cell? w _ hx115_3)).trans hx115_3
                    replace hx115_4 := (HB.out.cell (World.block_lt_of_cell? w _ hx115_4)).trans hx115_4
                    replace hx115_5 := (HB.out.cell (World.block_lt_of_cell? w _ hx115_5)).trans hx115_5
                    replace hx115_6 := (HB.out.cell (World.block_lt_of_cell? w _ hx115_6)).trans hx115_6
                    replace hx115_7 := (HB.out.cell (World.block_lt_of_cell? w _ hx115_7)).trans hx115_7
                    replace hx115_8 := (HB.out.cell (World.block_lt_of_cell? w _ hx115_8)).trans hx115_8
                    replace hx115_9 := (HB.out.cell (World.block_lt_of_cell? w _ hx115_9)).trans hx115_9
                    replace hx115_10 := (HB.out.cell (World.block_lt_of_cell? w _ hx115_10)).trans hx115_10
                    replace hx115_11 := (HB.out.cell (World.block_lt_of_cell? w _ hx115_11)).trans hx115_11
                    replace p115 := eq_true p115
                    replace q115 := eq_true q115
                    go_wp2
                    repeat (go_quiet (fail); try go_wp2)
                    go_meet
                    case rel => exact ⟨_, (!((rd_T127 l0 t114).f0)), (by first | rfl | (simp; done) | (simp [*]; done)), H', ⟨by have := HJ4.out; first | omega | exact Nat.le_refl _⟩, ⟨by (with_reducible repeat (first | refine blk_drewN ?_ _ | refine blk_drew ?_ | refine blk_alloc ?_ _)); exact BK113.out⟩, ⟨by repeat (first | (with_reducible first | exact HB.out | apply below_alloc | apply pw_below_drewN | apply below_drew1 | refine below_set ?_ GE113.out) | exact HB.out)⟩⟩
                  · rw [if_neg c17] at H
                    exact absurd H (by simp)
                · rw [if_neg c16] at H
                  exact absurd H (by simp)
              · rw [if_neg c15] at H
                have c15b0 : decide (0 ≤ t114) = false := decide_eq_false c15
                clear c15
                (first | rw [c15b0] | (simp only [i64_w, i32_w]; rw [c15b0]) | skip)
                have H' := Aside0.mk H
                clear H
                go_wp2
                repeat (go_quiet (fail); try go_wp2)
                go_meet
                case rel => exact ⟨_, (false), (by first | rfl | (simp; done) | (simp [*]; done)), H', ⟨by have := HJ4.out; first | omega | exact Nat.le_refl _⟩, ⟨by (with_reducible repeat (first | refine blk_drewN ?_ _ | refine blk_drew ?_ | refine blk_alloc ?_ _)); exact BK113.out⟩, ⟨by repeat (first | (with_reducible first | exact HB.out | apply below_alloc | apply pw_below_drewN | apply below_drew1 | refine below_set ?_ GE113.out) | exact HB.out)⟩⟩
            case rest =>
              clear HC13
              try clear c1
              try clear p1
              try clear q1
              try clear hx1
              try clear p2
              try clear c3
              try clear c3b0
              try clear c4
              try clear c4b0
              try clear c7
              try clear c8
              try clear c8b0
              try clear c11
              try clear p11
              try clear q11
              try clear hx11
              try clear c15
              try clear c15b0
              try clear c16
              try clear c16b0
              try clear c17
              try clear c17b0
              try clear hcz10_0
              try clear hcz10_1
              try clear hcz10_10
              try clear hcz10_11
              try clear hcz10_2
              try clear hcz10_3
              try clear hcz10_4
              try clear hcz10_5
              try clear hcz10_6
              try clear hcz10_7
              try clear hcz10_8
              try clear hcz10_9
              try clear hcz14_0
              try clear hcz14_1
              try clear hcz14_10
              try clear hcz14_11
              try clear hcz14_2
              try clear hcz14_3
              try clear hcz14_4
              try clear hcz14_5
              try clear hcz14_6
              try clear hcz14_7
              try clear hcz14_8
              try clear hcz14_9
              try clear hcz7_0
              try clear hcz7_1
              try clear hcz7_10
              try clear hcz7_11
              try clear hcz7_2
              try clear hcz7_3
              try clear hcz7_4
              try clear hcz7_5
              try clear hcz7_6
              try clear hcz7_7
              try clear hcz7_8
              try clear hcz7_9
              try clear hcz9_0
              try clear hcz9_1
              try clear hcz9_10
              try clear hcz9_11
              try clear hcz9_2
              try clear hcz9_3
              try clear hcz9_4
              try clear hcz9_5
              try clear hcz9_6
              try clear hcz9_7
              try clear hcz9_8
              try clear hcz9_9
              try clear hfz10_0
              try clear hfz10_1
              try clear hfz10_10
              try clear hfz10_11
              try clear hfz10_2
              try clear hfz10_3
              try clear hfz10_4
              try clear hfz10_5
              try clear hfz10_6
              try clear hfz10_7
              try clear hfz10_8
              try clear hfz10_9
              try clear hfz14_0
              try clear hfz14_1
              try clear hfz14_10
              try clear hfz14_11
              try clear hfz14_2
              try clear hfz14_3
              try clear hfz14_4
              try clear hfz14_5
              try clear hfz14_6
              try clear hfz14_7
              try clear hfz14_8
              try clear hfz14_9
              try clear hfz7_0
              try clear hfz7_1
              try clear hfz7_10
              try clear hfz7_11
              try clear hfz7_2
              try clear hfz7_3
              try clear hfz7_4
              try clear hfz7_5
              try clear hfz7_6
              try clear hfz7_7
              try clear hfz7_8
              try clear hfz7_9
              try clear hfz9_0
              try clear hfz9_1
              try clear hfz9_10
              try clear hfz9_11
              try clear hfz9_2
              try clear hfz9_3
              try clear hfz9_4
              try clear hfz9_5
              try clear hfz9_6
              try clear hfz9_7
              try clear hfz9_8
              try clear hfz9_9
              try clear hx112_0
              try clear hx112_1
              try clear hx112_10
              try clear hx112_11
              try clear hx112_2
              try clear hx112_3
              try clear hx112_4
              try clear hx112_5
              try clear hx112_6
              try clear hx112_7
              try clear hx112_8
              try clear hx112_9
              try clear hx115_0
              try clear hx115_1
              try clear hx115_10
              try clear hx115_11
              try clear hx115_2
              try clear hx115_3
              try clear hx115_4
              try clear hx115_5
              try clear hx115_6
              try clear hx115_7
              try clear hx115_8
              try clear hx115_9
              try clear p1
              try clear p112
              try clear p115
              try clear p2
              try clear q1
              try clear q112
              try clear q115
              obtain ⟨kq, x7_12, rfl, HA, HJ12, BK113, HB⟩ := hcut
              cases kq with
              | zero => exact absurd HA.out (by simp [boscageref32_Err.j1])
              | succ kj12 =>
                have H := HA.out
                clear HA
                simp only [boscageref32_Err.j1] at H
                by_cases c18 : (x7_12 != ((rd_T127 l0 a1).f0)) = true
                · rw [if_pos c18] at H
                  have c18b0 : (x7_12 != ((rd_T127 l0 a1).f0)) = true := c18
                  (try (have c18b1 : decide (x7_12 = ((rd_T127 l0 a1).f0)) = false := by simpa using c18))
                  (try (have c18b2 : (x7_12 == ((rd_T127 l0 a1).f0)) = false := by simpa using c18))
                  (try (have c18b3 : ¬ (x7_12 = ((rd_T127 l0 a1).f0)) := by simpa using c18))
                  clear c18
                  obtain rfl := Option.some.inj H
                  have hcz19_0 : wc.cell? ⟨gb113, 0, none⟩ = some (.bool ((rd_T127 l0 a1).f0)) := (blk_cell BK113.out 0).trans rfl
                  have hcz19_1 : wc.cell? ⟨gb113, 1, none⟩ = some (.int .i64 ((rd_T127 l0 a1).f1)) := (blk_cell BK113.out 1).trans rfl
                  have hcz19_2 : wc.cell? ⟨gb113, 2, none⟩ = some (.int .i64 ((rd_T127 l0 a1).f2.f0)) := (blk_cell BK113.out 2).trans rfl
                  have hcz19_3 : wc.cell? ⟨gb113, 3, none⟩ = some (.string ((rd_T127 l0 a1).f2.f1)) := (blk_cell BK113.out 3).trans rfl
                  have hcz19_4 : wc.cell? ⟨gb113, 4, none⟩ = some (.string ((rd_T127 l0 a1).f2.f2)) := (blk_cell BK113.out 4).trans rfl
                  have hcz19_5 : wc.cell? ⟨gb113, 5, none⟩ = some (.string ((rd_T127 l0 a1).f2.f3)) := (blk_cell BK113.out 5).trans rfl
                  have hcz19_6 : wc.cell? ⟨gb113, 6, none⟩ = some (.int .i64 ((rd_T127 l0 a1).f2.f4)) := (blk_cell BK113.out 6).trans rfl
                  have hcz19_7 : wc.cell? ⟨gb113, 7, none⟩ = some (.int .i64 ((rd_T127 l0 a1).f3.f0)) := (blk_cell BK113.out 7).trans rfl
                  have hcz19_8 : wc.cell? ⟨gb113, 8, none⟩ = some (.bool ((rd_T127 l0 a1).f3.f1)) := (blk_cell BK113.out 8).trans rfl
                  have hcz19_9 : wc.cell? ⟨gb113, 9, none⟩ = some (.string ((rd_T127 l0 a1).f3.f2)) := (blk_cell BK113.out 9).trans rfl
                  have hcz19_10 : wc.cell? ⟨gb113, 10, none⟩ = some (.string ((rd_T127 l0 a1).f3.f3)) := (blk_cell BK113.out 10).trans rfl
                  have hcz19_11 : wc.cell? ⟨gb113, 11, none⟩ = some (.int .i64 ((rd_T127 l0 a1).f3.f4)) := (blk_cell BK113.out 11).trans rfl
                  have hfz19_0 := blk_frozen BK113.out 0
                  have hfz19_1 := blk_frozen BK113.out 1
                  have hfz19_2 := blk_frozen BK113.out 2
                  have hfz19_3 := blk_frozen BK113.out 3
                  have hfz19_4 := blk_frozen BK113.out 4
                  have hfz19_5 := blk_frozen BK113.out 5
                  have hfz19_6 := blk_frozen BK113.out 6
                  have hfz19_7 := blk_frozen BK113.out 7
                  have hfz19_8 := blk_frozen BK113.out 8
                  have hfz19_9 := blk_frozen BK113.out 9
                  have hfz19_10 := blk_frozen BK113.out 10
                  have hfz19_11 := blk_frozen BK113.out 11
                  go_wp2
                  repeat (go_quiet (fail); try go_wp2)
                  go_ret
                  exact ⟨by first | rfl | (simp [errW_none, errW_some] <;> rfl) | (simp [*, errW_none, errW_some] <;> rfl), by repeat (first | (with_reducible first | exact HB.out | apply below_alloc | apply pw_below_drewN | apply below_drew1 | refine below_set ?_ GE113.out) | exact HB.out)⟩
                · rw [if_neg c18] at H
                  have c18b0 : (x7_12 != ((rd_T127 l0 a1).f0)) = false := by simpa using c18
                  (try (have c18b1 : decide (x7_12 = ((rd_T127 l0 a1).f0)) = true := by simpa using c18))
                  (try (have c18b2 : (x7_12 == ((rd_T127 l0 a1).f0)) = true := by simpa using c18))
                  clear c18
                  by_cases c20 : ((rd_T127 l0 a1).f0) = true
                  · rw [if_pos c20] at H
                    have c20b0 : ((rd_T127 l0 a1).f0) = true := c20
                    clear c20
                    obtain rfl : x7_12 = true := by simpa [c20b0] using c18b1
                    by_cases c21 : 0 ≤ t114
                    · rw [if_pos c21] at H
                      have c21b0 : decide (0 ≤ t114) = true := decide_eq_true c21
                      clear c21
                      by_cases c22 : t114 < (l0.length : Int)
                      · rw [if_pos c22] at H
                        have c22b0 : decide (t114 < (l0.length : Int)) = true := decide_eq_true c22
                        clear c22
                        by_cases c23 : (!(((rd_T127 l0 t114).f2.f0) == ((rd_T127 l0 a1).f2.f0)) || (!((((rd_T127 l0 t114).f2.f1).toList) == ((rd_T127 l0 a1).f2.f1).toList) || (!((((rd_T127 l0 t114).f2.f2).toList) == ((rd_T127 l0 a1).f2.f2).toList) || (!((((rd_T127 l0 t114).f2.f3).toList) == ((rd_T127 l0 a1).f2.f3).toList) || (!(((rd_T127 l0 t114).f2.f4) == ((rd_T127 l0 a1).f2.f4))))))) = true
                        · rw [if_pos c23] at H
                          have c23b0 : (!(((rd_T127 l0 t114).f2.f0) == ((rd_T127 l0 a1).f2.f0)) || (!((((rd_T127 l0 t114).f2.f1).toList) == ((rd_T127 l0 a1).f2.f1).toList) || (!((((rd_T127 l0 t114).f2.f2).toList) == ((rd_T127 l0 a1).f2.f2).toList) || (!((((rd_T127 l0 t114).f2.f3).toList) == ((rd_T127 l0 a1).f2.f3).toList) || (!(((rd_T127 l0 t114).f2.f4) == ((rd_T127 l0 a1).f2.f4))))))) = true := c23
                          clear c23
                          obtain rfl := Option.some.inj H
                          have hcz24_0 : wc.cell? ⟨gb113, 0, none⟩ = some (.bool ((rd_T127 l0 a1).f0)) := (blk_cell BK113.out 0).trans rfl
                          have hcz24_1 : wc.cell? ⟨gb113, 1, none⟩ = some (.int .i64 ((rd_T127 l0 a1).f1)) := (blk_cell BK113.out 1).trans rfl
                          have hcz24_2 : wc.cell? ⟨gb113, 2, none⟩ = some (.int .i64 ((rd_T127 l0 a1).f2.f0)) := (blk_cell BK113.out 2).trans rfl
                          have hcz24_3 : wc.cell? ⟨gb113, 3, none⟩ = some (.string ((rd_T127 l0 a1).f2.f1)) := (blk_cell BK113.out 3).trans rfl
                          have hcz24_4 : wc.cell? ⟨gb113, 4, none⟩ = some (.string ((rd_T127 l0 a1).f2.f2)) := (blk_cell BK113.out 4).trans rfl
                          have hcz24_5 : wc.cell? ⟨gb113, 5, none⟩ = some (.string ((rd_T127 l0 a1).f2.f3)) := (blk_cell BK113.out 5).trans rfl
                          have hcz24_6 : wc.cell? ⟨gb113, 6, none⟩ = some (.int .i64 ((rd_T127 l0 a1).f2.f4)) := (blk_cell BK113.out 6).trans rfl
                          have hcz24_7 : wc.cell? ⟨gb113, 7, none⟩ = some (.int .i64 ((rd_T127 l0 a1).f3.f0)) := (blk_cell BK113.out 7).trans rfl
                          have hcz24_8 : wc.cell? ⟨gb113, 8, none⟩ = some (.bool ((rd_T127 l0 a1).f3.f1)) := (blk_cell BK113.out 8).trans rfl
                          have hcz24_9 : wc.cell? ⟨gb113, 9, none⟩ = some (.string ((rd_T127 l0 a1).f3.f2)) := (blk_cell BK113.out 9).trans rfl
                          have hcz24_10 : wc.cell? ⟨gb113, 10, none⟩ = some (.string ((rd_T127 l0 a1).f3.f3)) := (blk_cell BK113.out 10).trans rfl
                          have hcz24_11 : wc.cell? ⟨gb113, 11, none⟩ = some (.int .i64 ((rd_T127 l0 a1).f3.f4)) := (blk_cell BK113.out 11).trans rfl
                          have hfz24_0 := blk_frozen BK113.out 0
                          have hfz24_1 := blk_frozen BK113.out 1
                          have hfz24_2 := blk_frozen BK113.out 2
                          have hfz24_3 := blk_frozen BK113.out 3
                          have hfz24_4 := blk_frozen BK113.out 4
                          have hfz24_5 := blk_frozen BK113.out 5
                          have hfz24_6 := blk_frozen BK113.out 6
                          have hfz24_7 := blk_frozen BK113.out 7
                          have hfz24_8 := blk_frozen BK113.out 8
                          have hfz24_9 := blk_frozen BK113.out 9
                          have hfz24_10 := blk_frozen BK113.out 10
                          have hfz24_11 := blk_frozen BK113.out 11
                          have p116 : 0 ≤ (t114 : Int) := of_decide_eq_true (by first | (with_reducible assumption) | assumption)
                          have q116 : t114 < (l0.length : Int) := of_decide_eq_true (by first | (with_reducible assumption) | assumption)
                          obtain ⟨ad116, e116, hx116_0, hx116_1, hx116_2, hx116_3, hx116_4, hx116_5, hx116_6, hx116_7, hx116_8, hx116_9, hx116_10, hx116_11⟩ := at_T127 HR0.out t114 p116 q116
                          obtain rfl : ad112 = ad116 := (by injection e116)
                          replace hx116_0 := (HB.out.cell (World.block_lt_of_cell? w _ hx116_0)).trans hx116_0
                          replace hx116_1 := (HB.out.cell (World.block_lt_of_cell? w _ hx116_1)).trans hx116_1
                          replace hx116_2 := (HB.out.cell (World.block_lt_of_cell? w _ hx116_2)).trans hx116_2
                          replace hx116_3 := (HB.out.cell (World.block_lt_of_cell? w _ hx116_3)).trans hx116_3
                          replace hx116_4 := (HB.out.cell (World.block_lt_of_cell? w _ hx116_4)).trans hx116_4
                          replace hx116_5 := (HB.out.cell (World.block_lt_of_cell? w _ hx116_5)).trans hx116_5
                          replace hx116_6 := (HB.out.cell (World.block_lt_of_cell? w _ hx116_6)).trans hx116_6
                          replace hx116_7 := (HB.out.cell (World.block_lt_of_cell? w _ hx116_7)).trans hx116_7
                          replace hx116_8 := (HB.out.cell (World.block_lt_of_cell? w _ hx116_8)).trans hx116_8
                          replace hx116_9 := (HB.out.cell (World.block_lt_of_cell? w _ hx116_9)).trans hx116_9
                          replace hx116_10 := (HB.out.cell (World.block_lt_of_cell? w _ hx116_10)).trans hx116_10
                          replace hx116_11 := (HB.out.cell (World.block_lt_of_cell? w _ hx116_11)).trans hx116_11
                          replace p116 := eq_true p116
                          replace q116 := eq_true q116
                          go_wp2
                          repeat (go_quiet (fail); try go_wp2)
                          go_ret
                          exact ⟨by first | rfl | (simp [errW_none, errW_some] <;> rfl) | (simp [*, errW_none, errW_some] <;> rfl), by repeat (first | (with_reducible first | exact HB.out | apply below_alloc | apply pw_below_drewN | apply below_drew1 | refine below_set ?_ GE113.out) | exact HB.out)⟩
                        · rw [if_neg c23] at H
                          have c23b0 : (!(((rd_T127 l0 t114).f2.f0) == ((rd_T127 l0 a1).f2.f0)) || (!((((rd_T127 l0 t114).f2.f1).toList) == ((rd_T127 l0 a1).f2.f1).toList) || (!((((rd_T127 l0 t114).f2.f2).toList) == ((rd_T127 l0 a1).f2.f2).toList) || (!((((rd_T127 l0 t114).f2.f3).toList) == ((rd_T127 l0 a1).f2.f3).toList) || (!(((rd_T127 l0 t114).f2.f4) == ((rd_T127 l0 a1).f2.f4))))))) = false := by simpa using c23
                          clear c23
                          obtain rfl := Option.some.inj H
                          have hcz25_0 : wc.cell? ⟨gb113, 0, none⟩ = some (.bool ((rd_T127 l0 a1).f0)) := (blk_cell BK113.out 0).trans rfl
                          have hcz25_1 : wc.cell? ⟨gb113, 1, none⟩ = some (.int .i64 ((rd_T127 l0 a1).f1)) := (blk_cell BK113.out 1).trans rfl
                          have hcz25_2 : wc.cell? ⟨gb113, 2, none⟩ = some (.int .i64 ((rd_T127 l0 a1).f2.f0)) := (blk_cell BK113.out 2).trans rfl
                          have hcz25_3 : wc.cell? ⟨gb113, 3, none⟩ = some (.string ((rd_T127 l0 a1).f2.f1)) := (blk_cell BK113.out 3).trans rfl
                          have hcz25_4 : wc.cell? ⟨gb113, 4, none⟩ = some (.string ((rd_T127 l0 a1).f2.f2)) := (blk_cell BK113.out 4).trans rfl
                          have hcz25_5 : wc.cell? ⟨gb113, 5, none⟩ = some (.string ((rd_T127 l0 a1).f2.f3)) := (blk_cell BK113.out 5).trans rfl
                          have hcz25_6 : wc.cell? ⟨gb113, 6, none⟩ = some (.int .i64 ((rd_T127 l0 a1).f2.f4)) := (blk_cell BK113.out 6).trans rfl
                          have hcz25_7 : wc.cell? ⟨gb113, 7, none⟩ = some (.int .i64 ((rd_T127 l0 a1).f3.f0)) := (blk_cell BK113.out 7).trans rfl
                          have hcz25_8 : wc.cell? ⟨gb113, 8, none⟩ = some (.bool ((rd_T127 l0 a1).f3.f1)) := (blk_cell BK113.out 8).trans rfl
                          have hcz25_9 : wc.cell? ⟨gb113, 9, none⟩ = some (.string ((rd_T127 l0 a1).f3.f2)) := (blk_cell BK113.out 9).trans rfl
                          have hcz25_10 : wc.cell? ⟨gb113, 10, none⟩ = some (.string ((rd_T127 l0 a1).f3.f3)) := (blk_cell BK113.out 10).trans rfl
                          have hcz25_11 : wc.cell? ⟨gb113, 11, none⟩ = some (.int .i64 ((rd_T127 l0 a1).f3.f4)) := (blk_cell BK113.out 11).trans rfl
                          have hfz25_0 := blk_frozen BK113.out 0
                          have hfz25_1 := blk_frozen BK113.out 1
                          have hfz25_2 := blk_frozen BK113.out 2
                          have hfz25_3 := blk_frozen BK113.out 3
                          have hfz25_4 := blk_frozen BK113.out 4
                          have hfz25_5 := blk_frozen BK113.out 5
                          have hfz25_6 := blk_frozen BK113.out 6
                          have hfz25_7 := blk_frozen BK113.out 7
                          have hfz25_8 := blk_frozen BK113.out 8
                          have hfz25_9 := blk_frozen BK113.out 9
                          have hfz25_10 := blk_frozen BK113.out 10
                          have hfz25_11 := blk_frozen BK113.out 11
                          have p116 : 0 ≤ (t114 : Int) := of_decide_eq_true (by first | (with_reducible assumption) | assumption)
                          have q116 : t114 < (l0.length : Int) := of_decide_eq_true (by first | (with_reducible assumption) | assumption)
                          obtain ⟨ad116, e116, hx116_0, hx116_1, hx116_2, hx116_3, hx116_4, hx116_5, hx116_6, hx116_7, hx116_8, hx116_9, hx116_10, hx116_11⟩ := at_T127 HR0.out t114 p116 q116
                          obtain rfl : ad112 = ad116 := (by injection e116)
                          replace hx116_0 := (HB.out.cell (World.block_lt_of_cell? w _ hx116_0)).trans hx116_0
                          replace hx116_1 := (HB.out.cell (World.block_lt_of_cell? w _ hx116_1)).trans hx116_1
                          replace hx116_2 := (HB.out.cell (World.block_lt_of_cell? w _ hx116_2)).trans hx116_2
                          replace hx116_3 := (HB.out.cell (World.block_lt_of_cell? w _ hx116_3)).trans hx116_3
                          replace hx116_4 := (HB.out.cell (World.block_lt_of_cell? w _ hx116_4)).trans hx116_4
                          replace hx116_5 := (HB.out.cell (World.block_lt_of_cell? w _ hx116_5)).trans hx116_5
                          replace hx116_6 := (HB.out.cell (World.block_lt_of_cell? w _ hx116_6)).trans hx116_6
                          replace hx116_7 := (HB.out.cell (World.block_lt_of_cell? w _ hx116_7)).trans hx116_7
                          replace hx116_8 := (HB.out.cell (World.block_lt_of_cell? w _ hx116_8)).trans hx116_8
                          replace hx116_9 := (HB.out.cell (World.block_lt_of_cell? w _ hx116_9)).trans hx116_9
                          replace hx116_10 := (HB.out.cell (World.block_lt_of_cell? w _ hx116_10)).trans hx116_10
                          replace hx116_11 := (HB.out.cell (World.block_lt_of_cell? w _ hx116_11)).trans hx116_11
                          replace p116 := eq_true p116
                          replace q116 := eq_true q116
                          go_wp2
                          repeat (go_quiet (fail); try go_wp2)
                          go_ret
                          exact ⟨by first | rfl | (simp [errW_none, errW_some] <;> rfl) | (simp [*, errW_none, errW_some] <;> rfl), by repeat (first | (with_reducible first | exact HB.out | apply below_alloc | apply pw_below_drewN | apply below_drew1 | refine below_set ?_ GE113.out) | exact HB.out)⟩
                      · rw [if_neg c22] at H
                        exact absurd H (by simp)
                    · rw [if_neg c21] at H
                      exact absurd H (by simp)
                  · rw [if_neg c20] at H
                    have c20b0 : ((rd_T127 l0 a1).f0) = false := by simpa using c20
                    clear c20
                    obtain rfl : x7_12 = false := by simpa [c20b0] using c18b1
                    by_cases c26 : (!(((rd_T127 l0 a1).f3.f0) == 0) || (((rd_T127 l0 a1).f3.f1) || (!(((rd_T127 l0 a1).f3.f2).toList == ([] : List UInt8)) || (!(((rd_T127 l0 a1).f3.f3).toList == ([] : List UInt8)) || (!(((rd_T127 l0 a1).f3.f4) == 0)))))) = true
                    · rw [if_pos c26] at H
                      have c26b0 : (!(((rd_T127 l0 a1).f3.f0) == 0) || (((rd_T127 l0 a1).f3.f1) || (!(((rd_T127 l0 a1).f3.f2).toList == ([] : List UInt8)) || (!(((rd_T127 l0 a1).f3.f3).toList == ([] : List UInt8)) || (!(((rd_T127 l0 a1).f3.f4) == 0)))))) = true := c26
                      clear c26
                      simp only [show ∀ l : List UInt8, (l == []) = l.isEmpty from fun l => by cases l <;> rfl] at c26b0
                      obtain rfl := Option.some.inj H
                      have hcz27_0 : wc.cell? ⟨gb113, 0, none⟩ = some (.bool ((rd_T127 l0 a1).f0)) := (blk_cell BK113.out 0).trans rfl
                      have hcz27_1 : wc.cell? ⟨gb113, 1, none⟩ = some (.int .i64 ((rd_T127 l0 a1).f1)) := (blk_cell BK113.out 1).trans rfl
                      have hcz27_2 : wc.cell? ⟨gb113, 2, none⟩ = some (.int .i64 ((rd_T127 l0 a1).f2.f0)) := (blk_cell BK113.out 2).trans rfl
                      have hcz27_3 : wc.cell? ⟨gb113, 3, none⟩ = some (.string ((rd_T127 l0 a1).f2.f1)) := (blk_cell BK113.out 3).trans rfl
                      have hcz27_4 : wc.cell? ⟨gb113, 4, none⟩ = some (.string ((rd_T127 l0 a1).f2.f2)) := (blk_cell BK113.out 4).trans rfl
                      have hcz27_5 : wc.cell? ⟨gb113, 5, none⟩ = some (.string ((rd_T127 l0 a1).f2.f3)) := (blk_cell BK113.out 5).trans rfl
                      have hcz27_6 : wc.cell? ⟨gb113, 6, none⟩ = some (.int .i64 ((rd_T127 l0 a1).f2.f4)) := (blk_cell BK113.out 6).trans rfl
                      have hcz27_7 : wc.cell? ⟨gb113, 7, none⟩ = some (.int .i64 ((rd_T127 l0 a1).f3.f0)) := (blk_cell BK113.out 7).trans rfl
                      have hcz27_8 : wc.cell? ⟨gb113, 8, none⟩ = some (.bool ((rd_T127 l0 a1).f3.f1)) := (blk_cell BK113.out 8).trans rfl
                      have hcz27_9 : wc.cell? ⟨gb113, 9, none⟩ = some (.string ((rd_T127 l0 a1).f3.f2)) := (blk_cell BK113.out 9).trans rfl
                      have hcz27_10 : wc.cell? ⟨gb113, 10, none⟩ = some (.string ((rd_T127 l0 a1).f3.f3)) := (blk_cell BK113.out 10).trans rfl
                      have hcz27_11 : wc.cell? ⟨gb113, 11, none⟩ = some (.int .i64 ((rd_T127 l0 a1).f3.f4)) := (blk_cell BK113.out 11).trans rfl
                      have hfz27_0 := blk_frozen BK113.out 0
                      have hfz27_1 := blk_frozen BK113.out 1
                      have hfz27_2 := blk_frozen BK113.out 2
                      have hfz27_3 := blk_frozen BK113.out 3
                      have hfz27_4 := blk_frozen BK113.out 4
                      have hfz27_5 := blk_frozen BK113.out 5
                      have hfz27_6 := blk_frozen BK113.out 6
                      have hfz27_7 := blk_frozen BK113.out 7
                      have hfz27_8 := blk_frozen BK113.out 8
                      have hfz27_9 := blk_frozen BK113.out 9
                      have hfz27_10 := blk_frozen BK113.out 10
                      have hfz27_11 := blk_frozen BK113.out 11
                      go_wp2
                      repeat (go_quiet (fail); try go_wp2)
                      go_ret
                      exact ⟨by first | rfl | (simp [errW_none, errW_some] <;> rfl) | (simp [*, errW_none, errW_some] <;> rfl), by repeat (first | (with_reducible first | exact HB.out | apply below_alloc | apply pw_below_drewN | apply below_drew1 | refine below_set ?_ GE113.out) | exact HB.out)⟩
                    · rw [if_neg c26] at H
                      have c26b0 : (!(((rd_T127 l0 a1).f3.f0) == 0) || (((rd_T127 l0 a1).f3.f1) || (!(((rd_T127 l0 a1).f3.f2).toList == ([] : List UInt8)) || (!(((rd_T127 l0 a1).f3.f3).toList == ([] : List UInt8)) || (!(((rd_T127 l0 a1).f3.f4) == 0)))))) = false := by simpa using c26
                      clear c26
                      simp only [show ∀ l : List UInt8, (l == []) = l.isEmpty from fun l => by cases l <;> rfl] at c26b0
                      obtain rfl := Option.some.inj H
                      have hcz28_0 : wc.cell? ⟨gb113, 0, none⟩ = some (.bool ((rd_T127 l0 a1).f0)) := (blk_cell BK113.out 0).trans rfl
                      have hcz28_1 : wc.cell? ⟨gb113, 1, none⟩ = some (.int .i64 ((rd_T127 l0 a1).f1)) := (blk_cell BK113.out 1).trans rfl
                      have hcz28_2 : wc.cell? ⟨gb113, 2, none⟩ = some (.int .i64 ((rd_T127 l0 a1).f2.f0)) := (blk_cell BK113.out 2).trans rfl
                      have hcz28_3 : wc.cell? ⟨gb113, 3, none⟩ = some (.string ((rd_T127 l0 a1).f2.f1)) := (blk_cell BK113.out 3).trans rfl
                      have hcz28_4 : wc.cell? ⟨gb113, 4, none⟩ = some (.string ((rd_T127 l0 a1).f2.f2)) := (blk_cell BK113.out 4).trans rfl
                      have hcz28_5 : wc.cell? ⟨gb113, 5, none⟩ = some (.string ((rd_T127 l0 a1).f2.f3)) := (blk_cell BK113.out 5).trans rfl
                      have hcz28_6 : wc.cell? ⟨gb113, 6, none⟩ = some (.int .i64 ((rd_T127 l0 a1).f2.f4)) := (blk_cell BK113.out 6).trans rfl
                      have hcz28_7 : wc.cell? ⟨gb113, 7, none⟩ = some (.int .i64 ((rd_T127 l0 a1).f3.f0)) := (blk_cell BK113.out 7).trans rfl
                      have hcz28_8 : wc.cell? ⟨gb113, 8, none⟩ = some (.bool ((rd_T127 l0 a1).f3.f1)) := (blk_cell BK113.out 8).trans rfl
                      have hcz28_9 : wc.cell? ⟨gb113, 9, none⟩ = some (.string ((rd_T127 l0 a1).f3.f2)) := (blk_cell BK113.out 9).trans rfl
                      have hcz28_10 : wc.cell? ⟨gb113, 10, none⟩ = some (.string ((rd_T127 l0 a1).f3.f3)) := (blk_cell BK113.out 10).trans rfl
                      have hcz28_11 : wc.cell? ⟨gb113, 11, none⟩ = some (.int .i64 ((rd_T127 l0 a1).f3.f4)) := (blk_cell BK113.out 11).trans rfl
                      have hfz28_0 := blk_frozen BK113.out 0
                      have hfz28_1 := blk_frozen BK113.out 1
                      have hfz28_2 := blk_frozen BK113.out 2
                      have hfz28_3 := blk_frozen BK113.out 3
                      have hfz28_4 := blk_frozen BK113.out 4
                      have hfz28_5 := blk_frozen BK113.out 5
                      have hfz28_6 := blk_frozen BK113.out 6
                      have hfz28_7 := blk_frozen BK113.out 7
                      have hfz28_8 := blk_frozen BK113.out 8
                      have hfz28_9 := blk_frozen BK113.out 9
                      have hfz28_10 := blk_frozen BK113.out 10
                      have hfz28_11 := blk_frozen BK113.out 11
                      go_wp2
                      repeat (go_quiet (fail); try go_wp2)
                      go_ret
                      exact ⟨by first | rfl | (simp [errW_none, errW_some] <;> rfl) | (simp [*, errW_none, errW_some] <;> rfl), by repeat (first | (with_reducible first | exact HB.out | apply below_alloc | apply pw_below_drewN | apply below_drew1 | refine below_set ?_ GE113.out) | exact HB.out)⟩
    · rw [if_neg c4] at H
      exact absurd H (by simp)
  · rw [if_neg c3] at H
    exact absurd H (by simp)

/-! ### boscageref32_May: function 40 -/
def boscageref32_May.l0 : Nat → List (S127) → Int → Option (Int)
  | 0, _, _ => none
  | k + 1, x0, x3 => if x3 < (x0.length : Int) then ((boscageref32_Err.f k x0 x3).bind fun t117 => (if t117 = 0 then (boscageref32_May.l0 k x0 (wrap64 (x3 + 1))) else (some t117))) else (some 0)
def boscageref32_May.f (k : Nat) (l0 : List (S127)) : Option (Int) := boscageref32_May.l0 k l0 0
theorem boscageref32_May.mono_l : ∀ k, (∀ y0 y1, LeO (boscageref32_May.l0 k y0 y1) (boscageref32_May.l0 (k + 1) y0 y1))
  | 0 => fun _ _ r h => by simp [boscageref32_May.l0] at h
  | k + 1 => by
    have ih0 := boscageref32_May.mono_l k
    · intro y0 y1
      unfold boscageref32_May.l0
      repeat' first
      | (with_reducible exact ih0 _ _)
      | (with_reducible exact boscageref32_Err.mono _ _ _)
      | (with_reducible exact LeO.refl _)
      | (with_reducible exact LeO.none _)
      | (with_reducible refine LeO.ite ?_ ?_)
      | (with_reducible refine LeO.bind ?_ (fun _ => ?_))
      | exact ih0 _ _
      | exact boscageref32_Err.mono _ _ _
      | exact LeO.none _
      | refine LeO.ite ?_ ?_
      | refine LeO.bind ?_ (fun _ => ?_)
theorem boscageref32_May.mono : ∀ a0 k, LeO (boscageref32_May.f k a0) (boscageref32_May.f (k + 1) a0) := by
  intro a0 k
  have ih0 := boscageref32_May.mono_l k
  unfold boscageref32_May.f
  repeat' first
      | (with_reducible exact ih0 _ _)
      | (with_reducible exact boscageref32_Err.mono _ _ _)
      | (with_reducible exact LeO.refl _)
      | (with_reducible exact LeO.none _)
      | (with_reducible refine LeO.ite ?_ ?_)
      | (with_reducible refine LeO.bind ?_ (fun _ => ?_))
      | exact ih0 _ _
      | exact boscageref32_Err.mono _ _ _
      | exact LeO.none _
      | refine LeO.ite ?_ ?_
      | refine LeO.bind ?_ (fun _ => ?_)
set_option maxHeartbeats 8000000 in
set_option maxRecDepth 100000 in
theorem boscageref32_May.calls (k : Nat) (A0 : Option Addr) (c0 : Nat) (l0 : List (S127)) (r : Int) (w : World) (hr0 : Kd.C k127 w A0 l0.length l0) (hc0 : l0.length ≤ c0) (h : boscageref32_May.f k l0 = some r) :
    Calls Try.prog 40 #[.slice A0 l0.length c0] w fun e w' => e = .returned (.int .i64 r) ∧ Below w.heap.size w w' := by
  have HR0 := Aside0.mk hr0
  have HC0 := Aside0.mk hc0
  clear hr0 hc0
  have HB := Aside0.mk (Below.refl w.heap.size w)
  have H : (boscageref32_May.l0 k l0 0) = some r := h
  clear h
  have H' := Aside0.mk H
  clear H
  go_enter Try.func40, Try.ntmps40
  go_wp2
  go_loopg [3] k (fun kq v3 w' => ∃ (x3_1 : Int), v3 = .int .i64 x3_1 ∧ Aside0 (boscageref32_May.l0 kq l0 x3_1 = some r) ∧ Aside0 (kq ≤ k) ∧ Aside0 (Below w.heap.size w w'))
  case atStart => exact ⟨(0), (by first | rfl | (simp; done) | (simp [*]; done)), H', ⟨Nat.le_refl _⟩, ⟨by repeat (first | (with_reducible first | exact HB.out | apply below_alloc | apply pw_below_drewN | apply below_drew1) | exact HB.out)⟩⟩
  case round =>
    clear H'
    obtain ⟨x3_1, rfl, HA, HK1, HB⟩ := hrel
    cases gk with
    | zero => exact absurd HA.out (by simp [boscageref32_May.l0])
    | succ k1 =>
      have H := HA.out
      clear HA
      simp only [boscageref32_May.l0] at H
      by_cases c2 : x3_1 < (l0.length : Int)
      · rw [if_pos c2] at H
        have c2b0 : decide (x3_1 < (l0.length : Int)) = true := decide_eq_true c2
        clear c2
        replace H := Option.bind_eq_some_iff.mp H
        obtain ⟨t117, A30, H⟩ := H
        replace H : (if t117 = 0 then (boscageref32_May.l0 k1 l0 (wrap64 (x3_1 + 1))) else (some t117)) = some r := H
        have A3 := Aside0.mk A30
        clear A30
        by_cases c4 : t117 = 0
        · rw [if_pos c4] at H
          have c4b0 : (t117 == 0) = true := beq_iff_eq.mpr c4
          have c4b1 : (t117 != 0) = false := bne_eq_false_iff_eq.mpr c4
          clear c4
          have H' := Aside0.mk H
          clear H
          go_wp2_with (first | ((with_reducible refine gate_callee (f := 79) rfl ?_); refine goesL_ (some 13) rfl rfl Try.func79 (by kernel_rfl) rfl #[.slice A0 l0.length c0, .int .i64 x3_1] rfl (by (try simp only [List.map_toArray, List.map_cons, List.map_nil]); first | done | rfl | (simp only [List.length_drop, List.length_take]; rfl)) ?_; (with_reducible refine (boscageref32_Err.calls k1 _ _ l0 x3_1 t117 _ ?side1 ?side2 A3.out).mono ?_); (case side1 => repeat (first | exact (Kd.C_below HR0.out HB.out) | (with_reducible refine Kd.C_alloc ?_ _) | (with_reducible refine Kd.C_drewN ?_ _) | (with_reducible refine Kd.C_drew ?_))); (case side2 => exact HC0.out); rintro e w5 ⟨rfl, hb⟩; refine ⟨_, rfl, ?_⟩; have n0_ := Aside0.mk (below_step (by repeat (first | (with_reducible first | exact HB.out | apply below_alloc | apply pw_below_drewN | apply below_drew1) | exact HB.out)) hb); clear HB; have HB := n0_; clear n0_; (try clear hb); (try clear hb2); (try clear hk); (try clear hi)))
          go_roundg k1
          case measure => have := HK1.out; omega
          case rel => exact ⟨(wrap64 (x3_1 + 1)), (by first | rfl | (simp; done) | (simp [*]; done)), H', ⟨by have := HK1.out; omega⟩, ⟨by repeat (first | (with_reducible first | exact HB.out | apply below_alloc | apply pw_below_drewN | apply below_drew1) | exact HB.out)⟩⟩
        · rw [if_neg c4] at H
          have c4b0 : (t117 == 0) = false := beq_eq_false_iff_ne.mpr c4
          have c4b1 : (t117 != 0) = true := bne_iff_ne.mpr c4
          obtain rfl := Option.some.inj H
          go_wp2_with (first | ((with_reducible refine gate_callee (f := 79) rfl ?_); refine goesL_ (some 13) rfl rfl Try.func79 (by kernel_rfl) rfl #[.slice A0 l0.length c0, .int .i64 x3_1] rfl (by (try simp only [List.map_toArray, List.map_cons, List.map_nil]); first | done | rfl | (simp only [List.length_drop, List.length_take]; rfl)) ?_; (with_reducible refine (boscageref32_Err.calls k1 _ _ l0 x3_1 t117 _ ?side1 ?side2 A3.out).mono ?_); (case side1 => repeat (first | exact (Kd.C_below HR0.out HB.out) | (with_reducible refine Kd.C_alloc ?_ _) | (with_reducible refine Kd.C_drewN ?_ _) | (with_reducible refine Kd.C_drew ?_))); (case side2 => exact HC0.out); rintro e w6 ⟨rfl, hb⟩; refine ⟨_, rfl, ?_⟩; have n0_ := Aside0.mk (below_step (by repeat (first | (with_reducible first | exact HB.out | apply below_alloc | apply pw_below_drewN | apply below_drew1) | exact HB.out)) hb); clear HB; have HB := n0_; clear n0_; (try clear hb); (try clear hb2); (try clear hk); (try clear hi)))
          go_ret
          exact ⟨by first | rfl | (simp [errW_none, errW_some] <;> rfl) | (simp [*, errW_none, errW_some] <;> rfl), by repeat (first | (with_reducible first | exact HB.out | apply below_alloc | apply pw_below_drewN | apply below_drew1) | exact HB.out)⟩
      · rw [if_neg c2] at H
        have c2b0 : decide (x3_1 < (l0.length : Int)) = false := decide_eq_false c2
        clear c2
        obtain rfl := Option.some.inj H
        go_wp2
        go_ret
        exact ⟨by first | rfl | (simp [errW_none, errW_some] <;> rfl) | (simp [*, errW_none, errW_some] <;> rfl), by repeat (first | (with_reducible first | exact HB.out | apply below_alloc | apply pw_below_drewN | apply below_drew1) | exact HB.out)⟩

end Go.Proofs.Ytipdhjdlfdbkiaa.PHistAdds
