-- PRINTED BY print.sh 35421559b90ae4d0a3588c463048766b98c2df88dd9212a6774a882060cdf62d: not written by this session
import Derived.Test.YtbbdhefipbepdaaPWordHandlesx0
import Derived.Test.YtbbdhefipbepdaaPWordHandlesx1
import Derived.Test.YtbbdhefipbepdaaPWordHandlesx2
import Derived.Test.YtbbdhefipbepdaaPWordHandlesx3
namespace Go.Proofs.Ytbbdhefipbepdaa.PWordHandles
open Go.RowKit Go.Proofs.YtbbdhefipbepdaaW.PrintWords Go.Proofs.YtbbdhefipbepdaaW.PrintLast Go.Proofs.YtbbdhefipbepdaaW.PrintMore
attribute [local go_sem] max2_int min2_int max_two min_two max_three min_three max_four min_four   -- for this text's walks alone
set_option linter.unusedVariables false
set_option linter.unusedSimpArgs false

attribute [local go_sem high] eqA24
/-! ### boscagelaw11_WordHandles: function 3 -/
mutual
def boscagelaw11_WordHandles.j0 : Nat → Int → Int → Int → Bool → Int → Int → Int → Bool → Int → Int → Int → Int → Int → Int → Int → Int → Int → Int → Int → Int → Int → Int → Int → Option (Bool)
  | 0, _, _, _, _, _, _, _, _, _, _, _, _, _, _, _, _, _, _, _, _, _, _, _ => none
  | k + 1, x0, x1, x12, x14, x15, x16, x18, x20, x125000, x125001, x125002, x130000, x130001, x130002, x135000, x135001, x135002, x142000, x142001, x142002, x143000, x143001, x143002 => if x20 = true then ((boscageref11_Handle.f k 1 (wrap64 (x1 - x0)) 0 0).bind fun bt144 => (boscagelaw11_WordHandles.j1 k x12 x14 x15 x16 x18 x20 x125000 x125001 x125002 x130000 x130001 x130002 x135000 x135001 x135002 x142000 x142001 x142002 bt144.1 bt144.2.1 bt144.2.2.1)) else (boscagelaw11_WordHandles.j1 k x12 x14 x15 x16 x18 x20 x125000 x125001 x125002 x130000 x130001 x130002 x135000 x135001 x135002 x142000 x142001 x142002 x143000 x143001 x143002)
def boscagelaw11_WordHandles.j1 : Nat → Int → Bool → Int → Int → Int → Bool → Int → Int → Int → Int → Int → Int → Int → Int → Int → Int → Int → Int → Int → Int → Int → Option (Bool)
  | 0, _, _, _, _, _, _, _, _, _, _, _, _, _, _, _, _, _, _, _, _, _ => none
  | k + 1, x12, x14, x15, x16, x18, x20, x125000, x125001, x125002, x130000, x130001, x130002, x135000, x135001, x135002, x142000, x142001, x142002, x143000, x143001, x143002 => if (x130000 == x135000 && (x130001 == x135001 && (x130002 == x135002))) = true then ((boscagelaw11_err.f x14 2).bind fun t148 => (if x12 = t148 then ((boscageref11_Kind.f k x125000 x125001 x125002).bind fun t149 => (if x15 = t149 then ((boscagelaw11_err.f (decide (x15 > 0)) 4).bind fun t150 => (if x16 = t150 then (if (x142000 == x143000 && (x142001 == x143001 && (x142002 == x143002))) = true then ((boscagelaw11_err.f x20 2).bind fun t151 => (if x18 = t151 then ((boscagelaw11_works.f k).bind fun t152 => (some t152)) else (some false))) else (some false)) else (some false))) else (some false))) else (some false))) else (some false)
end
def boscagelaw11_WordHandles.f (k : Nat) (a0 : Int) (a1 : Int) (a2 : Int) (a3 : Int) (a4_0 : Int) (a4_1 : Int) (a4_2 : Int) : Option (Bool) := (word_Handle.f a0 a1 a2 a3).bind fun bt125 => ((boscageref11_Handle.f k a0 a1 a2 a3).bind fun bt130 => ((word_Kind.f k a4_0 a4_1 a4_2).bind fun bt135 => ((word_First.f a1 a0).bind fun bt137 => ((boscageref11_Many.f a0).bind fun t143 => (if t143 = true then (if a1 ≥ 0 then (boscagelaw11_WordHandles.j0 k a0 a1 bt125.2.2.2 bt130.2.2.2 bt135.1 bt135.2 bt137.2.2.2 (decide (a1 < a0)) a4_0 a4_1 a4_2 bt125.1 bt125.2.1 bt125.2.2.1 bt130.1 bt130.2.1 bt130.2.2.1 bt137.1 bt137.2.1 bt137.2.2.1 0 0 0) else (boscagelaw11_WordHandles.j0 k a0 a1 bt125.2.2.2 bt130.2.2.2 bt135.1 bt135.2 bt137.2.2.2 false a4_0 a4_1 a4_2 bt125.1 bt125.2.1 bt125.2.2.1 bt130.1 bt130.2.1 bt130.2.2.1 bt137.1 bt137.2.1 bt137.2.2.1 0 0 0)) else (boscagelaw11_WordHandles.j0 k a0 a1 bt125.2.2.2 bt130.2.2.2 bt135.1 bt135.2 bt137.2.2.2 false a4_0 a4_1 a4_2 bt125.1 bt125.2.1 bt125.2.2.1 bt130.1 bt130.2.1 bt130.2.2.1 bt137.1 bt137.2.1 bt137.2.2.1 0 0 0))))))
theorem boscagelaw11_WordHandles.mono_l : ∀ k, (∀ y0 y1 y2 y3 y4 y5 y6 y7 y8 y9 y10 y11 y12 y13 y14 y15 y16 y17 y18 y19 y20 y21 y22, LeO (boscagelaw11_WordHandles.j0 k y0 y1 y2 y3 y4 y5 y6 y7 y8 y9 y10 y11 y12 y13 y14 y15 y16 y17 y18 y19 y20 y21 y22) (boscagelaw11_WordHandles.j0 (k + 1) y0 y1 y2 y3 y4 y5 y6 y7 y8 y9 y10 y11 y12 y13 y14 y15 y16 y17 y18 y19 y20 y21 y22)) ∧ (∀ y0 y1 y2 y3 y4 y5 y6 y7 y8 y9 y10 y11 y12 y13 y14 y15 y16 y17 y18 y19 y20, LeO (boscagelaw11_WordHandles.j1 k y0 y1 y2 y3 y4 y5 y6 y7 y8 y9 y10 y11 y12 y13 y14 y15 y16 y17 y18 y19 y20) (boscagelaw11_WordHandles.j1 (k + 1) y0 y1 y2 y3 y4 y5 y6 y7 y8 y9 y10 y11 y12 y13 y14 y15 y16 y17 y18 y19 y20))
  | 0 => ⟨fun _ _ _ _ _ _ _ _ _ _ _ _ _ _ _ _ _ _ _ _ _ _ _ r h => by simp [boscagelaw11_WordHandles.j0] at h, fun _ _ _ _ _ _ _ _ _ _ _ _ _ _ _ _ _ _ _ _ _ r h => by simp [boscagelaw11_WordHandles.j1] at h⟩
  | k + 1 => by
    obtain ⟨ih0, ih1⟩ := boscagelaw11_WordHandles.mono_l k
    refine ⟨?_, ?_⟩
    · intro y0 y1 y2 y3 y4 y5 y6 y7 y8 y9 y10 y11 y12 y13 y14 y15 y16 y17 y18 y19 y20 y21 y22
      unfold boscagelaw11_WordHandles.j0
      repeat' first
      | (with_reducible exact ih0 _ _ _ _ _ _ _ _ _ _ _ _ _ _ _ _ _ _ _ _ _ _ _)
      | (with_reducible exact ih1 _ _ _ _ _ _ _ _ _ _ _ _ _ _ _ _ _ _ _ _ _)
      | (with_reducible exact boscagelaw11_works.mono _)
      | (with_reducible exact boscageref11_Handle.mono _ _ _ _ _)
      | (with_reducible exact boscageref11_Kind.mono _ _ _ _)
      | (with_reducible exact word_Kind.mono _ _ _ _)
      | (with_reducible exact LeO.refl _)
      | (with_reducible exact LeO.none _)
      | (with_reducible refine LeO.ite ?_ ?_)
      | (with_reducible refine LeO.bind ?_ (fun _ => ?_))
      | exact ih0 _ _ _ _ _ _ _ _ _ _ _ _ _ _ _ _ _ _ _ _ _ _ _
      | exact ih1 _ _ _ _ _ _ _ _ _ _ _ _ _ _ _ _ _ _ _ _ _
      | exact boscagelaw11_works.mono _
      | exact boscageref11_Handle.mono _ _ _ _ _
      | exact boscageref11_Kind.mono _ _ _ _
      | exact word_Kind.mono _ _ _ _
      | exact LeO.none _
      | refine LeO.ite ?_ ?_
      | refine LeO.bind ?_ (fun _ => ?_)
    · intro y0 y1 y2 y3 y4 y5 y6 y7 y8 y9 y10 y11 y12 y13 y14 y15 y16 y17 y18 y19 y20
      unfold boscagelaw11_WordHandles.j1
      repeat' first
      | (with_reducible exact ih0 _ _ _ _ _ _ _ _ _ _ _ _ _ _ _ _ _ _ _ _ _ _ _)
      | (with_reducible exact ih1 _ _ _ _ _ _ _ _ _ _ _ _ _ _ _ _ _ _ _ _ _)
      | (with_reducible exact boscagelaw11_works.mono _)
      | (with_reducible exact boscageref11_Handle.mono _ _ _ _ _)
      | (with_reducible exact boscageref11_Kind.mono _ _ _ _)
      | (with_reducible exact word_Kind.mono _ _ _ _)
      | (with_reducible exact LeO.refl _)
      | (with_reducible exact LeO.none _)
      | (with_reducible refine LeO.ite ?_ ?_)
      | (with_reducible refine LeO.bind ?_ (fun _ => ?_))
      | exact ih0 _ _ _ _ _ _ _ _ _ _ _ _ _ _ _ _ _ _ _ _ _ _ _
      | exact ih1 _ _ _ _ _ _ _ _ _ _ _ _ _ _ _ _ _ _ _ _ _
      | exact boscagelaw11_works.mono _
      | exact boscageref11_Handle.mono _ _ _ _ _
      | exact boscageref11_Kind.mono _ _ _ _
      | exact word_Kind.mono _ _ _ _
      | exact LeO.none _
      | refine LeO.ite ?_ ?_
      | refine LeO.bind ?_ (fun _ => ?_)
theorem boscagelaw11_WordHandles.mono : ∀ a0 a1 a2 a3 a4 a5 a6 k, LeO (boscagelaw11_WordHandles.f k a0 a1 a2 a3 a4 a5 a6) (boscagelaw11_WordHandles.f (k + 1) a0 a1 a2 a3 a4 a5 a6) := by
  intro a0 a1 a2 a3 a4 a5 a6 k
  obtain ⟨ih0, ih1⟩ := boscagelaw11_WordHandles.mono_l k
  unfold boscagelaw11_WordHandles.f
  repeat' first
      | (with_reducible exact ih0 _ _ _ _ _ _ _ _ _ _ _ _ _ _ _ _ _ _ _ _ _ _ _)
      | (with_reducible exact ih1 _ _ _ _ _ _ _ _ _ _ _ _ _ _ _ _ _ _ _ _ _)
      | (with_reducible exact boscagelaw11_works.mono _)
      | (with_reducible exact boscageref11_Handle.mono _ _ _ _ _)
      | (with_reducible exact boscageref11_Kind.mono _ _ _ _)
      | (with_reducible exact word_Kind.mono _ _ _ _)
      | (with_reducible exact LeO.refl _)
      | (with_reducible exact LeO.none _)
      | (with_reducible refine LeO.ite ?_ ?_)
      | (with_reducible refine LeO.bind ?_ (fun _ => ?_))
      | exact ih0 _ _ _ _ _ _ _ _ _ _ _ _ _ _ _ _ _ _ _ _ _ _ _
      | exact ih1 _ _ _ _ _ _ _ _ _ _ _ _ _ _ _ _ _ _ _ _ _
      | exact boscagelaw11_works.mono _
      | exact boscageref11_Handle.mono _ _ _ _ _
      | exact boscageref11_Kind.mono _ _ _ _
      | exact word_Kind.mono _ _ _ _
      | exact LeO.none _
      | refine LeO.ite ?_ ?_
      | refine LeO.bind ?_ (fun _ => ?_)
set_option maxHeartbeats 8000000 in
set_option maxRecDepth 100000 in
theorem boscagelaw11_WordHandles.calls (k : Nat) (a0 : Int) (a1 : Int) (a2 : Int) (a3 : Int) (a4_0 : Int) (a4_1 : Int) (a4_2 : Int) (r : Bool) (w : World) (h : boscagelaw11_WordHandles.f k a0 a1 a2 a3 a4_0 a4_1 a4_2 = some r) :
    Calls Try.prog 3 #[.int .i64 a0, .int .i64 a1, .int .i64 a2, .int .i64 a3, .agg #[.int .i64 a4_0, .int .i64 a4_1, .int .i64 a4_2]] w fun e w' => e = .returned (.bool r) ∧ Below w.heap.size w w' := by
  have hu24 := Try.underlying24
  have HB := Aside0.mk (Below.refl w.heap.size w)
  have H : ((word_Handle.f a0 a1 a2 a3).bind fun bt125 => ((boscageref11_Handle.f k a0 a1 a2 a3).bind fun bt130 => ((word_Kind.f k a4_0 a4_1 a4_2).bind fun bt135 => ((word_First.f a1 a0).bind fun bt137 => ((boscageref11_Many.f a0).bind fun t143 => (if t143 = true then (if a1 ≥ 0 then (boscagelaw11_WordHandles.j0 k a0 a1 bt125.2.2.2 bt130.2.2.2 bt135.1 bt135.2 bt137.2.2.2 (decide (a1 < a0)) a4_0 a4_1 a4_2 bt125.1 bt125.2.1 bt125.2.2.1 bt130.1 bt130.2.1 bt130.2.2.1 bt137.1 bt137.2.1 bt137.2.2.1 0 0 0) else (boscagelaw11_WordHandles.j0 k a0 a1 bt125.2.2.2 bt130.2.2.2 bt135.1 bt135.2 bt137.2.2.2 false a4_0 a4_1 a4_2 bt125.1 bt125.2.1 bt125.2.2.1 bt130.1 bt130.2.1 bt130.2.2.1 bt137.1 bt137.2.1 bt137.2.2.1 0 0 0)) else (boscagelaw11_WordHandles.j0 k a0 a1 bt125.2.2.2 bt130.2.2.2 bt135.1 bt135.2 bt137.2.2.2 false a4_0 a4_1 a4_2 bt125.1 bt125.2.1 bt125.2.2.1 bt130.1 bt130.2.1 bt130.2.2.1 bt137.1 bt137.2.1 bt137.2.2.1 0 0 0))))))) = some r := h
  clear h
  replace H := Option.bind_eq_some_iff.mp H
  obtain ⟨⟨t125, t126, t127, t128⟩, A60, H⟩ := H
  replace H : ((boscageref11_Handle.f k a0 a1 a2 a3).bind fun bt130 => ((word_Kind.f k a4_0 a4_1 a4_2).bind fun bt135 => ((word_First.f a1 a0).bind fun bt137 => ((boscageref11_Many.f a0).bind fun t143 => (if t143 = true then (if a1 ≥ 0 then (boscagelaw11_WordHandles.j0 k a0 a1 t128 bt130.2.2.2 bt135.1 bt135.2 bt137.2.2.2 (decide (a1 < a0)) a4_0 a4_1 a4_2 t125 t126 t127 bt130.1 bt130.2.1 bt130.2.2.1 bt137.1 bt137.2.1 bt137.2.2.1 0 0 0) else (boscagelaw11_WordHandles.j0 k a0 a1 t128 bt130.2.2.2 bt135.1 bt135.2 bt137.2.2.2 false a4_0 a4_1 a4_2 t125 t126 t127 bt130.1 bt130.2.1 bt130.2.2.1 bt137.1 bt137.2.1 bt137.2.2.1 0 0 0)) else (boscagelaw11_WordHandles.j0 k a0 a1 t128 bt130.2.2.2 bt135.1 bt135.2 bt137.2.2.2 false a4_0 a4_1 a4_2 t125 t126 t127 bt130.1 bt130.2.1 bt130.2.2.1 bt137.1 bt137.2.1 bt137.2.2.1 0 0 0)))))) = some r := H
  have A6 := Aside0.mk A60
  clear A60
  replace H := Option.bind_eq_some_iff.mp H
  obtain ⟨⟨t130, t131, t132, t133⟩, A70, H⟩ := H
  replace H : ((word_Kind.f k a4_0 a4_1 a4_2).bind fun bt135 => ((word_First.f a1 a0).bind fun bt137 => ((boscageref11_Many.f a0).bind fun t143 => (if t143 = true then (if a1 ≥ 0 then (boscagelaw11_WordHandles.j0 k a0 a1 t128 t133 bt135.1 bt135.2 bt137.2.2.2 (decide (a1 < a0)) a4_0 a4_1 a4_2 t125 t126 t127 t130 t131 t132 bt137.1 bt137.2.1 bt137.2.2.1 0 0 0) else (boscagelaw11_WordHandles.j0 k a0 a1 t128 t133 bt135.1 bt135.2 bt137.2.2.2 false a4_0 a4_1 a4_2 t125 t126 t127 t130 t131 t132 bt137.1 bt137.2.1 bt137.2.2.1 0 0 0)) else (boscagelaw11_WordHandles.j0 k a0 a1 t128 t133 bt135.1 bt135.2 bt137.2.2.2 false a4_0 a4_1 a4_2 t125 t126 t127 t130 t131 t132 bt137.1 bt137.2.1 bt137.2.2.1 0 0 0))))) = some r := H
  have A7 := Aside0.mk A70
  clear A70
  replace H := Option.bind_eq_some_iff.mp H
  obtain ⟨⟨t135, t136⟩, A80, H⟩ := H
  replace H : ((word_First.f a1 a0).bind fun bt137 => ((boscageref11_Many.f a0).bind fun t143 => (if t143 = true then (if a1 ≥ 0 then (boscagelaw11_WordHandles.j0 k a0 a1 t128 t133 t135 t136 bt137.2.2.2 (decide (a1 < a0)) a4_0 a4_1 a4_2 t125 t126 t127 t130 t131 t132 bt137.1 bt137.2.1 bt137.2.2.1 0 0 0) else (boscagelaw11_WordHandles.j0 k a0 a1 t128 t133 t135 t136 bt137.2.2.2 false a4_0 a4_1 a4_2 t125 t126 t127 t130 t131 t132 bt137.1 bt137.2.1 bt137.2.2.1 0 0 0)) else (boscagelaw11_WordHandles.j0 k a0 a1 t128 t133 t135 t136 bt137.2.2.2 false a4_0 a4_1 a4_2 t125 t126 t127 t130 t131 t132 bt137.1 bt137.2.1 bt137.2.2.1 0 0 0)))) = some r := H
  have A8 := Aside0.mk A80
  clear A80
  replace H := Option.bind_eq_some_iff.mp H
  obtain ⟨⟨t137, t138, t139, t140⟩, A90, H⟩ := H
  replace H : ((boscageref11_Many.f a0).bind fun t143 => (if t143 = true then (if a1 ≥ 0 then (boscagelaw11_WordHandles.j0 k a0 a1 t128 t133 t135 t136 t140 (decide (a1 < a0)) a4_0 a4_1 a4_2 t125 t126 t127 t130 t131 t132 t137 t138 t139 0 0 0) else (boscagelaw11_WordHandles.j0 k a0 a1 t128 t133 t135 t136 t140 false a4_0 a4_1 a4_2 t125 t126 t127 t130 t131 t132 t137 t138 t139 0 0 0)) else (boscagelaw11_WordHandles.j0 k a0 a1 t128 t133 t135 t136 t140 false a4_0 a4_1 a4_2 t125 t126 t127 t130 t131 t132 t137 t138 t139 0 0 0))) = some r := H
  have A9 := Aside0.mk A90
  clear A90
  have HC10 := Aside0.mk H
  clear H
  go_enter Try.func3, Try.ntmps3
  go_upto_region 6 with (first | ((with_reducible refine gate_dst (N := 9) rfl ?_); refine box_event ?hg (N := 9) ?hd (cs := #[.int .i64 a4_0, .int .i64 a4_1, .int .i64 a4_2]) (t := 24) ?hr ?_; (case hd => rfl); (case hg => rfl); (case hr => first | (go_simp; done) | (go_simp; rfl)); intro gb124 hg w11 hbox hb; have n0_ := Aside0.mk (below_step (by repeat (first | (with_reducible first | exact HB.out | apply below_alloc | apply pw_below_drewN | apply below_drew1) | exact HB.out)) hb); have n1_ := Aside0.mk (hbox); have n2_ := Aside0.mk ((by rw [hg]; exact (below_size (by repeat (first | (with_reducible first | exact HB.out | apply below_alloc | apply pw_below_drewN | apply below_drew1) | exact HB.out))) : w.heap.size ≤ gb124)); have n3_ := Aside0.mk ((by rw [hg]; exact (below_size (by repeat (first | (with_reducible first | exact HB.out | apply below_alloc | apply pw_below_drewN | apply below_drew1) | exact HB.out))) : w.heap.size ≤ gb124)); clear HB; have HB := n0_; have BK124 := n1_; have GW124 := n2_; have GE124 := n3_; clear n0_ n1_ n2_ n3_; clear hb hbox hg) | ((with_reducible refine gate_callee (f := 11) rfl ?_); refine goesL_ (some 26) rfl rfl Try.func11 (by kernel_rfl) rfl #[.int .i64 a0, .int .i64 a1, .int .i64 a2, .int .i64 a3] rfl (by (try simp only [List.map_toArray, List.map_cons, List.map_nil]); first | done | rfl | (simp only [List.length_drop, List.length_take]; rfl)) ?_; (with_reducible refine (word_Handle.calls a0 a1 a2 a3 t125 t126 t127 t128 _ A6.out).mono ?_); rintro e w12 ⟨rfl, hb⟩; refine ⟨_, rfl, ?_⟩; have n0_ := Aside0.mk (blk_below (g := gb124) (o := .cells #[.int .i64 a4_0, .int .i64 a4_1, .int .i64 a4_2] 24 (0, 0)) (by (with_reducible repeat (first | refine blk_drewN ?_ _ | refine blk_drew ?_ | refine blk_alloc ?_ _)); exact BK124.out) hb); have n1_ := Aside0.mk (below_step (by repeat (first | (with_reducible first | exact HB.out | apply below_alloc | apply pw_below_drewN | apply below_drew1 | refine below_set ?_ GE124.out) | exact HB.out)) hb); clear BK124; clear HB; have BK124 := n0_; have HB := n1_; clear n0_ n1_; (try clear hb); (try clear hb2); (try clear hk); (try clear hi)) | ((with_reducible refine gate_dst (N := 11) rfl ?_); refine box_event ?hg (N := 11) ?hd (cs := #[.int .i64 0, .int .i64 0, .int .i64 0]) (t := 24) ?hr ?_; (case hd => rfl); (case hg => rfl); (case hr => first | (go_simp; done) | (go_simp; rfl)); intro gb129 hg w13 hbox hb; have n0_ := Aside0.mk (blk_below (g := gb124) (o := .cells #[.int .i64 a4_0, .int .i64 a4_1, .int .i64 a4_2] 24 (0, 0)) (by (with_reducible repeat (first | refine blk_drewN ?_ _ | refine blk_drew ?_ | refine blk_alloc ?_ _)); exact BK124.out) hb); have n1_ := Aside0.mk (below_step (by repeat (first | (with_reducible first | exact HB.out | apply below_alloc | apply pw_below_drewN | apply below_drew1 | refine below_set ?_ GE124.out) | exact HB.out)) hb); have n2_ := Aside0.mk (hbox); have n3_ := Aside0.mk ((by rw [hg]; exact (below_size (by repeat (first | (with_reducible first | exact HB.out | apply below_alloc | apply pw_below_drewN | apply below_drew1 | refine below_set ?_ GE124.out) | exact HB.out))) : w.heap.size ≤ gb129)); have n4_ := Aside0.mk ((by rw [hg]; exact (below_size (by repeat (first | (with_reducible first | exact HB.out | apply below_alloc | apply pw_below_drewN | apply below_drew1 | refine below_set ?_ GE124.out) | exact HB.out))) : w.heap.size ≤ gb129)); have n5_ := Aside0.mk ((by rw [hg]; exact Nat.ne_of_lt (blk_lt (g := gb124) (o := .cells #[.int .i64 a4_0, .int .i64 a4_1, .int .i64 a4_2] 24 (0, 0)) (by (with_reducible repeat (first | refine blk_drewN ?_ _ | refine blk_drew ?_ | refine blk_alloc ?_ _)); exact BK124.out)) : gb124 ≠ gb129)); have n6_ := Aside0.mk ((by rw [hg]; exact Nat.ne_of_gt (blk_lt (g := gb124) (o := .cells #[.int .i64 a4_0, .int .i64 a4_1, .int .i64 a4_2] 24 (0, 0)) (by (with_reducible repeat (first | refine blk_drewN ?_ _ | refine blk_drew ?_ | refine blk_alloc ?_ _)); exact BK124.out)) : gb129 ≠ gb124)); clear BK124; clear HB; have BK124 := n0_; have HB := n1_; have BK129 := n2_; have GW129 := n3_; have GE129 := n4_; have NB124_129 := n5_; have NB129_124 := n6_; clear n0_ n1_ n2_ n3_ n4_ n5_ n6_; clear hb hbox hg; have hnb14 := NB129_124.out; have hnc14 := NB124_129.out; have hcz15_0 : w13.cell? ⟨gb129, 0, none⟩ = some (.int .i64 0) := (blk_cell BK129.out 0).trans rfl; have hcz15_1 : w13.cell? ⟨gb129, 1, none⟩ = some (.int .i64 0) := (blk_cell BK129.out 1).trans rfl; have hcz15_2 : w13.cell? ⟨gb129, 2, none⟩ = some (.int .i64 0) := (blk_cell BK129.out 2).trans rfl; have hfz15_0 := blk_frozen BK129.out 0; have hfz15_1 := blk_frozen BK129.out 1; have hfz15_2 := blk_frozen BK129.out 2) | ((with_reducible refine gate_callee (f := 12) rfl ?_); refine goesL_ (some 34) rfl rfl Try.func12 (by kernel_rfl) rfl #[.int .i64 a0, .int .i64 a1, .int .i64 a2, .int .i64 a3] rfl (by (try simp only [List.map_toArray, List.map_cons, List.map_nil]); first | done | rfl | (simp only [List.length_drop, List.length_take]; rfl)) ?_; (with_reducible refine (boscageref11_Handle.calls k a0 a1 a2 a3 t130 t131 t132 t133 _ A7.out).mono ?_); rintro e w16 ⟨rfl, hb⟩; refine ⟨_, rfl, ?_⟩; have n0_ := Aside0.mk (blk_below (g := gb124) (o := .cells #[.int .i64 a4_0, .int .i64 a4_1, .int .i64 a4_2] 24 (0, 0)) (by (with_reducible repeat (first | refine blk_drewN ?_ _ | refine blk_drew ?_ | refine blk_alloc ?_ _)); refine blk_far ?_ NB124_129.out _; (with_reducible repeat (first | refine blk_drewN ?_ _ | refine blk_drew ?_ | refine blk_alloc ?_ _)); refine blk_far ?_ NB124_129.out _; (with_reducible repeat (first | refine blk_drewN ?_ _ | refine blk_drew ?_ | refine blk_alloc ?_ _)); refine blk_far ?_ NB124_129.out _; (with_reducible repeat (first | refine blk_drewN ?_ _ | refine blk_drew ?_ | refine blk_alloc ?_ _)); exact BK124.out) hb); have n1_ := Aside0.mk (blk_below (g := gb129) (o := .cells #[.int .i64 t125, .int .i64 t126, .int .i64 t127] 24 (0, 0)) (by (with_reducible repeat (first | refine blk_drewN ?_ _ | refine blk_drew ?_ | refine blk_alloc ?_ _)); refine blk_put (cs := #[.int .i64 t125, .int .i64 t126, .int .i64 0]) ?_ 2 _ rfl; (with_reducible repeat (first | refine blk_drewN ?_ _ | refine blk_drew ?_ | refine blk_alloc ?_ _)); refine blk_put (cs := #[.int .i64 t125, .int .i64 0, .int .i64 0]) ?_ 1 _ rfl; (with_reducible repeat (first | refine blk_drewN ?_ _ | refine blk_drew ?_ | refine blk_alloc ?_ _)); refine blk_put (cs := #[.int .i64 0, .int .i64 0, .int .i64 0]) ?_ 0 _ rfl; (with_reducible repeat (first | refine blk_drewN ?_ _ | refine blk_drew ?_ | refine blk_alloc ?_ _)); exact BK129.out) hb); have n2_ := Aside0.mk (below_step (by repeat (first | (with_reducible first | exact HB.out | apply below_alloc | apply pw_below_drewN | apply below_drew1 | refine below_set ?_ GE124.out | refine below_set ?_ GE129.out) | exact HB.out)) hb); clear BK124; clear BK129; clear HB; have BK124 := n0_; have BK129 := n1_; have HB := n2_; clear n0_ n1_ n2_; (try clear hb); (try clear hb2); (try clear hk); (try clear hi)) | ((with_reducible refine gate_dst (N := 13) rfl ?_); refine box_event ?hg (N := 13) ?hd (cs := #[.int .i64 0, .int .i64 0, .int .i64 0]) (t := 24) ?hr ?_; (case hd => rfl); (case hg => rfl); (case hr => first | (go_simp; done) | (go_simp; rfl)); intro gb134 hg w17 hbox hb; have n0_ := Aside0.mk (blk_below (g := gb124) (o := .cells #[.int .i64 a4_0, .int .i64 a4_1, .int .i64 a4_2] 24 (0, 0)) (by (with_reducible repeat (first | refine blk_drewN ?_ _ | refine blk_drew ?_ | refine blk_alloc ?_ _)); exact BK124.out) hb); have n1_ := Aside0.mk (blk_below (g := gb129) (o := .cells #[.int .i64 t125, .int .i64 t126, .int .i64 t127] 24 (0, 0)) (by (with_reducible repeat (first | refine blk_drewN ?_ _ | refine blk_drew ?_ | refine blk_alloc ?_ _)); exact BK129.out) hb); have n2_ := Aside0.mk (below_step (by repeat (first | (with_reducible first | exact HB.out | apply below_alloc | apply pw_below_drewN | apply below_drew1 | refine below_set ?_ GE124.out | refine below_set ?_ GE129.out) | exact HB.out)) hb); have n3_ := Aside0.mk (hbox); have n4_ := Aside0.mk ((by rw [hg]; exact (below_size (by repeat (first | (with_reducible first | exact HB.out | apply below_alloc | apply pw_below_drewN | apply below_drew1 | refine below_set ?_ GE124.out | refine below_set ?_ GE129.out) | exact HB.out))) : w.heap.size ≤ gb134)); have n5_ := Aside0.mk ((by rw [hg]; exact (below_size (by repeat (first | (with_reducible first | exact HB.out | apply below_alloc | apply pw_below_drewN | apply below_drew1 | refine below_set ?_ GE124.out | refine below_set ?_ GE129.out) | exact HB.out))) : w.heap.size ≤ gb134)); have n6_ := Aside0.mk ((by rw [hg]; exact Nat.ne_of_lt (blk_lt (g := gb124) (o := .cells #[.int .i64 a4_0, .int .i64 a4_1, .int .i64 a4_2] 24 (0, 0)) (by (with_reducible repeat (first | refine blk_drewN ?_ _ | refine blk_drew ?_ | refine blk_alloc ?_ _)); exact BK124.out)) : gb124 ≠ gb134)); have n7_ := Aside0.mk ((by rw [hg]; exact Nat.ne_of_gt (blk_lt (g := gb124) (o := .cells #[.int .i64 a4_0, .int .i64 a4_1, .int .i64 a4_2] 24 (0, 0)) (by (with_reducible repeat (first | refine blk_drewN ?_ _ | refine blk_drew ?_ | refine blk_alloc ?_ _)); exact BK124.out)) : gb134 ≠ gb124)); have n8_ := Aside0.mk ((by rw [hg]; exact Nat.ne_of_lt (blk_lt (g := gb129) (o := .cells #[.int .i64 t125, .int .i64 t126, .int .i64 t127] 24 (0, 0)) (by (with_reducible repeat (first | refine blk_drewN ?_ _ | refine blk_drew ?_ | refine blk_alloc ?_ _)); exact BK129.out)) : gb129 ≠ gb134)); have n9_ := Aside0.mk ((by rw [hg]; exact Nat.ne_of_gt (blk_lt (g := gb129) (o := .cells #[.int .i64 t125, .int .i64 t126, .int .i64 t127] 24 (0, 0)) (by (with_reducible repeat (first | refine blk_drewN ?_ _ | refine blk_drew ?_ | refine blk_alloc ?_ _)); exact BK129.out)) : gb134 ≠ gb129)); clear BK124; clear BK129; clear HB; have BK124 := n0_; have BK129 := n1_; have HB := n2_; have BK134 := n3_; have GW134 := n4_; have GE134 := n5_; have NB124_134 := n6_; have NB134_124 := n7_; have NB129_134 := n8_; have NB134_129 := n9_; clear n0_ n1_ n2_ n3_ n4_ n5_ n6_ n7_ n8_ n9_; clear hb hbox hg; have hnb18 := NB134_124.out; have hnc18 := NB124_134.out; have hnb19 := NB134_129.out; have hnc19 := NB129_134.out; have hcz20_0 : w17.cell? ⟨gb134, 0, none⟩ = some (.int .i64 0) := (blk_cell BK134.out 0).trans rfl; have hcz20_1 : w17.cell? ⟨gb134, 1, none⟩ = some (.int .i64 0) := (blk_cell BK134.out 1).trans rfl; have hcz20_2 : w17.cell? ⟨gb134, 2, none⟩ = some (.int .i64 0) := (blk_cell BK134.out 2).trans rfl; have hfz20_0 := blk_frozen BK134.out 0; have hfz20_1 := blk_frozen BK134.out 1; have hfz20_2 := blk_frozen BK134.out 2; have hcz21_0 : w17.cell? ⟨gb124, 0, none⟩ = some (.int .i64 a4_0) := (blk_cell BK124.out 0).trans rfl; have hcz21_1 : w17.cell? ⟨gb124, 1, none⟩ = some (.int .i64 a4_1) := (blk_cell BK124.out 1).trans rfl; have hcz21_2 : w17.cell? ⟨gb124, 2, none⟩ = some (.int .i64 a4_2) := (blk_cell BK124.out 2).trans rfl; have hfz21_0 := blk_frozen BK124.out 0; have hfz21_1 := blk_frozen BK124.out 1; have hfz21_2 := blk_frozen BK124.out 2) | ((with_reducible refine gate_callee (f := 13) rfl ?_); refine goesL_ (some 39) rfl rfl Try.func13 (by kernel_rfl) rfl #[.agg #[.int .i64 a4_0, .int .i64 a4_1, .int .i64 a4_2]] rfl (by (try simp only [List.map_toArray, List.map_cons, List.map_nil]); first | done | rfl | (simp only [List.length_drop, List.length_take]; rfl)) ?_; (with_reducible refine (word_Kind.calls k a4_0 a4_1 a4_2 t135 t136 _ A8.out).mono ?_); rintro e w22 ⟨rfl, hb⟩; refine ⟨_, rfl, ?_⟩; have n0_ := Aside0.mk (blk_below (g := gb124) (o := .cells #[.int .i64 a4_0, .int .i64 a4_1, .int .i64 a4_2] 24 (0, 0)) (by (with_reducible repeat (first | refine blk_drewN ?_ _ | refine blk_drew ?_ | refine blk_alloc ?_ _)); refine blk_far ?_ NB124_134.out _; (with_reducible repeat (first | refine blk_drewN ?_ _ | refine blk_drew ?_ | refine blk_alloc ?_ _)); refine blk_far ?_ NB124_134.out _; (with_reducible repeat (first | refine blk_drewN ?_ _ | refine blk_drew ?_ | refine blk_alloc ?_ _)); refine blk_far ?_ NB124_134.out _; (with_reducible repeat (first | refine blk_drewN ?_ _ | refine blk_drew ?_ | refine blk_alloc ?_ _)); exact BK124.out) hb); have n1_ := Aside0.mk (blk_below (g := gb129) (o := .cells #[.int .i64 t125, .int .i64 t126, .int .i64 t127] 24 (0, 0)) (by (with_reducible repeat (first | refine blk_drewN ?_ _ | refine blk_drew ?_ | refine blk_alloc ?_ _)); refine blk_far ?_ NB129_134.out _; (with_reducible repeat (first | refine blk_drewN ?_ _ | refine blk_drew ?_ | refine blk_alloc ?_ _)); refine blk_far ?_ NB129_134.out _; (with_reducible repeat (first | refine blk_drewN ?_ _ | refine blk_drew ?_ | refine blk_alloc ?_ _)); refine blk_far ?_ NB129_134.out _; (with_reducible repeat (first | refine blk_drewN ?_ _ | refine blk_drew ?_ | refine blk_alloc ?_ _)); exact BK129.out) hb); have n2_ := Aside0.mk (blk_below (g := gb134) (o := .cells #[.int .i64 t130, .int .i64 t131, .int .i64 t132] 24 (0, 0)) (by (with_reducible repeat (first | refine blk_drewN ?_ _ | refine blk_drew ?_ | refine blk_alloc ?_ _)); refine blk_put (cs := #[.int .i64 t130, .int .i64 t131, .int .i64 0]) ?_ 2 _ rfl; (with_reducible repeat (first | refine blk_drewN ?_ _ | refine blk_drew ?_ | refine blk_alloc ?_ _)); refine blk_put (cs := #[.int .i64 t130, .int .i64 0, .int .i64 0]) ?_ 1 _ rfl; (with_reducible repeat (first | refine blk_drewN ?_ _ | refine blk_drew ?_ | refine blk_alloc ?_ _)); refine blk_put (cs := #[.int .i64 0, .int .i64 0, .int .i64 0]) ?_ 0 _ rfl; (with_reducible repeat (first | refine blk_drewN ?_ _ | refine blk_drew ?_ | refine blk_alloc ?_ _)); exact BK134.out) hb); have n3_ := Aside0.mk (below_step (by repeat (first | (with_reducible first | exact HB.out | apply below_alloc | apply pw_below_drewN | apply below_drew1 | refine below_set ?_ GE124.out | refine below_set ?_ GE129.out | refine below_set ?_ GE134.out) | exact HB.out)) hb); clear BK124; clear BK129; clear BK134; clear HB; have BK124 := n0_; have BK129 := n1_; have BK134 := n2_; have HB := n3_; clear n0_ n1_ n2_ n3_; (try clear hb); (try clear hb2); (try clear hk); (try clear hi)) | ((with_reducible refine gate_callee (f := 14) rfl ?_); refine goesL_ (some 45) rfl rfl Try.func14 (by kernel_rfl) rfl #[.int .i64 a1, .int .i64 a0] rfl (by (try simp only [List.map_toArray, List.map_cons, List.map_nil]); first | done | rfl | (simp only [List.length_drop, List.length_take]; rfl)) ?_; (with_reducible refine (word_First.calls a1 a0 t137 t138 t139 t140 _ A9.out).mono ?_); rintro e w23 ⟨rfl, hb⟩; refine ⟨_, rfl, ?_⟩; have n0_ := Aside0.mk (blk_below (g := gb124) (o := .cells #[.int .i64 a4_0, .int .i64 a4_1, .int .i64 a4_2] 24 (0, 0)) (by (with_reducible repeat (first | refine blk_drewN ?_ _ | refine blk_drew ?_ | refine blk_alloc ?_ _)); exact BK124.out) hb); have n1_ := Aside0.mk (blk_below (g := gb129) (o := .cells #[.int .i64 t125, .int .i64 t126, .int .i64 t127] 24 (0, 0)) (by (with_reducible repeat (first | refine blk_drewN ?_ _ | refine blk_drew ?_ | refine blk_alloc ?_ _)); exact BK129.out) hb); have n2_ := Aside0.mk (blk_below (g := gb134) (o := .cells #[.int .i64 t130, .int .i64 t131, .int .i64 t132] 24 (0, 0)) (by (with_reducible repeat (first | refine blk_drewN ?_ _ | refine blk_drew ?_ | refine blk_alloc ?_ _)); exact BK134.out) hb); have n3_ := Aside0.mk (below_step (by repeat (first | (with_reducible first | exact HB.out | apply below_alloc | apply pw_below_drewN | apply below_drew1 | refine below_set ?_ GE124.out | refine below_set ?_ GE129.out | refine below_set ?_ GE134.out) | exact HB.out)) hb); clear BK124; clear BK129; clear BK134; clear HB; have BK124 := n0_; have BK129 := n1_; have BK134 := n2_; have HB := n3_; clear n0_ n1_ n2_ n3_; (try clear hb); (try clear hb2); (try clear hk); (try clear hi)) | ((with_reducible refine gate_dst (N := 17) rfl ?_); refine box_event ?hg (N := 17) ?hd (cs := #[.int .i64 0, .int .i64 0, .int .i64 0]) (t := 24) ?hr ?_; (case hd => rfl); (case hg => rfl); (case hr => first | (go_simp; done) | (go_simp; rfl)); intro gb141 hg w24 hbox hb; have n0_ := Aside0.mk (blk_below (g := gb124) (o := .cells #[.int .i64 a4_0, .int .i64 a4_1, .int .i64 a4_2] 24 (0, 0)) (by (with_reducible repeat (first | refine blk_drewN ?_ _ | refine blk_drew ?_ | refine blk_alloc ?_ _)); exact BK124.out) hb); have n1_ := Aside0.mk (blk_below (g := gb129) (o := .cells #[.int .i64 t125, .int .i64 t126, .int .i64 t127] 24 (0, 0)) (by (with_reducible repeat (first | refine blk_drewN ?_ _ | refine blk_drew ?_ | refine blk_alloc ?_ _)); exact BK129.out) hb); have n2_ := Aside0.mk (blk_below (g := gb134) (o := .cells #[.int .i64 t130, .int .i64 t131, .int .i64 t132] 24 (0, 0)) (by (with_reducible repeat (first | refine blk_drewN ?_ _ | refine blk_drew ?_ | refine blk_alloc ?_ _)); exact BK134.out) hb); have n3_ := Aside0.mk (below_step (by repeat (first | (with_reducible first | exact HB.out | apply below_alloc | apply pw_below_drewN | apply below_drew1 | refine below_set ?_ GE124.out | refine below_set ?_ GE129.out | refine below_set ?_ GE134.out) | exact HB.out)) hb); have n4_ := Aside0.mk (hbox); have n5_ := Aside0.mk ((by rw [hg]; exact (below_size (by repeat (first | (with_reducible first | exact HB.out | apply below_alloc | apply pw_below_drewN | apply below_drew1 | refine below_set ?_ GE124.out | refine below_set ?_ GE129.out | refine below_set ?_ GE134.out) | exact HB.out))) : w.heap.size ≤ gb141)); have n6_ := Aside0.mk ((by rw [hg]; exact (below_size (by repeat (first | (with_reducible first | exact HB.out | apply below_alloc | apply pw_below_drewN | apply below_drew1 | refine below_set ?_ GE124.out | refine below_set ?_ GE129.out | refine below_set ?_ GE134.out) | exact HB.out))) : w.heap.size ≤ gb141)); have n7_ := Aside0.mk ((by rw [hg]; exact Nat.ne_of_lt (blk_lt (g := gb124) (o := .cells #[.int .i64 a4_0, .int .i64 a4_1, .int .i64 a4_2] 24 (0, 0)) (by (with_reducible repeat (first | refine blk_drewN ?_ _ | refine blk_drew ?_ | refine blk_alloc ?_ _)); exact BK124.out)) : gb124 ≠ gb141)); have n8_ := Aside0.mk ((by rw [hg]; exact Nat.ne_of_gt (blk_lt (g := gb124) (o := .cells #[.int .i64 a4_0, .int .i64 a4_1, .int .i64 a4_2] 24 (0, 0)) (by (with_reducible repeat (first | refine blk_drewN ?_ _ | refine blk_drew ?_ | refine blk_alloc ?_ _)); exact BK124.out)) : gb141 ≠ gb124)); have n9_ := Aside0.mk ((by rw [hg]; exact Nat.ne_of_lt (blk_lt (g := gb129) (o := .cells #[.int .i64 t125, .int .i64 t126, .int .i64 t127] 24 (0, 0)) (by (with_reducible repeat (first | refine blk_drewN ?_ _ | refine blk_drew ?_ | refine blk_alloc ?_ _)); exact BK129.out)) : gb129 ≠ gb141)); have n10_ := Aside0.mk ((by rw [hg]; exact Nat.ne_of_gt (blk_lt (g := gb129) (o := .cells #[.int .i64 t125, .int .i64 t126, .int .i64 t127] 24 (0, 0)) (by (with_reducible repeat (first | refine blk_drewN ?_ _ | refine blk_drew ?_ | refine blk_alloc ?_ _)); exact BK129.out)) : gb141 ≠ gb129)); have n11_ := Aside0.mk ((by rw [hg]; exact Nat.ne_of_lt (blk_lt (g := gb134) (o := .cells #[.int .i64 t130, .int .i64 t131, .int .i64 t132] 24 (0, 0)) (by (with_reducible repeat (first | refine blk_drewN ?_ _ | refine blk_drew ?_ | refine blk_alloc ?_ _)); exact BK134.out)) : gb134 ≠ gb141)); have n12_ := Aside0.mk ((by rw [hg]; exact Nat.ne_of_gt (blk_lt (g := gb134) (o := .cells #[.int .i64 t130, .int .i64 t131, .int .i64 t132] 24 (0, 0)) (by (with_reducible repeat (first | refine blk_drewN ?_ _ | refine blk_drew ?_ | refine blk_alloc ?_ _)); exact BK134.out)) : gb141 ≠ gb134)); clear BK124; clear BK129; clear BK134; clear HB; have BK124 := n0_; have BK129 := n1_; have BK134 := n2_; have HB := n3_; have BK141 := n4_; have GW141 := n5_; have GE141 := n6_; have NB124_141 := n7_; have NB141_124 := n8_; have NB129_141 := n9_; have NB141_129 := n10_; have NB134_141 := n11_; have NB141_134 := n12_; clear n0_ n1_ n2_ n3_ n4_ n5_ n6_ n7_ n8_ n9_ n10_ n11_ n12_; clear hb hbox hg; have hnb25 := NB141_124.out; have hnc25 := NB124_141.out; have hnb26 := NB141_129.out; have hnc26 := NB129_141.out; have hnb27 := NB141_134.out; have hnc27 := NB134_141.out; have hcz28_0 : w24.cell? ⟨gb141, 0, none⟩ = some (.int .i64 0) := (blk_cell BK141.out 0).trans rfl; have hcz28_1 : w24.cell? ⟨gb141, 1, none⟩ = some (.int .i64 0) := (blk_cell BK141.out 1).trans rfl; have hcz28_2 : w24.cell? ⟨gb141, 2, none⟩ = some (.int .i64 0) := (blk_cell BK141.out 2).trans rfl; have hfz28_0 := blk_frozen BK141.out 0; have hfz28_1 := blk_frozen BK141.out 1; have hfz28_2 := blk_frozen BK141.out 2) | ((with_reducible refine gate_dst (N := 19) rfl ?_); refine box_event ?hg (N := 19) ?hd (cs := #[.int .i64 0, .int .i64 0, .int .i64 0]) (t := 24) ?hr ?_; (case hd => rfl); (case hg => rfl); (case hr => first | (go_simp; done) | (go_simp; rfl)); intro gb142 hg w29 hbox hb; have n0_ := Aside0.mk (blk_below (g := gb124) (o := .cells #[.int .i64 a4_0, .int .i64 a4_1, .int .i64 a4_2] 24 (0, 0)) (by (with_reducible repeat (first | refine blk_drewN ?_ _ | refine blk_drew ?_ | refine blk_alloc ?_ _)); refine blk_far ?_ NB124_141.out _; (with_reducible repeat (first | refine blk_drewN ?_ _ | refine blk_drew ?_ | refine blk_alloc ?_ _)); refine blk_far ?_ NB124_141.out _; (with_reducible repeat (first | refine blk_drewN ?_ _ | refine blk_drew ?_ | refine blk_alloc ?_ _)); refine blk_far ?_ NB124_141.out _; (with_reducible repeat (first | refine blk_drewN ?_ _ | refine blk_drew ?_ | refine blk_alloc ?_ _)); exact BK124.out) hb); have n1_ := Aside0.mk (blk_below (g := gb129) (o := .cells #[.int .i64 t125, .int .i64 t126, .int .i64 t127] 24 (0, 0)) (by (with_reducible repeat (first | refine blk_drewN ?_ _ | refine blk_drew ?_ | refine blk_alloc ?_ _)); refine blk_far ?_ NB129_141.out _; (with_reducible repeat (first | refine blk_drewN ?_ _ | refine blk_drew ?_ | refine blk_alloc ?_ _)); refine blk_far ?_ NB129_141.out _; (with_reducible repeat (first | refine blk_drewN ?_ _ | refine blk_drew ?_ | refine blk_alloc ?_ _)); refine blk_far ?_ NB129_141.out _; (with_reducible repeat (first | refine blk_drewN ?_ _ | refine blk_drew ?_ | refine blk_alloc ?_ _)); exact BK129.out) hb); have n2_ := Aside0.mk (blk_below (g := gb134) (o := .cells #[.int .i64 t130, .int .i64 t131, .int .i64 t132] 24 (0, 0)) (by (with_reducible repeat (first | refine blk_drewN ?_ _ | refine blk_drew ?_ | refine blk_alloc ?_ _)); refine blk_far ?_ NB134_141.out _; (with_reducible repeat (first | refine blk_drewN ?_ _ | refine blk_drew ?_ | refine blk_alloc ?_ _)); refine blk_far ?_ NB134_141.out _; (with_reducible repeat (first | refine blk_drewN ?_ _ | refine blk_drew ?_ | refine blk_alloc ?_ _)); refine blk_far ?_ NB134_141.out _; (with_reducible repeat (first | refine blk_drewN ?_ _ | refine blk_drew ?_ | refine blk_alloc ?_ _)); exact BK134.out) hb); have n3_ := Aside0.mk (blk_below (g := gb141) (o := .cells #[.int .i64 t137, .int .i64 t138, .int .i64 t139] 24 (0, 0)) (by (with_reducible repeat (first | refine blk_drewN ?_ _ | refine blk_drew ?_ | refine blk_alloc ?_ _)); refine blk_put (cs := #[.int .i64 t137, .int .i64 t138, .int .i64 0]) ?_ 2 _ rfl; (with_reducible repeat (first | refine blk_drewN ?_ _ | refine blk_drew ?_ | refine blk_alloc ?_ _)); refine blk_put (cs := #[.int .i64 t137, .int .i64 0, .int .i64 0]) ?_ 1 _ rfl; (with_reducible repeat (first | refine blk_drewN ?_ _ | refine blk_drew ?_ | refine blk_alloc ?_ _)); refine blk_put (cs := #[.int .i64 0, .int .i64 0, .int .i64 0]) ?_ 0 _ rfl; (with_reducible repeat (first | refine blk_drewN ?_ _ | refine blk_drew ?_ | refine blk_alloc ?_ _)); exact BK141.out) hb); have n4_ := Aside0.mk (below_step (by repeat (first | (with_reducible first | exact HB.out | apply below_alloc | apply pw_below_drewN | apply below_drew1 | refine below_set ?_ GE124.out | refine below_set ?_ GE129.out | refine below_set ?_ GE134.out | refine below_set ?_ GE141.out) | exact HB.out)) hb); have n5_ := Aside0.mk (hbox); have n6_ := Aside0.mk ((by rw [hg]; exact (below_size (by repeat (first | (with_reducible first | exact HB.out | apply below_alloc | apply pw_below_drewN | apply below_drew1 | refine below_set ?_ GE124.out | refine below_set ?_ GE129.out | refine below_set ?_ GE134.out | refine below_set ?_ GE141.out) | exact HB.out))) : w.heap.size ≤ gb142)); have n7_ := Aside0.mk ((by rw [hg]; exact (below_size (by repeat (first | (with_reducible first | exact HB.out | apply below_alloc | apply pw_below_drewN | apply below_drew1 | refine below_set ?_ GE124.out | refine below_set ?_ GE129.out | refine below_set ?_ GE134.out | refine below_set ?_ GE141.out) | exact HB.out))) : w.heap.size ≤ gb142)); have n8_ := Aside0.mk ((by rw [hg]; exact Nat.ne_of_lt (blk_lt (g := gb124) (o := .cells #[.int .i64 a4_0, .int .i64 a4_1, .int .i64 a4_2] 24 (0, 0)) (by (with_reducible repeat (first | refine blk_drewN ?_ _ | refine blk_drew ?_ | refine blk_alloc ?_ _)); refine blk_far ?_ NB124_141.out _; (with_reducible repeat (first | refine blk_drewN ?_ _ | refine blk_drew ?_ | refine blk_alloc ?_ _)); refine blk_far ?_ NB124_141.out _; (with_reducible repeat (first | refine blk_drewN ?_ _ | refine blk_drew ?_ | refine blk_alloc ?_ _)); refine blk_far ?_ NB124_141.out _; (with_reducible repeat (first | refine blk_drewN ?_ _ | refine blk_drew ?_ | refine blk_alloc ?_ _)); exact BK124.out)) : gb124 ≠ gb142)); have n9_ := Aside0.mk ((by rw [hg]; exact Nat.ne_of_gt (blk_lt (g := gb124) (o := .cells #[.int .i64 a4_0, .int .i64 a4_1, .int .i64 a4_2] 24 (0, 0)) (by (with_reducible repeat (first | refine blk_drewN ?_ _ | refine blk_drew ?_ | refine blk_alloc ?_ _)); refine blk_far ?_ NB124_141.out _; (with_reducible repeat (first | refine blk_drewN ?_ _ | refine blk_drew ?_ | refine blk_alloc ?_ _)); refine blk_far ?_ NB124_141.out _; (with_reducible repeat (first | refine blk_drewN ?_ _ | refine blk_drew ?_ | refine blk_alloc ?_ _)); refine blk_far ?_ NB124_141.out _; (with_reducible repeat (first | refine blk_drewN ?_ _ | refine blk_drew ?_ | refine blk_alloc ?_ _)); exact BK124.out)) : gb142 ≠ gb124)); have n10_ := Aside0.mk ((by rw [hg]; exact Nat.ne_of_lt (blk_lt (g := gb129) (o := .cells #[.int .i64 t125, .int .i64 t126, .int .i64 t127] 24 (0, 0)) (by (with_reducible repeat (first | refine blk_drewN ?_ _ | refine blk_drew ?_ | refine blk_alloc ?_ _)); refine blk_far ?_ NB129_141.out _; (with_reducible repeat (first | refine blk_drewN ?_ _ | refine blk_drew ?_ | refine blk_alloc ?_ _)); refine blk_far ?_ NB129_141.out _; (with_reducible repeat (first | refine blk_drewN ?_ _ | refine blk_drew ?_ | refine blk_alloc ?_ _)); refine blk_far ?_ NB129_141.out _; (with_reducible repeat (first | refine blk_drewN ?_ _ | refine blk_drew ?_ | refine blk_alloc ?_ _)); exact BK129.out)) : gb129 ≠ gb142)); have n11_ := Aside0.mk ((by rw [hg]; exact Nat.ne_of_gt (blk_lt (g := gb129) (o := .cells #[.int .i64 t125, .int .i64 t126, .int .i64 t127] 24 (0, 0)) (by (with_reducible repeat (first | refine blk_drewN ?_ _ | refine blk_drew ?_ | refine blk_alloc ?_ _)); refine blk_far ?_ NB129_141.out _; (with_reducible repeat (first | refine blk_drewN ?_ _ | refine blk_drew ?_ | refine blk_alloc ?_ _)); refine blk_far ?_ NB129_141.out _; (with_reducible repeat (first | refine blk_drewN ?_ _ | refine blk_drew ?_ | refine blk_alloc ?_ _)); refine blk_far ?_ NB129_141.out _; (with_reducible repeat (first | refine blk_drewN ?_ _ | refine blk_drew ?_ | refine blk_alloc ?_ _)); exact BK129.out)) : gb142 ≠ gb129)); have n12_ := Aside0.mk ((by rw [hg]; exact Nat.ne_of_lt (blk_lt (g := gb134) (o := .cells #[.int .i64 t130, .int .i64 t131, .int .i64 t132] 24 (0, 0)) (by (with_reducible repeat (first | refine blk_drewN ?_ _ | refine blk_drew ?_ | refine blk_alloc ?_ _)); refine blk_far ?_ NB134_141.out _; (with_reducible repeat (first | refine blk_drewN ?_ _ | refine blk_drew ?_ | refine blk_alloc ?_ _)); refine blk_far ?_ NB134_141.out _; (with_reducible repeat (first | refine blk_drewN ?_ _ | refine blk_drew ?_ | refine blk_alloc ?_ _)); refine blk_far ?_ NB134_141.out _; (with_reducible repeat (first | refine blk_drewN ?_ _ | refine blk_drew ?_ | refine blk_alloc ?_ _)); exact BK134.out)) : gb134 ≠ gb142)); have n13_ := Aside0.mk ((by rw [hg]; exact Nat.ne_of_gt (blk_lt (g := gb134) (o := .cells #[.int .i64 t130, .int .i64 t131, .int .i64 t132] 24 (0, 0)) (by (with_reducible repeat (first | refine blk_drewN ?_ _ | refine blk_drew ?_ | refine blk_alloc ?_ _)); refine blk_far ?_ NB134_141.out _; (with_reducible repeat (first | refine blk_drewN ?_ _ | refine blk_drew ?_ | refine blk_alloc ?_ _)); refine blk_far ?_ NB134_141.out _; (with_reducible repeat (first | refine blk_drewN ?_ _ | refine blk_drew ?_ | refine blk_alloc ?_ _)); refine blk_far ?_ NB134_141.out _; (with_reducible repeat (first | refine blk_drewN ?_ _ | refine blk_drew ?_ | refine blk_alloc ?_ _)); exact BK134.out)) : gb142 ≠ gb134)); have n14_ := Aside0.mk ((by rw [hg]; exact Nat.ne_of_lt (blk_lt (g := gb141) (o := .cells #[.int .i64 t137, .int .i64 t138, .int .i64 t139] 24 (0, 0)) (by (with_reducible repeat (first | refine blk_drewN ?_ _ | refine blk_drew ?_ | refine blk_alloc ?_ _)); refine blk_put (cs := #[.int .i64 t137, .int .i64 t138, .int .i64 0]) ?_ 2 _ rfl; (with_reducible repeat (first | refine blk_drewN ?_ _ | refine blk_drew ?_ | refine blk_alloc ?_ _)); refine blk_put (cs := #[.int .i64 t137, .int .i64 0, .int .i64 0]) ?_ 1 _ rfl; (with_reducible repeat (first | refine blk_drewN ?_ _ | refine blk_drew ?_ | refine blk_alloc ?_ _)); refine blk_put (cs := #[.int .i64 0, .int .i64 0, .int .i64 0]) ?_ 0 _ rfl; (with_reducible repeat (first | refine blk_drewN ?_ _ | refine blk_drew ?_ | refine blk_alloc ?_ _)); exact BK141.out)) : gb141 ≠ gb142)); have n15_ := Aside0.mk ((by rw [hg]; exact Nat.ne_of_gt (blk_lt (g := gb141) (o := .cells #[.int .i64 t137, .int .i64 t138, .int .i64 t139] 24 (0, 0)) (by (with_reducible repeat (first | refine blk_drewN ?_ _ | refine blk_drew ?_ | refine blk_alloc ?_ _)); refine blk_put (cs := #[.int .i64 t137, .int .i64 t138, .int .i64 0]) ?_ 2 _ rfl; (with_reducible repeat (first | refine blk_drewN ?_ _ | refine blk_drew ?_ | refine blk_alloc ?_ _)); refine blk_put (cs := #[.int .i64 t137, .int .i64 0, .int .i64 0]) ?_ 1 _ rfl; (with_reducible repeat (first | refine blk_drewN ?_ _ | refine blk_drew ?_ | refine blk_alloc ?_ _)); refine blk_put (cs := #[.int .i64 0, .int .i64 0, .int .i64 0]) ?_ 0 _ rfl; (with_reducible repeat (first | refine blk_drewN ?_ _ | refine blk_drew ?_ | refine blk_alloc ?_ _)); exact BK141.out)) : gb142 ≠ gb141)); clear BK124; clear BK129; clear BK134; clear BK141; clear HB; have BK124 := n0_; have BK129 := n1_; have BK134 := n2_; have BK141 := n3_; have HB := n4_; have BK142 := n5_; have GW142 := n6_; have GE142 := n7_; have NB124_142 := n8_; have NB142_124 := n9_; have NB129_142 := n10_; have NB142_129 := n11_; have NB134_142 := n12_; have NB142_134 := n13_; have NB141_142 := n14_; have NB142_141 := n15_; clear n0_ n1_ n2_ n3_ n4_ n5_ n6_ n7_ n8_ n9_ n10_ n11_ n12_ n13_ n14_ n15_; clear hb hbox hg; have hnb30 := NB142_124.out; have hnc30 := NB124_142.out; have hnb31 := NB142_129.out; have hnc31 := NB129_142.out; have hnb32 := NB142_134.out; have hnc32 := NB134_142.out; have hnb33 := NB142_141.out; have hnc33 := NB141_142.out; have hcz34_0 : w29.cell? ⟨gb142, 0, none⟩ = some (.int .i64 0) := (blk_cell BK142.out 0).trans rfl; have hcz34_1 : w29.cell? ⟨gb142, 1, none⟩ = some (.int .i64 0) := (blk_cell BK142.out 1).trans rfl; have hcz34_2 : w29.cell? ⟨gb142, 2, none⟩ = some (.int .i64 0) := (blk_cell BK142.out 2).trans rfl; have hfz34_0 := blk_frozen BK142.out 0; have hfz34_1 := blk_frozen BK142.out 1; have hfz34_2 := blk_frozen BK142.out 2))
  (try simp only [Act.put, List.setIfInBounds_toArray, List.set_cons_zero, List.set_cons_succ])
  go_cut [20] (fun v20 wc => ∃ (kq : Nat) (x20_9 : Bool), v20 = .bool x20_9 ∧ Aside0 (boscagelaw11_WordHandles.j0 kq a0 a1 t128 t133 t135 t136 t140 x20_9 a4_0 a4_1 a4_2 t125 t126 t127 t130 t131 t132 t137 t138 t139 0 0 0 = some r) ∧ Aside0 (kq ≤ k) ∧ Aside0 (wc.heap[gb124]? = some (.cells #[.int .i64 a4_0, .int .i64 a4_1, .int .i64 a4_2] 24 (0, 0))) ∧ Aside0 (wc.heap[gb129]? = some (.cells #[.int .i64 t125, .int .i64 t126, .int .i64 t127] 24 (0, 0))) ∧ Aside0 (wc.heap[gb134]? = some (.cells #[.int .i64 t130, .int .i64 t131, .int .i64 t132] 24 (0, 0))) ∧ Aside0 (wc.heap[gb141]? = some (.cells #[.int .i64 t137, .int .i64 t138, .int .i64 t139] 24 (0, 0))) ∧ Aside0 (wc.heap[gb142]? = some (.cells #[.int .i64 0, .int .i64 0, .int .i64 0] 24 (0, 0))) ∧ Aside0 (Below w.heap.size w wc))
  case first =>
    have H := HC10.out
    clear HC10
    replace H := Option.bind_eq_some_iff.mp H
    obtain ⟨t143, A350, H⟩ := H
    replace H : (if t143 = true then (if a1 ≥ 0 then (boscagelaw11_WordHandles.j0 k a0 a1 t128 t133 t135 t136 t140 (decide (a1 < a0)) a4_0 a4_1 a4_2 t125 t126 t127 t130 t131 t132 t137 t138 t139 0 0 0) else (boscagelaw11_WordHandles.j0 k a0 a1 t128 t133 t135 t136 t140 false a4_0 a4_1 a4_2 t125 t126 t127 t130 t131 t132 t137 t138 t139 0 0 0)) else (boscagelaw11_WordHandles.j0 k a0 a1 t128 t133 t135 t136 t140 false a4_0 a4_1 a4_2 t125 t126 t127 t130 t131 t132 t137 t138 t139 0 0 0)) = some r := H
    have A35 := Aside0.mk A350
    clear A350
    by_cases c36 : t143 = true
    · subst c36
      have H1 : (if a1 ≥ 0 then (boscagelaw11_WordHandles.j0 k a0 a1 t128 t133 t135 t136 t140 (decide (a1 < a0)) a4_0 a4_1 a4_2 t125 t126 t127 t130 t131 t132 t137 t138 t139 0 0 0) else (boscagelaw11_WordHandles.j0 k a0 a1 t128 t133 t135 t136 t140 false a4_0 a4_1 a4_2 t125 t126 t127 t130 t131 t132 t137 t138 t139 0 0 0)) = some r := by rw [if_pos rfl] at H; exact H
      clear H
      have H := H1
      clear H1
      by_cases c37 : a1 ≥ 0
      · rw [if_pos c37] at H
        have c37b0 : decide (0 ≤ a1) = true := decide_eq_true c37
        clear c37
        (first | rw [c37b0] | (simp only [i64_w, i32_w]; rw [c37b0]) | skip)
        have H' := Aside0.mk H
        clear H
        go_wp2_with (first | ((with_reducible refine gate_callee (f := 15) rfl ?_); refine goesL_ (some 50) rfl rfl Try.func15 (by kernel_rfl) rfl #[.int .i64 a0] rfl (by (try simp only [List.map_toArray, List.map_cons, List.map_nil]); first | done | rfl | (simp only [List.length_drop, List.length_take]; rfl)) ?_; (with_reducible refine (boscageref11_Many.calls a0 true _ A35.out).mono ?_); rintro e w' ⟨rfl, ⟨nd, rfl⟩⟩; refine ⟨_, rfl, ?_⟩))
        go_meet
        case rel => exact ⟨_, (decide (a1 < a0)), (by first | rfl | (simp; done) | (simp [*]; done)), H', ⟨by first | omega | exact Nat.le_refl _⟩, ⟨by (with_reducible repeat (first | refine blk_drewN ?_ _ | refine blk_drew ?_ | refine blk_alloc ?_ _)); refine blk_far ?_ NB124_142.out _; (with_reducible repeat (first | refine blk_drewN ?_ _ | refine blk_drew ?_ | refine blk_alloc ?_ _)); refine blk_far ?_ NB124_142.out _; (with_reducible repeat (first | refine blk_drewN ?_ _ | refine blk_drew ?_ | refine blk_alloc ?_ _)); refine blk_far ?_ NB124_142.out _; (with_reducible repeat (first | refine blk_drewN ?_ _ | refine blk_drew ?_ | refine blk_alloc ?_ _)); exact BK124.out⟩, ⟨by (with_reducible repeat (first | refine blk_drewN ?_ _ | refine blk_drew ?_ | refine blk_alloc ?_ _)); refine blk_far ?_ NB129_142.out _; (with_reducible repeat (first | refine blk_drewN ?_ _ | refine blk_drew ?_ | refine blk_alloc ?_ _)); refine blk_far ?_ NB129_142.out _; (with_reducible repeat (first | refine blk_drewN ?_ _ | refine blk_drew ?_ | refine blk_alloc ?_ _)); refine blk_far ?_ NB129_142.out _; (with_reducible repeat (first | refine blk_drewN ?_ _ | refine blk_drew ?_ | refine blk_alloc ?_ _)); exact BK129.out⟩, ⟨by (with_reducible repeat (first | refine blk_drewN ?_ _ | refine blk_drew ?_ | refine blk_alloc ?_ _)); refine blk_far ?_ NB134_142.out _; (with_reducible repeat (first | refine blk_drewN ?_ _ | refine blk_drew ?_ | refine blk_alloc ?_ _)); refine blk_far ?_ NB134_142.out _; (with_reducible repeat (first | refine blk_drewN ?_ _ | refine blk_drew ?_ | refine blk_alloc ?_ _)); refine blk_far ?_ NB134_142.out _; (with_reducible repeat (first | refine blk_drewN ?_ _ | refine blk_drew ?_ | refine blk_alloc ?_ _)); exact BK134.out⟩, ⟨by (with_reducible repeat (first | refine blk_drewN ?_ _ | refine blk_drew ?_ | refine blk_alloc ?_ _)); refine blk_far ?_ NB141_142.out _; (with_reducible repeat (first | refine blk_drewN ?_ _ | refine blk_drew ?_ | refine blk_alloc ?_ _)); refine blk_far ?_ NB141_142.out _; (with_reducible repeat (first | refine blk_drewN ?_ _ | refine blk_drew ?_ | refine blk_alloc ?_ _)); refine blk_far ?_ NB141_142.out _; (with_reducible repeat (first | refine blk_drewN ?_ _ | refine blk_drew ?_ | refine blk_alloc ?_ _)); exact BK141.out⟩, ⟨by (with_reducible repeat (first | refine blk_drewN ?_ _ | refine blk_drew ?_ | refine blk_alloc ?_ _)); refine blk_put (cs := #[.int .i64 0, .int .i64 0, .int .i64 0]) ?_ 2 _ rfl; (with_reducible repeat (first | refine blk_drewN ?_ _ | refine blk_drew ?_ | refine blk_alloc ?_ _)); refine blk_put (cs := #[.int .i64 0, .int .i64 0, .int .i64 0]) ?_ 1 _ rfl; (with_reducible repeat (first | refine blk_drewN ?_ _ | refine blk_drew ?_ | refine blk_alloc ?_ _)); refine blk_put (cs := #[.int .i64 0, .int .i64 0, .int .i64 0]) ?_ 0 _ rfl; (with_reducible repeat (first | refine blk_drewN ?_ _ | refine blk_drew ?_ | refine blk_alloc ?_ _)); exact BK142.out⟩, ⟨by repeat (first | (with_reducible first | exact HB.out | apply below_alloc | apply pw_below_drewN | apply below_drew1 | refine below_set ?_ GE124.out | refine below_set ?_ GE129.out | refine below_set ?_ GE134.out | refine below_set ?_ GE141.out | refine below_set ?_ GE142.out) | exact HB.out)⟩⟩
      · rw [if_neg c37] at H
        have c37b0 : decide (0 ≤ a1) = false := decide_eq_false c37
        clear c37
        (first | rw [c37b0] | (simp only [i64_w, i32_w]; rw [c37b0]) | skip)
        have H' := Aside0.mk H
        clear H
        go_wp2_with (first | ((with_reducible refine gate_callee (f := 15) rfl ?_); refine goesL_ (some 50) rfl rfl Try.func15 (by kernel_rfl) rfl #[.int .i64 a0] rfl (by (try simp only [List.map_toArray, List.map_cons, List.map_nil]); first | done | rfl | (simp only [List.length_drop, List.length_take]; rfl)) ?_; (with_reducible refine (boscageref11_Many.calls a0 true _ A35.out).mono ?_); rintro e w' ⟨rfl, ⟨nd, rfl⟩⟩; refine ⟨_, rfl, ?_⟩))
        go_meet
        case rel => exact ⟨_, (false), (by first | rfl | (simp; done) | (simp [*]; done)), H', ⟨by first | omega | exact Nat.le_refl _⟩, ⟨by (with_reducible repeat (first | refine blk_drewN ?_ _ | refine blk_drew ?_ | refine blk_alloc ?_ _)); refine blk_far ?_ NB124_142.out _; (with_reducible repeat (first | refine blk_drewN ?_ _ | refine blk_drew ?_ | refine blk_alloc ?_ _)); refine blk_far ?_ NB124_142.out _; (with_reducible repeat (first | refine blk_drewN ?_ _ | refine blk_drew ?_ | refine blk_alloc ?_ _)); refine blk_far ?_ NB124_142.out _; (with_reducible repeat (first | refine blk_drewN ?_ _ | refine blk_drew ?_ | refine blk_alloc ?_ _)); exact BK124.out⟩, ⟨by (with_reducible repeat (first | refine blk_drewN ?_ _ | refine blk_drew ?_ | refine blk_alloc ?_ _)); refine blk_far ?_ NB129_142.out _; (with_reducible repeat (first | refine blk_drewN ?_ _ | refine blk_drew ?_ | refine blk_alloc ?_ _)); refine blk_far ?_ NB129_142.out _; (with_reducible repeat (first | refine blk_drewN ?_ _ | refine blk_drew ?_ | refine blk_alloc ?_ _)); refine blk_far ?_ NB129_142.out _; (with_reducible repeat (first | refine blk_drewN ?_ _ | refine blk_drew ?_ | refine blk_alloc ?_ _)); exact BK129.out⟩, ⟨by (with_reducible repeat (first | refine blk_drewN ?_ _ | refine blk_drew ?_ | refine blk_alloc ?_ _)); refine blk_far ?_ NB134_142.out _; (with_reducible repeat (first | refine blk_drewN ?_ _ | refine blk_drew ?_ | refine blk_alloc ?_ _)); refine blk_far ?_ NB134_142.out _; (with_reducible repeat (first | refine blk_drewN ?_ _ | refine blk_drew ?_ | refine blk_alloc ?_ _)); refine blk_far ?_ NB134_142.out _; (with_reducible repeat (first | refine blk_drewN ?_ _ | refine blk_drew ?_ | refine blk_alloc ?_ _)); exact BK134.out⟩, ⟨by (with_reducible repeat (first | refine blk_drewN ?_ _ | refine blk_drew ?_ | refine blk_alloc ?_ _)); refine blk_far ?_ NB141_142.out _; (with_reducible repeat (first | refine blk_drewN ?_ _ | refine blk_drew ?_ | refine blk_alloc ?_ _)); refine blk_far ?_ NB141_142.out _; (with_reducible repeat (first | refine blk_drewN ?_ _ | refine blk_drew ?_ | refine blk_alloc ?_ _)); refine blk_far ?_ NB141_142.out _; (with_reducible repeat (first | refine blk_drewN ?_ _ | refine blk_drew ?_ | refine blk_alloc ?_ _)); exact BK141.out⟩, ⟨by (with_reducible repeat (first | refine blk_drewN ?_ _ | refine blk_drew ?_ | refine blk_alloc ?_ _)); refine blk_put (cs := #[.int .i64 0, .int .i64 0, .int .i64 0]) ?_ 2 _ rfl; (with_reducible repeat (first | refine blk_drewN ?_ _ | refine blk_drew ?_ | refine blk_alloc ?_ _)); refine blk_put (cs := #[.int .i64 0, .int .i64 0, .int .i64 0]) ?_ 1 _ rfl; (with_reducible repeat (first | refine blk_drewN ?_ _ | refine blk_drew ?_ | refine blk_alloc ?_ _)); refine blk_put (cs := #[.int .i64 0, .int .i64 0, .int .i64 0]) ?_ 0 _ rfl; (with_reducible repeat (first | refine blk_drewN ?_ _ | refine blk_drew ?_ | refine blk_alloc ?_ _)); exact BK142.out⟩, ⟨by repeat (first | (with_reducible first | exact HB.out | apply below_alloc | apply pw_below_drewN | apply below_drew1 | refine below_set ?_ GE124.out | refine below_set ?_ GE129.out | refine below_set ?_ GE134.out | refine below_set ?_ GE141.out | refine below_set ?_ GE142.out) | exact HB.out)⟩⟩
    · replace c36 := Bool.eq_false_iff.mpr c36
      subst c36
      have H1 : (boscagelaw11_WordHandles.j0 k a0 a1 t128 t133 t135 t136 t140 false a4_0 a4_1 a4_2 t125 t126 t127 t130 t131 t132 t137 t138 t139 0 0 0) = some r := by rw [if_neg (show ¬ (false = true) by decide)] at H; exact H
      clear H
      have H := H1
      clear H1
      have H' := Aside0.mk H
      clear H
      go_wp2_with (first | ((with_reducible refine gate_callee (f := 15) rfl ?_); refine goesL_ (some 50) rfl rfl Try.func15 (by kernel_rfl) rfl #[.int .i64 a0] rfl (by (try simp only [List.map_toArray, List.map_cons, List.map_nil]); first | done | rfl | (simp only [List.length_drop, List.length_take]; rfl)) ?_; (with_reducible refine (boscageref11_Many.calls a0 false _ A35.out).mono ?_); rintro e w' ⟨rfl, ⟨nd, rfl⟩⟩; refine ⟨_, rfl, ?_⟩))
      go_meet
      case rel => exact ⟨_, (false), (by first | rfl | (simp; done) | (simp [*]; done)), H', ⟨by first | omega | exact Nat.le_refl _⟩, ⟨by (with_reducible repeat (first | refine blk_drewN ?_ _ | refine blk_drew ?_ | refine blk_alloc ?_ _)); refine blk_far ?_ NB124_142.out _; (with_reducible repeat (first | refine blk_drewN ?_ _ | refine blk_drew ?_ | refine blk_alloc ?_ _)); refine blk_far ?_ NB124_142.out _; (with_reducible repeat (first | refine blk_drewN ?_ _ | refine blk_drew ?_ | refine blk_alloc ?_ _)); refine blk_far ?_ NB124_142.out _; (with_reducible repeat (first | refine blk_drewN ?_ _ | refine blk_drew ?_ | refine blk_alloc ?_ _)); exact BK124.out⟩, ⟨by (with_reducible repeat (first | refine blk_drewN ?_ _ | refine blk_drew ?_ | refine blk_alloc ?_ _)); refine blk_far ?_ NB129_142.out _; (with_reducible repeat (first | refine blk_drewN ?_ _ | refine blk_drew ?_ | refine blk_alloc ?_ _)); refine blk_far ?_ NB129_142.out _; (with_reducible repeat (first | refine blk_drewN ?_ _ | refine blk_drew ?_ | refine blk_alloc ?_ _)); refine blk_far ?_ NB129_142.out _; (with_reducible repeat (first | refine blk_drewN ?_ _ | refine blk_drew ?_ | refine blk_alloc ?_ _)); exact BK129.out⟩, ⟨by (with_reducible repeat (first | refine blk_drewN ?_ _ | refine blk_drew ?_ | refine blk_alloc ?_ _)); refine blk_far ?_ NB134_142.out _; (with_reducible repeat (first | refine blk_drewN ?_ _ | refine blk_drew ?_ | refine blk_alloc ?_ _)); refine blk_far ?_ NB134_142.out _; (with_reducible repeat (first | refine blk_drewN ?_ _ | refine blk_drew ?_ | refine blk_alloc ?_ _)); refine blk_far ?_ NB134_142.out _; (with_reducible repeat (first | refine blk_drewN ?_ _ | refine blk_drew ?_ | refine blk_alloc ?_ _)); exact BK134.out⟩, ⟨by (with_reducible repeat (first | refine blk_drewN ?_ _ | refine blk_drew ?_ | refine blk_alloc ?_ _)); refine blk_far ?_ NB141_142.out _; (with_reducible repeat (first | refine blk_drewN ?_ _ | refine blk_drew ?_ | refine blk_alloc ?_ _)); refine blk_far ?_ NB141_142.out _; (with_reducible repeat (first | refine blk_drewN ?_ _ | refine blk_drew ?_ | refine blk_alloc ?_ _)); refine blk_far ?_ NB141_142.out _; (with_reducible repeat (first | refine blk_drewN ?_ _ | refine blk_drew ?_ | refine blk_alloc ?_ _)); exact BK141.out⟩, ⟨by (with_reducible repeat (first | refine blk_drewN ?_ _ | refine blk_drew ?_ | refine blk_alloc ?_ _)); refine blk_put (cs := #[.int .i64 0, .int .i64 0, .int .i64 0]) ?_ 2 _ rfl; (with_reducible repeat (first | refine blk_drewN ?_ _ | refine blk_drew ?_ | refine blk_alloc ?_ _)); refine blk_put (cs := #[.int .i64 0, .int .i64 0, .int .i64 0]) ?_ 1 _ rfl; (with_reducible repeat (first | refine blk_drewN ?_ _ | refine blk_drew ?_ | refine blk_alloc ?_ _)); refine blk_put (cs := #[.int .i64 0, .int .i64 0, .int .i64 0]) ?_ 0 _ rfl; (with_reducible repeat (first | refine blk_drewN ?_ _ | refine blk_drew ?_ | refine blk_alloc ?_ _)); exact BK142.out⟩, ⟨by repeat (first | (with_reducible first | exact HB.out | apply below_alloc | apply pw_below_drewN | apply below_drew1 | refine below_set ?_ GE124.out | refine below_set ?_ GE129.out | refine below_set ?_ GE134.out | refine below_set ?_ GE141.out | refine below_set ?_ GE142.out) | exact HB.out)⟩⟩
  case rest =>
    clear HC10
    try clear c1
    try clear c2
    try clear p2
    try clear c3
    try clear c11
    try clear c12
    try clear c13
    try clear c14
    try clear c15
    try clear c18
    try clear c19
    try clear c25
    try clear c26
    try clear c27
    try clear c30
    try clear c31
    try clear c32
    try clear c33
    try clear c36
    try clear c37
    try clear c37b0
    try clear hcz15_0
    try clear hcz15_1
    try clear hcz15_2
    try clear hcz20_0
    try clear hcz20_1
    try clear hcz20_2
    try clear hcz21_0
    try clear hcz21_1
    try clear hcz21_2
    try clear hcz28_0
    try clear hcz28_1
    try clear hcz28_2
    try clear hcz34_0
    try clear hcz34_1
    try clear hcz34_2
    try clear hfz15_0
    try clear hfz15_1
    try clear hfz15_2
    try clear hfz20_0
    try clear hfz20_1
    try clear hfz20_2
    try clear hfz21_0
    try clear hfz21_1
    try clear hfz21_2
    try clear hfz28_0
    try clear hfz28_1
    try clear hfz28_2
    try clear hfz34_0
    try clear hfz34_1
    try clear hfz34_2
    obtain ⟨kq, x20_9, rfl, HA, HJ9, BK124, BK129, BK134, BK141, BK142, HB⟩ := hcut
    cases kq with
    | zero => exact absurd HA.out (by simp [boscagelaw11_WordHandles.j0])
    | succ kj9 =>
      have H := HA.out
      clear HA
      simp only [boscagelaw11_WordHandles.j0] at H
      have HC38 := Aside0.mk H
      clear H
      go_upto_if 60 with (fail)
      go_cut [] (fun wc => ∃ (kq : Nat) (x143000_37 : Int) (x143001_37 : Int) (x143002_37 : Int), Aside0 (boscagelaw11_WordHandles.j1 kq t128 t133 t135 t136 t140 x20_9 a4_0 a4_1 a4_2 t125 t126 t127 t130 t131 t132 t137 t138 t139 x143000_37 x143001_37 x143002_37 = some r) ∧ Aside0 (kq ≤ kj9) ∧ Aside0 (wc.heap[gb124]? = some (.cells #[.int .i64 a4_0, .int .i64 a4_1, .int .i64 a4_2] 24 (0, 0))) ∧ Aside0 (wc.heap[gb129]? = some (.cells #[.int .i64 t125, .int .i64 t126, .int .i64 t127] 24 (0, 0))) ∧ Aside0 (wc.heap[gb134]? = some (.cells #[.int .i64 t130, .int .i64 t131, .int .i64 t132] 24 (0, 0))) ∧ Aside0 (wc.heap[gb141]? = some (.cells #[.int .i64 t137, .int .i64 t138, .int .i64 t139] 24 (0, 0))) ∧ Aside0 (wc.heap[gb142]? = some (.cells #[.int .i64 x143000_37, .int .i64 x143001_37, .int .i64 x143002_37] 24 (0, 0))) ∧ Aside0 (Below w.heap.size w wc))
      case first =>
        have H := HC38.out
        clear HC38
        by_cases c39 : x20_9 = true
        · subst c39
          have H1 : ((boscageref11_Handle.f kj9 1 (wrap64 (a1 - a0)) 0 0).bind fun bt144 => (boscagelaw11_WordHandles.j1 kj9 t128 t133 t135 t136 t140 true a4_0 a4_1 a4_2 t125 t126 t127 t130 t131 t132 t137 t138 t139 bt144.1 bt144.2.1 bt144.2.2.1)) = some r := by rw [if_pos rfl] at H; exact H
          clear H
          have H := H1
          clear H1
          replace H := Option.bind_eq_some_iff.mp H
          obtain ⟨⟨t144, t145, t146, t147⟩, A400, H⟩ := H
          replace H : (boscagelaw11_WordHandles.j1 kj9 t128 t133 t135 t136 t140 true a4_0 a4_1 a4_2 t125 t126 t127 t130 t131 t132 t137 t138 t139 t144 t145 t146) = some r := H
          have A40 := Aside0.mk A400
          clear A400
          have H' := Aside0.mk H
          clear H
          go_wp2_with (first | ((with_reducible refine gate_callee (f := 12) rfl ?_); refine goesL_ (some 65) rfl rfl Try.func12 (by kernel_rfl) rfl #[.int .i64 1, .int .i64 (wrap64 (a1 - a0)), .int .i64 0, .int .i64 0] rfl (by (try simp only [List.map_toArray, List.map_cons, List.map_nil]); first | done | rfl | (simp only [List.length_drop, List.length_take]; rfl)) ?_; (with_reducible refine (boscageref11_Handle.calls kj9 1 (wrap64 (a1 - a0)) 0 0 t144 t145 t146 t147 _ A40.out).mono ?_); rintro e w41 ⟨rfl, hb⟩; refine ⟨_, rfl, ?_⟩; have n0_ := Aside0.mk (blk_below (g := gb124) (o := .cells #[.int .i64 a4_0, .int .i64 a4_1, .int .i64 a4_2] 24 (0, 0)) (by (with_reducible repeat (first | refine blk_drewN ?_ _ | refine blk_drew ?_ | refine blk_alloc ?_ _)); exact BK124.out) hb); have n1_ := Aside0.mk (blk_below (g := gb129) (o := .cells #[.int .i64 t125, .int .i64 t126, .int .i64 t127] 24 (0, 0)) (by (with_reducible repeat (first | refine blk_drewN ?_ _ | refine blk_drew ?_ | refine blk_alloc ?_ _)); exact BK129.out) hb); have n2_ := Aside0.mk (blk_below (g := gb134) (o := .cells #[.int .i64 t130, .int .i64 t131, .int .i64 t132] 24 (0, 0)) (by (with_reducible repeat (first | refine blk_drewN ?_ _ | refine blk_drew ?_ | refine blk_alloc ?_ _)); exact BK134.out) hb); have n3_ := Aside0.mk (blk_below (g := gb141) (o := .cells #[.int .i64 t137, .int .i64 t138, .int .i64 t139] 24 (0, 0)) (by (with_reducible repeat (first | refine blk_drewN ?_ _ | refine blk_drew ?_ | refine blk_alloc ?_ _)); exact BK141.out) hb); have n4_ := Aside0.mk (blk_below (g := gb142) (o := .cells #[.int .i64 0, .int .i64 0, .int .i64 0] 24 (0, 0)) (by (with_reducible repeat (first | refine blk_drewN ?_ _ | refine blk_drew ?_ | refine blk_alloc ?_ _)); exact BK142.out) hb); have n5_ := Aside0.mk (below_step (by repeat (first | (with_reducible first | exact HB.out | apply below_alloc | apply pw_below_drewN | apply below_drew1 | refine below_set ?_ GE124.out | refine below_set ?_ GE129.out | refine below_set ?_ GE134.out | refine below_set ?_ GE141.out | refine below_set ?_ GE142.out) | exact HB.out)) hb); clear BK124; clear BK129; clear BK134; clear BK141; clear BK142; clear HB; have BK124 := n0_; have BK129 := n1_; have BK134 := n2_; have BK141 := n3_; have BK142 := n4_; have HB := n5_; clear n0_ n1_ n2_ n3_ n4_ n5_; (try clear hb); (try clear hb2); (try clear hk); (try clear hi); have hnb42 := NB142_124.out; have hnc42 := NB124_142.out; have hnb43 := NB142_129.out; have hnc43 := NB129_142.out; have hnb44 := NB142_134.out; have hnc44 := NB134_142.out; have hnb45 := NB142_141.out; have hnc45 := NB141_142.out; have hcz46_0 : w41.cell? ⟨gb142, 0, none⟩ = some (.int .i64 0) := (blk_cell BK142.out 0).trans rfl; have hcz46_1 : w41.cell? ⟨gb142, 1, none⟩ = some (.int .i64 0) := (blk_cell BK142.out 1).trans rfl; have hcz46_2 : w41.cell? ⟨gb142, 2, none⟩ = some (.int .i64 0) := (blk_cell BK142.out 2).trans rfl; have hfz46_0 := blk_frozen BK142.out 0; have hfz46_1 := blk_frozen BK142.out 1; have hfz46_2 := blk_frozen BK142.out 2))
          go_meet
          case rel => exact ⟨_, (t144), (t145), (t146), H', ⟨by have := HJ9.out; first | omega | exact Nat.le_refl _⟩, ⟨by (with_reducible repeat (first | refine blk_drewN ?_ _ | refine blk_drew ?_ | refine blk_alloc ?_ _)); refine blk_far ?_ NB124_142.out _; (with_reducible repeat (first | refine blk_drewN ?_ _ | refine blk_drew ?_ | refine blk_alloc ?_ _)); refine blk_far ?_ NB124_142.out _; (with_reducible repeat (first | refine blk_drewN ?_ _ | refine blk_drew ?_ | refine blk_alloc ?_ _)); refine blk_far ?_ NB124_142.out _; (with_reducible repeat (first | refine blk_drewN ?_ _ | refine blk_drew ?_ | refine blk_alloc ?_ _)); exact BK124.out⟩, ⟨by (with_reducible repeat (first | refine blk_drewN ?_ _ | refine blk_drew ?_ | refine blk_alloc ?_ _)); refine blk_far ?_ NB129_142.out _; (with_reducible repeat (first | refine blk_drewN ?_ _ | refine blk_drew ?_ | refine blk_alloc ?_ _)); refine blk_far ?_ NB129_142.out _; (with_reducible repeat (first | refine blk_drewN ?_ _ | refine blk_drew ?_ | refine blk_alloc ?_ _)); refine blk_far ?_ NB129_142.out _; (with_reducible repeat (first | refine blk_drewN ?_ _ | refine blk_drew ?_ | refine blk_alloc ?_ _)); exact BK129.out⟩, ⟨by (with_reducible repeat (first | refine blk_drewN ?_ _ | refine blk_drew ?_ | refine blk_alloc ?_ _)); refine blk_far ?_ NB134_142.out _; (with_reducible repeat (first | refine blk_drewN ?_ _ | refine blk_drew ?_ | refine blk_alloc ?_ _)); refine blk_far ?_ NB134_142.out _; (with_reducible repeat (first | refine blk_drewN ?_ _ | refine blk_drew ?_ | refine blk_alloc ?_ _)); refine blk_far ?_ NB134_142.out _; (with_reducible repeat (first | refine blk_drewN ?_ _ | refine blk_drew ?_ | refine blk_alloc ?_ _)); exact BK134.out⟩, ⟨by (with_reducible repeat (first | refine blk_drewN ?_ _ | refine blk_drew ?_ | refine blk_alloc ?_ _)); refine blk_far ?_ NB141_142.out _; (with_reducible repeat (first | refine blk_drewN ?_ _ | refine blk_drew ?_ | refine blk_alloc ?_ _)); refine blk_far ?_ NB141_142.out _; (with_reducible repeat (first | refine blk_drewN ?_ _ | refine blk_drew ?_ | refine blk_alloc ?_ _)); refine blk_far ?_ NB141_142.out _; (with_reducible repeat (first | refine blk_drewN ?_ _ | refine blk_drew ?_ | refine blk_alloc ?_ _)); exact BK141.out⟩, ⟨by (with_reducible repeat (first | refine blk_drewN ?_ _ | refine blk_drew ?_ | refine blk_alloc ?_ _)); refine blk_put (cs := #[.int .i64 t144, .int .i64 t145, .int .i64 0]) ?_ 2 _ rfl; (with_reducible repeat (first | refine blk_drewN ?_ _ | refine blk_drew ?_ | refine blk_alloc ?_ _)); refine blk_put (cs := #[.int .i64 t144, .int .i64 0, .int .i64 0]) ?_ 1 _ rfl; (with_reducible repeat (first | refine blk_drewN ?_ _ | refine blk_drew ?_ | refine blk_alloc ?_ _)); refine blk_put (cs := #[.int .i64 0, .int .i64 0, .int .i64 0]) ?_ 0 _ rfl; (with_reducible repeat (first | refine blk_drewN ?_ _ | refine blk_drew ?_ | refine blk_alloc ?_ _)); exact BK142.out⟩, ⟨by repeat (first | (with_reducible first | exact HB.out | apply below_alloc | apply pw_below_drewN | apply below_drew1 | refine below_set ?_ GE124.out | refine below_set ?_ GE129.out | refine below_set ?_ GE134.out | refine below_set ?_ GE141.out | refine below_set ?_ GE142.out) | exact HB.out)⟩⟩
        · replace c39 := Bool.eq_false_iff.mpr c39
          subst c39
          have H1 : (boscagelaw11_WordHandles.j1 kj9 t128 t133 t135 t136 t140 false a4_0 a4_1 a4_2 t125 t126 t127 t130 t131 t132 t137 t138 t139 0 0 0) = some r := by rw [if_neg (show ¬ (false = true) by decide)] at H; exact H
          clear H
          have H := H1
          clear H1
          have H' := Aside0.mk H
          clear H
          go_wp2
          go_meet
          case rel => exact ⟨_, (0), (0), (0), H', ⟨by have := HJ9.out; first | omega | exact Nat.le_refl _⟩, ⟨by (with_reducible repeat (first | refine blk_drewN ?_ _ | refine blk_drew ?_ | refine blk_alloc ?_ _)); exact BK124.out⟩, ⟨by (with_reducible repeat (first | refine blk_drewN ?_ _ | refine blk_drew ?_ | refine blk_alloc ?_ _)); exact BK129.out⟩, ⟨by (with_reducible repeat (first | refine blk_drewN ?_ _ | refine blk_drew ?_ | refine blk_alloc ?_ _)); exact BK134.out⟩, ⟨by (with_reducible repeat (first | refine blk_drewN ?_ _ | refine blk_drew ?_ | refine blk_alloc ?_ _)); exact BK141.out⟩, ⟨by (with_reducible repeat (first | refine blk_drewN ?_ _ | refine blk_drew ?_ | refine blk_alloc ?_ _)); exact BK142.out⟩, ⟨by repeat (first | (with_reducible first | exact HB.out | apply below_alloc | apply pw_below_drewN | apply below_drew1 | refine below_set ?_ GE124.out | refine below_set ?_ GE129.out | refine below_set ?_ GE134.out | refine below_set ?_ GE141.out | refine below_set ?_ GE142.out) | exact HB.out)⟩⟩
      case rest =>
        clear HC38
        try clear c1
        try clear c2
        try clear p2
        try clear c3
        try clear c4
        try clear p6
        try clear c11
        try clear c12
        try clear c13
        try clear c14
        try clear c15
        try clear c18
        try clear c19
        try clear c25
        try clear c26
        try clear c27
        try clear c30
        try clear c31
        try clear c32
        try clear c33
        try clear c36
        try clear c37
        try clear c37b0
        try clear c39
        try clear c42
        try clear c43
        try clear c44
        try clear c45
        try clear hcz15_0
        try clear hcz15_1
        try clear hcz15_2
        try clear hcz20_0
        try clear hcz20_1
        try clear hcz20_2
        try clear hcz21_0
        try clear hcz21_1
        try clear hcz21_2
        try clear hcz28_0
        try clear hcz28_1
        try clear hcz28_2
        try clear hcz34_0
        try clear hcz34_1
        try clear hcz34_2
        try clear hcz46_0
        try clear hcz46_1
        try clear hcz46_2
        try clear hfz15_0
        try clear hfz15_1
        try clear hfz15_2
        try clear hfz20_0
        try clear hfz20_1
        try clear hfz20_2
        try clear hfz21_0
        try clear hfz21_1
        try clear hfz21_2
        try clear hfz28_0
        try clear hfz28_1
        try clear hfz28_2
        try clear hfz34_0
        try clear hfz34_1
        try clear hfz34_2
        try clear hfz46_0
        try clear hfz46_1
        try clear hfz46_2
        try clear p2
        obtain ⟨kq, x143000_37, x143001_37, x143002_37, HA, HJ37, BK124, BK129, BK134, BK141, BK142, HB⟩ := hcut
        cases kq with
        | zero => exact absurd HA.out (by simp [boscagelaw11_WordHandles.j1])
        | succ kj37 =>
          have H := HA.out
          clear HA
          simp only [boscagelaw11_WordHandles.j1] at H
          by_cases c47 : (t125 == t130 && (t126 == t131 && (t127 == t132))) = true
          · rw [if_pos c47] at H
            have c47b0 : (t125 == t130 && (t126 == t131 && (t127 == t132))) = true := c47
            (try (have c47b1 : decide (t125 = t130 && (t126 == t131 && (t127 == t132))) = true := by simpa using c47))
            (try (have c47b2 : (t125 == t130 && (t126 == t131 && (t127 == t132))) = true := by simpa using c47))
            clear c47
            replace H := Option.bind_eq_some_iff.mp H
            obtain ⟨t148, A480, H⟩ := H
            replace H : (if t128 = t148 then ((boscageref11_Kind.f kj37 a4_0 a4_1 a4_2).bind fun t149 => (if t135 = t149 then ((boscagelaw11_err.f (decide (t135 > 0)) 4).bind fun t150 => (if t136 = t150 then (if (t137 == x143000_37 && (t138 == x143001_37 && (t139 == x143002_37))) = true then ((boscagelaw11_err.f x20_9 2).bind fun t151 => (if t140 = t151 then ((boscagelaw11_works.f kj37).bind fun t152 => (some t152)) else (some false))) else (some false)) else (some false))) else (some false))) else (some false)) = some r := H
            have A48 := Aside0.mk A480
            clear A480
            by_cases c49 : t128 = t148
            · rw [if_pos c49] at H
              have c49b0 : (t128 == t148) = true := beq_iff_eq.mpr c49
              have c49b1 : (t128 != t148) = false := bne_eq_false_iff_eq.mpr c49
              clear c49
              replace H := Option.bind_eq_some_iff.mp H
              obtain ⟨t149, A500, H⟩ := H
              replace H : (if t135 = t149 then ((boscagelaw11_err.f (decide (t135 > 0)) 4).bind fun t150 => (if t136 = t150 then (if (t137 == x143000_37 && (t138 == x143001_37 && (t139 == x143002_37))) = true then ((boscagelaw11_err.f x20_9 2).bind fun t151 => (if t140 = t151 then ((boscagelaw11_works.f kj37).bind fun t152 => (some t152)) else (some false))) else (some false)) else (some false))) else (some false)) = some r := H
              have A50 := Aside0.mk A500
              clear A500
              by_cases c51 : t135 = t149
              · rw [if_pos c51] at H
                have c51b0 : (t135 == t149) = true := beq_iff_eq.mpr c51
                have c51b1 : (t135 != t149) = false := bne_eq_false_iff_eq.mpr c51
                clear c51
                replace H := Option.bind_eq_some_iff.mp H
                obtain ⟨t150, A520, H⟩ := H
                replace H : (if t136 = t150 then (if (t137 == x143000_37 && (t138 == x143001_37 && (t139 == x143002_37))) = true then ((boscagelaw11_err.f x20_9 2).bind fun t151 => (if t140 = t151 then ((boscagelaw11_works.f kj37).bind fun t152 => (some t152)) else (some false))) else (some false)) else (some false)) = some r := H
                have A52 := Aside0.mk A520
                clear A520
                by_cases c53 : t136 = t150
                · rw [if_pos c53] at H
                  have c53b0 : (t136 == t150) = true := beq_iff_eq.mpr c53
                  have c53b1 : (t136 != t150) = false := bne_eq_false_iff_eq.mpr c53
                  clear c53
                  by_cases c54 : (t137 == x143000_37 && (t138 == x143001_37 && (t139 == x143002_37))) = true
                  · rw [if_pos c54] at H
                    have c54b0 : (t137 == x143000_37 && (t138 == x143001_37 && (t139 == x143002_37))) = true := c54
                    (try (have c54b1 : decide (t137 = x143000_37 && (t138 == x143001_37 && (t139 == x143002_37))) = true := by simpa using c54))
                    (try (have c54b2 : (t137 == x143000_37 && (t138 == x143001_37 && (t139 == x143002_37))) = true := by simpa using c54))
                    clear c54
                    replace H := Option.bind_eq_some_iff.mp H
                    obtain ⟨t151, A550, H⟩ := H
                    replace H : (if t140 = t151 then ((boscagelaw11_works.f kj37).bind fun t152 => (some t152)) else (some false)) = some r := H
                    have A55 := Aside0.mk A550
                    clear A550
                    by_cases c56 : t140 = t151
                    · rw [if_pos c56] at H
                      have c56b0 : (t140 == t151) = true := beq_iff_eq.mpr c56
                      have c56b1 : (t140 != t151) = false := bne_eq_false_iff_eq.mpr c56
                      clear c56
                      replace H := Option.bind_eq_some_iff.mp H
                      obtain ⟨t152, A570, H⟩ := H
                      replace H : (some t152) = some r := H
                      have A57 := Aside0.mk A570
                      clear A570
                      obtain rfl := Option.some.inj H
                      have hnb58 := NB129_124.out
                      have hnc58 := NB124_129.out
                      have hnb59 := NB129_134.out
                      have hnc59 := NB134_129.out
                      have hnb60 := NB129_141.out
                      have hnc60 := NB141_129.out
                      have hnb61 := NB129_142.out
                      have hnc61 := NB142_129.out
                      have hcz62_0 : wc.cell? ⟨gb129, 0, none⟩ = some (.int .i64 t125) := (blk_cell BK129.out 0).trans rfl
                      have hcz62_1 : wc.cell? ⟨gb129, 1, none⟩ = some (.int .i64 t126) := (blk_cell BK129.out 1).trans rfl
                      have hcz62_2 : wc.cell? ⟨gb129, 2, none⟩ = some (.int .i64 t127) := (blk_cell BK129.out 2).trans rfl
                      have hfz62_0 := blk_frozen BK129.out 0
                      have hfz62_1 := blk_frozen BK129.out 1
                      have hfz62_2 := blk_frozen BK129.out 2
                      have hnb63 := NB134_124.out
                      have hnc63 := NB124_134.out
                      have hnb64 := NB134_141.out
                      have hnc64 := NB141_134.out
                      have hnb65 := NB134_142.out
                      have hnc65 := NB142_134.out
                      have hcz66_0 : wc.cell? ⟨gb134, 0, none⟩ = some (.int .i64 t130) := (blk_cell BK134.out 0).trans rfl
                      have hcz66_1 : wc.cell? ⟨gb134, 1, none⟩ = some (.int .i64 t131) := (blk_cell BK134.out 1).trans rfl
                      have hcz66_2 : wc.cell? ⟨gb134, 2, none⟩ = some (.int .i64 t132) := (blk_cell BK134.out 2).trans rfl
                      have hfz66_0 := blk_frozen BK134.out 0
                      have hfz66_1 := blk_frozen BK134.out 1
                      have hfz66_2 := blk_frozen BK134.out 2
                      go_wp2_with (first | (go_at_call 16; (with_reducible refine (boscagelaw11_err.calls t133 2 t148 _ A48.out).mono ?_); rintro e w' ⟨rfl, ⟨nd, rfl⟩⟩; have hnb67 := NB124_141.out; have hnc67 := NB141_124.out; have hnb68 := NB124_142.out; have hnc68 := NB142_124.out; have hcz69_0 : wc.cell? ⟨gb124, 0, none⟩ = some (.int .i64 a4_0) := (blk_cell BK124.out 0).trans rfl; have hcz69_1 : wc.cell? ⟨gb124, 1, none⟩ = some (.int .i64 a4_1) := (blk_cell BK124.out 1).trans rfl; have hcz69_2 : wc.cell? ⟨gb124, 2, none⟩ = some (.int .i64 a4_2) := (blk_cell BK124.out 2).trans rfl; have hfz69_0 := blk_frozen BK124.out 0; have hfz69_1 := blk_frozen BK124.out 1; have hfz69_2 := blk_frozen BK124.out 2) | (go_at_call 17; (with_reducible refine (boscageref11_Kind.calls kj37 a4_0 a4_1 a4_2 t149 _ A50.out).mono ?_); rintro e w70 ⟨rfl, hb⟩; have n0_ := Aside0.mk (blk_below (g := gb124) (o := .cells #[.int .i64 a4_0, .int .i64 a4_1, .int .i64 a4_2] 24 (0, 0)) (by (with_reducible repeat (first | refine blk_drewN ?_ _ | refine blk_drew ?_ | refine blk_alloc ?_ _)); exact BK124.out) hb); have n1_ := Aside0.mk (blk_below (g := gb129) (o := .cells #[.int .i64 t125, .int .i64 t126, .int .i64 t127] 24 (0, 0)) (by (with_reducible repeat (first | refine blk_drewN ?_ _ | refine blk_drew ?_ | refine blk_alloc ?_ _)); exact BK129.out) hb); have n2_ := Aside0.mk (blk_below (g := gb134) (o := .cells #[.int .i64 t130, .int .i64 t131, .int .i64 t132] 24 (0, 0)) (by (with_reducible repeat (first | refine blk_drewN ?_ _ | refine blk_drew ?_ | refine blk_alloc ?_ _)); exact BK134.out) hb); have n3_ := Aside0.mk (blk_below (g := gb141) (o := .cells #[.int .i64 t137, .int .i64 t138, .int .i64 t139] 24 (0, 0)) (by (with_reducible repeat (first | refine blk_drewN ?_ _ | refine blk_drew ?_ | refine blk_alloc ?_ _)); exact BK141.out) hb); have n4_ := Aside0.mk (blk_below (g := gb142) (o := .cells #[.int .i64 x143000_37, .int .i64 x143001_37, .int .i64 x143002_37] 24 (0, 0)) (by (with_reducible repeat (first | refine blk_drewN ?_ _ | refine blk_drew ?_ | refine blk_alloc ?_ _)); exact BK142.out) hb); have n5_ := Aside0.mk (below_step (by repeat (first | (with_reducible first | exact HB.out | apply below_alloc | apply pw_below_drewN | apply below_drew1 | refine below_set ?_ GE124.out | refine below_set ?_ GE129.out | refine below_set ?_ GE134.out | refine below_set ?_ GE141.out | refine below_set ?_ GE142.out) | exact HB.out)) hb); clear BK124; clear BK129; clear BK134; clear BK141; clear BK142; clear HB; have BK124 := n0_; have BK129 := n1_; have BK134 := n2_; have BK141 := n3_; have BK142 := n4_; have HB := n5_; clear n0_ n1_ n2_ n3_ n4_ n5_; (try clear hb); (try clear hb2); (try clear hk); (try clear hi)) | (go_at_call 16; (with_reducible refine (boscagelaw11_err.calls (decide (t135 > 0)) 4 t150 _ A52.out).mono ?_); rintro e w' ⟨rfl, ⟨nd, rfl⟩⟩; have hnb71 := NB141_142.out; have hnc71 := NB142_141.out; have hcz72_0 : w70.cell? ⟨gb141, 0, none⟩ = some (.int .i64 t137) := (blk_cell BK141.out 0).trans rfl; have hcz72_1 : w70.cell? ⟨gb141, 1, none⟩ = some (.int .i64 t138) := (blk_cell BK141.out 1).trans rfl; have hcz72_2 : w70.cell? ⟨gb141, 2, none⟩ = some (.int .i64 t139) := (blk_cell BK141.out 2).trans rfl; have hfz72_0 := blk_frozen BK141.out 0; have hfz72_1 := blk_frozen BK141.out 1; have hfz72_2 := blk_frozen BK141.out 2; have hcz73_0 : w70.cell? ⟨gb142, 0, none⟩ = some (.int .i64 x143000_37) := (blk_cell BK142.out 0).trans rfl; have hcz73_1 : w70.cell? ⟨gb142, 1, none⟩ = some (.int .i64 x143001_37) := (blk_cell BK142.out 1).trans rfl; have hcz73_2 : w70.cell? ⟨gb142, 2, none⟩ = some (.int .i64 x143002_37) := (blk_cell BK142.out 2).trans rfl; have hfz73_0 := blk_frozen BK142.out 0; have hfz73_1 := blk_frozen BK142.out 1; have hfz73_2 := blk_frozen BK142.out 2) | (go_at_call 16; (with_reducible refine (boscagelaw11_err.calls x20_9 2 t151 _ A55.out).mono ?_); rintro e w' ⟨rfl, ⟨nd, rfl⟩⟩) | (go_at_call 18; (with_reducible refine (boscagelaw11_works.calls kj37  t152 _ A57.out).mono ?_); rintro e w74 ⟨rfl, hb⟩; have n0_ := Aside0.mk (blk_below (g := gb124) (o := .cells #[.int .i64 a4_0, .int .i64 a4_1, .int .i64 a4_2] 24 (0, 0)) (by (with_reducible repeat (first | refine blk_drewN ?_ _ | refine blk_drew ?_ | refine blk_alloc ?_ _)); exact BK124.out) hb); have n1_ := Aside0.mk (blk_below (g := gb129) (o := .cells #[.int .i64 t125, .int .i64 t126, .int .i64 t127] 24 (0, 0)) (by (with_reducible repeat (first | refine blk_drewN ?_ _ | refine blk_drew ?_ | refine blk_alloc ?_ _)); exact BK129.out) hb); have n2_ := Aside0.mk (blk_below (g := gb134) (o := .cells #[.int .i64 t130, .int .i64 t131, .int .i64 t132] 24 (0, 0)) (by (with_reducible repeat (first | refine blk_drewN ?_ _ | refine blk_drew ?_ | refine blk_alloc ?_ _)); exact BK134.out) hb); have n3_ := Aside0.mk (blk_below (g := gb141) (o := .cells #[.int .i64 t137, .int .i64 t138, .int .i64 t139] 24 (0, 0)) (by (with_reducible repeat (first | refine blk_drewN ?_ _ | refine blk_drew ?_ | refine blk_alloc ?_ _)); exact BK141.out) hb); have n4_ := Aside0.mk (blk_below (g := gb142) (o := .cells #[.int .i64 x143000_37, .int .i64 x143001_37, .int .i64 x143002_37] 24 (0, 0)) (by (with_reducible repeat (first | refine blk_drewN ?_ _ | refine blk_drew ?_ | refine blk_alloc ?_ _)); exact BK142.out) hb); have n5_ := Aside0.mk (below_step (by repeat (first | (with_reducible first | exact HB.out | apply below_alloc | apply pw_below_drewN | apply below_drew1 | refine below_set ?_ GE124.out | refine below_set ?_ GE129.out | refine below_set ?_ GE134.out | refine below_set ?_ GE141.out | refine below_set ?_ GE142.out) | exact HB.out)) hb); clear BK124; clear BK129; clear BK134; clear BK141; clear BK142; clear HB; have BK124 := n0_; have BK129 := n1_; have BK134 := n2_; have BK141 := n3_; have BK142 := n4_; have HB := n5_; clear n0_ n1_ n2_ n3_ n4_ n5_; (try clear hb); (try clear hb2); (try clear hk); (try clear hi)))
                      go_ret
                      exact ⟨by first | rfl | (simp [errW_none, errW_some] <;> rfl) | (simp [*, errW_none, errW_some] <;> rfl), by repeat (first | (with_reducible first | exact HB.out | apply below_alloc | apply pw_below_drewN | apply below_drew1 | refine below_set ?_ GE124.out | refine below_set ?_ GE129.out | refine below_set ?_ GE134.out | refine below_set ?_ GE141.out | refine below_set ?_ GE142.out) | exact HB.out)⟩
                    · rw [if_neg c56] at H
                      have c56b0 : (t140 == t151) = false := beq_eq_false_iff_ne.mpr c56
                      have c56b1 : (t140 != t151) = true := bne_iff_ne.mpr c56
                      obtain rfl := Option.some.inj H
                      have hnb75 := NB129_124.out
                      have hnc75 := NB124_129.out
                      have hnb76 := NB129_134.out
                      have hnc76 := NB134_129.out
                      have hnb77 := NB129_141.out
                      have hnc77 := NB141_129.out
                      have hnb78 := NB129_142.out
                      have hnc78 := NB142_129.out
                      have hcz79_0 : wc.cell? ⟨gb129, 0, none⟩ = some (.int .i64 t125) := (blk_cell BK129.out 0).trans rfl
                      have hcz79_1 : wc.cell? ⟨gb129, 1, none⟩ = some (.int .i64 t126) := (blk_cell BK129.out 1).trans rfl
                      have hcz79_2 : wc.cell? ⟨gb129, 2, none⟩ = some (.int .i64 t127) := (blk_cell BK129.out 2).trans rfl
                      have hfz79_0 := blk_frozen BK129.out 0
                      have hfz79_1 := blk_frozen BK129.out 1
                      have hfz79_2 := blk_frozen BK129.out 2
                      have hnb80 := NB134_124.out
                      have hnc80 := NB124_134.out
                      have hnb81 := NB134_141.out
                      have hnc81 := NB141_134.out
                      have hnb82 := NB134_142.out
                      have hnc82 := NB142_134.out
                      have hcz83_0 : wc.cell? ⟨gb134, 0, none⟩ = some (.int .i64 t130) := (blk_cell BK134.out 0).trans rfl
                      have hcz83_1 : wc.cell? ⟨gb134, 1, none⟩ = some (.int .i64 t131) := (blk_cell BK134.out 1).trans rfl
                      have hcz83_2 : wc.cell? ⟨gb134, 2, none⟩ = some (.int .i64 t132) := (blk_cell BK134.out 2).trans rfl
                      have hfz83_0 := blk_frozen BK134.out 0
                      have hfz83_1 := blk_frozen BK134.out 1
                      have hfz83_2 := blk_frozen BK134.out 2
                      go_wp2_with (first | (go_at_call 16; (with_reducible refine (boscagelaw11_err.calls t133 2 t148 _ A48.out).mono ?_); rintro e w' ⟨rfl, ⟨nd, rfl⟩⟩; have hnb84 := NB124_141.out; have hnc84 := NB141_124.out; have hnb85 := NB124_142.out; have hnc85 := NB142_124.out; have hcz86_0 : wc.cell? ⟨gb124, 0, none⟩ = some (.int .i64 a4_0) := (blk_cell BK124.out 0).trans rfl; have hcz86_1 : wc.cell? ⟨gb124, 1, none⟩ = some (.int .i64 a4_1) := (blk_cell BK124.out 1).trans rfl; have hcz86_2 : wc.cell? ⟨gb124, 2, none⟩ = some (.int .i64 a4_2) := (blk_cell BK124.out 2).trans rfl; have hfz86_0 := blk_frozen BK124.out 0; have hfz86_1 := blk_frozen BK124.out 1; have hfz86_2 := blk_frozen BK124.out 2) | (go_at_call 17; (with_reducible refine (boscageref11_Kind.calls kj37 a4_0 a4_1 a4_2 t149 _ A50.out).mono ?_); rintro e w87 ⟨rfl, hb⟩; have n0_ := Aside0.mk (blk_below (g := gb124) (o := .cells #[.int .i64 a4_0, .int .i64 a4_1, .int .i64 a4_2] 24 (0, 0)) (by (with_reducible repeat (first | refine blk_drewN ?_ _ | refine blk_drew ?_ | refine blk_alloc ?_ _)); exact BK124.out) hb); have n1_ := Aside0.mk (blk_below (g := gb129) (o := .cells #[.int .i64 t125, .int .i64 t126, .int .i64 t127] 24 (0, 0)) (by (with_reducible repeat (first | refine blk_drewN ?_ _ | refine blk_drew ?_ | refine blk_alloc ?_ _)); exact BK129.out) hb); have n2_ := Aside0.mk (blk_below (g := gb134) (o := .cells #[.int .i64 t130, .int .i64 t131, .int .i64 t132] 24 (0, 0)) (by (with_reducible repeat (first | refine blk_drewN ?_ _ | refine blk_drew ?_ | refine blk_alloc ?_ _)); exact BK134.out) hb); have n3_ := Aside0.mk (blk_below (g := gb141) (o := .cells #[.int .i64 t137, .int .i64 t138, .int .i64 t139] 24 (0, 0)) (by (with_reducible repeat (first | refine blk_drewN ?_ _ | refine blk_drew ?_ | refine blk_alloc ?_ _)); exact BK141.out) hb); have n4_ := Aside0.mk (blk_below (g := gb142) (o := .cells #[.int .i64 x143000_37, .int .i64 x143001_37, .int .i64 x143002_37] 24 (0, 0)) (by (with_reducible repeat (first | refine blk_drewN ?_ _ | refine blk_drew ?_ | refine blk_alloc ?_ _)); exact BK142.out) hb); have n5_ := Aside0.mk (below_step (by repeat (first | (with_reducible first | exact HB.out | apply below_alloc | apply pw_below_drewN | apply below_drew1 | refine below_set ?_ GE124.out | refine below_set ?_ GE129.out | refine below_set ?_ GE134.out | refine below_set ?_ GE141.out | refine below_set ?_ GE142.out) | exact HB.out)) hb); clear BK124; clear BK129; clear BK134; clear BK141; clear BK142; clear HB; have BK124 := n0_; have BK129 := n1_; have BK134 := n2_; have BK141 := n3_; have BK142 := n4_; have HB := n5_; clear n0_ n1_ n2_ n3_ n4_ n5_; (try clear hb); (try clear hb2); (try clear hk); (try clear hi)) | (go_at_call 16; (with_reducible refine (boscagelaw11_err.calls (decide (t135 > 0)) 4 t150 _ A52.out).mono ?_); rintro e w' ⟨rfl, ⟨nd, rfl⟩⟩; have hnb88 := NB141_142.out; have hnc88 := NB142_141.out; have hcz89_0 : w87.cell? ⟨gb141, 0, none⟩ = some (.int .i64 t137) := (blk_cell BK141.out 0).trans rfl; have hcz89_1 : w87.cell? ⟨gb141, 1, none⟩ = some (.int .i64 t138) := (blk_cell BK141.out 1).trans rfl; have hcz89_2 : w87.cell? ⟨gb141, 2, none⟩ = some (.int .i64 t139) := (blk_cell BK141.out 2).trans rfl; have hfz89_0 := blk_frozen BK141.out 0; have hfz89_1 := blk_frozen BK141.out 1; have hfz89_2 := blk_frozen BK141.out 2; have hcz90_0 : w87.cell? ⟨gb142, 0, none⟩ = some (.int .i64 x143000_37) := (blk_cell BK142.out 0).trans rfl; have hcz90_1 : w87.cell? ⟨gb142, 1, none⟩ = some (.int .i64 x143001_37) := (blk_cell BK142.out 1).trans rfl; have hcz90_2 : w87.cell? ⟨gb142, 2, none⟩ = some (.int .i64 x143002_37) := (blk_cell BK142.out 2).trans rfl; have hfz90_0 := blk_frozen BK142.out 0; have hfz90_1 := blk_frozen BK142.out 1; have hfz90_2 := blk_frozen BK142.out 2) | (go_at_call 16; (with_reducible refine (boscagelaw11_err.calls x20_9 2 t151 _ A55.out).mono ?_); rintro e w' ⟨rfl, ⟨nd, rfl⟩⟩))
                      go_ret
                      exact ⟨by first | rfl | (simp [errW_none, errW_some] <;> rfl) | (simp [*, errW_none, errW_some] <;> rfl), by repeat (first | (with_reducible first | exact HB.out | apply below_alloc | apply pw_below_drewN | apply below_drew1 | refine below_set ?_ GE124.out | refine below_set ?_ GE129.out | refine below_set ?_ GE134.out | refine below_set ?_ GE141.out | refine below_set ?_ GE142.out) | exact HB.out)⟩
                  · rw [if_neg c54] at H
                    have c54b0 : (t137 == x143000_37 && (t138 == x143001_37 && (t139 == x143002_37))) = false := by simpa using c54
                    (try (have c54b1 : decide (t137 = x143000_37 && (t138 == x143001_37 && (t139 == x143002_37))) = false := by simpa using c54))
                    (try (have c54b2 : (t137 == x143000_37 && (t138 == x143001_37 && (t139 == x143002_37))) = false := by simpa using c54))
                    (try (have c54b3 : ¬ (t137 = x143000_37 && (t138 == x143001_37 && (t139 == x143002_37))) := by simpa using c54))
                    clear c54
                    obtain rfl := Option.some.inj H
                    have hnb91 := NB129_124.out
                    have hnc91 := NB124_129.out
                    have hnb92 := NB129_134.out
                    have hnc92 := NB134_129.out
                    have hnb93 := NB129_141.out
                    have hnc93 := NB141_129.out
                    have hnb94 := NB129_142.out
                    have hnc94 := NB142_129.out
                    have hcz95_0 : wc.cell? ⟨gb129, 0, none⟩ = some (.int .i64 t125) := (blk_cell BK129.out 0).trans rfl
                    have hcz95_1 : wc.cell? ⟨gb129, 1, none⟩ = some (.int .i64 t126) := (blk_cell BK129.out 1).trans rfl
                    have hcz95_2 : wc.cell? ⟨gb129, 2, none⟩ = some (.int .i64 t127) := (blk_cell BK129.out 2).trans rfl
                    have hfz95_0 := blk_frozen BK129.out 0
                    have hfz95_1 := blk_frozen BK129.out 1
                    have hfz95_2 := blk_frozen BK129.out 2
                    have hnb96 := NB134_124.out
                    have hnc96 := NB124_134.out
                    have hnb97 := NB134_141.out
                    have hnc97 := NB141_134.out
                    have hnb98 := NB134_142.out
                    have hnc98 := NB142_134.out
                    have hcz99_0 : wc.cell? ⟨gb134, 0, none⟩ = some (.int .i64 t130) := (blk_cell BK134.out 0).trans rfl
                    have hcz99_1 : wc.cell? ⟨gb134, 1, none⟩ = some (.int .i64 t131) := (blk_cell BK134.out 1).trans rfl
                    have hcz99_2 : wc.cell? ⟨gb134, 2, none⟩ = some (.int .i64 t132) := (blk_cell BK134.out 2).trans rfl
                    have hfz99_0 := blk_frozen BK134.out 0
                    have hfz99_1 := blk_frozen BK134.out 1
                    have hfz99_2 := blk_frozen BK134.out 2
                    go_wp2_with (first | (go_at_call 16; (with_reducible refine (boscagelaw11_err.calls t133 2 t148 _ A48.out).mono ?_); rintro e w' ⟨rfl, ⟨nd, rfl⟩⟩; have hnb100 := NB124_141.out; have hnc100 := NB141_124.out; have hnb101 := NB124_142.out; have hnc101 := NB142_124.out; have hcz102_0 : wc.cell? ⟨gb124, 0, none⟩ = some (.int .i64 a4_0) := (blk_cell BK124.out 0).trans rfl; have hcz102_1 : wc.cell? ⟨gb124, 1, none⟩ = some (.int .i64 a4_1) := (blk_cell BK124.out 1).trans rfl; have hcz102_2 : wc.cell? ⟨gb124, 2, none⟩ = some (.int .i64 a4_2) := (blk_cell BK124.out 2).trans rfl; have hfz102_0 := blk_frozen BK124.out 0; have hfz102_1 := blk_frozen BK124.out 1; have hfz102_2 := blk_frozen BK124.out 2) | (go_at_call 17; (with_reducible refine (boscageref11_Kind.calls kj37 a4_0 a4_1 a4_2 t149 _ A50.out).mono ?_); rintro e w103 ⟨rfl, hb⟩; have n0_ := Aside0.mk (blk_below (g := gb124) (o := .cells #[.int .i64 a4_0, .int .i64 a4_1, .int .i64 a4_2] 24 (0, 0)) (by (with_reducible repeat (first | refine blk_drewN ?_ _ | refine blk_drew ?_ | refine blk_alloc ?_ _)); exact BK124.out) hb); have n1_ := Aside0.mk (blk_below (g := gb129) (o := .cells #[.int .i64 t125, .int .i64 t126, .int .i64 t127] 24 (0, 0)) (by (with_reducible repeat (first | refine blk_drewN ?_ _ | refine blk_drew ?_ | refine blk_alloc ?_ _)); exact BK129.out) hb); have n2_ := Aside0.mk (blk_below (g := gb134) (o := .cells #[.int .i64 t130, .int .i64 t131, .int .i64 t132] 24 (0, 0)) (by (with_reducible repeat (first | refine blk_drewN ?_ _ | refine blk_drew ?_ | refine blk_alloc ?_ _)); exact BK134.out) hb); have n3_ := Aside0.mk (blk_below (g := gb141) (o := .cells #[.int .i64 t137, .int .i64 t138, .int .i64 t139] 24 (0, 0)) (by (with_reducible repeat (first | refine blk_drewN ?_ _ | refine blk_drew ?_ | refine blk_alloc ?_ _)); exact BK141.out) hb); have n4_ := Aside0.mk (blk_below (g := gb142) (o := .cells #[.int .i64 x143000_37, .int .i64 x143001_37, .int .i64 x143002_37] 24 (0, 0)) (by (with_reducible repeat (first | refine blk_drewN ?_ _ | refine blk_drew ?_ | refine blk_alloc ?_ _)); exact BK142.out) hb); have n5_ := Aside0.mk (below_step (by repeat (first | (with_reducible first | exact HB.out | apply below_alloc | apply pw_below_drewN | apply below_drew1 | refine below_set ?_ GE124.out | refine below_set ?_ GE129.out | refine below_set ?_ GE134.out | refine below_set ?_ GE141.out | refine below_set ?_ GE142.out) | exact HB.out)) hb); clear BK124; clear BK129; clear BK134; clear BK141; clear BK142; clear HB; have BK124 := n0_; have BK129 := n1_; have BK134 := n2_; have BK141 := n3_; have BK142 := n4_; have HB := n5_; clear n0_ n1_ n2_ n3_ n4_ n5_; (try clear hb); (try clear hb2); (try clear hk); (try clear hi)) | (go_at_call 16; (with_reducible refine (boscagelaw11_err.calls (decide (t135 > 0)) 4 t150 _ A52.out).mono ?_); rintro e w' ⟨rfl, ⟨nd, rfl⟩⟩; have hnb104 := NB141_142.out; have hnc104 := NB142_141.out; have hcz105_0 : w103.cell? ⟨gb141, 0, none⟩ = some (.int .i64 t137) := (blk_cell BK141.out 0).trans rfl; have hcz105_1 : w103.cell? ⟨gb141, 1, none⟩ = some (.int .i64 t138) := (blk_cell BK141.out 1).trans rfl; have hcz105_2 : w103.cell? ⟨gb141, 2, none⟩ = some (.int .i64 t139) := (blk_cell BK141.out 2).trans rfl; have hfz105_0 := blk_frozen BK141.out 0; have hfz105_1 := blk_frozen BK141.out 1; have hfz105_2 := blk_frozen BK141.out 2; have hcz106_0 : w103.cell? ⟨gb142, 0, none⟩ = some (.int .i64 x143000_37) := (blk_cell BK142.out 0).trans rfl; have hcz106_1 : w103.cell? ⟨gb142, 1, none⟩ = some (.int .i64 x143001_37) := (blk_cell BK142.out 1).trans rfl; have hcz106_2 : w103.cell? ⟨gb142, 2, none⟩ = some (.int .i64 x143002_37) := (blk_cell BK142.out 2).trans rfl; have hfz106_0 := blk_frozen BK142.out 0; have hfz106_1 := blk_frozen BK142.out 1; have hfz106_2 := blk_frozen BK142.out 2))
                    go_ret
                    exact ⟨by first | rfl | (simp [errW_none, errW_some] <;> rfl) | (simp [*, errW_none, errW_some] <;> rfl), by repeat (first | (with_reducible first | exact HB.out | apply below_alloc | apply pw_below_drewN | apply below_drew1 | refine below_set ?_ GE124.out | refine below_set ?_ GE129.out | refine below_set ?_ GE134.out | refine below_set ?_ GE141.out | refine below_set ?_ GE142.out) | exact HB.out)⟩
                · rw [if_neg c53] at H
                  have c53b0 : (t136 == t150) = false := beq_eq_false_iff_ne.mpr c53
                  have c53b1 : (t136 != t150) = true := bne_iff_ne.mpr c53
                  obtain rfl := Option.some.inj H
                  have hnb107 := NB129_124.out
                  have hnc107 := NB124_129.out
                  have hnb108 := NB129_134.out
                  have hnc108 := NB134_129.out
                  have hnb109 := NB129_141.out
                  have hnc109 := NB141_129.out
                  have hnb110 := NB129_142.out
                  have hnc110 := NB142_129.out
                  have hcz111_0 : wc.cell? ⟨gb129, 0, none⟩ = some (.int .i64 t125) := (blk_cell BK129.out 0).trans rfl
                  have hcz111_1 : wc.cell? ⟨gb129, 1, none⟩ = some (.int .i64 t126) := (blk_cell BK129.out 1).trans rfl
                  have hcz111_2 : wc.cell? ⟨gb129, 2, none⟩ = some (.int .i64 t127) := (blk_cell BK129.out 2).trans rfl
                  have hfz111_0 := blk_frozen BK129.out 0
                  have hfz111_1 := blk_frozen BK129.out 1
                  have hfz111_2 := blk_frozen BK129.out 2
                  have hnb112 := NB134_124.out
                  have hnc112 := NB124_134.out
                  have hnb113 := NB134_141.out
                  have hnc113 := NB141_134.out
                  have hnb114 := NB134_142.out
                  have hnc114 := NB142_134.out
                  have hcz115_0 : wc.cell? ⟨gb134, 0, none⟩ = some (.int .i64 t130) := (blk_cell BK134.out 0).trans rfl
                  have hcz115_1 : wc.cell? ⟨gb134, 1, none⟩ = some (.int .i64 t131) := (blk_cell BK134.out 1).trans rfl
                  have hcz115_2 : wc.cell? ⟨gb134, 2, none⟩ = some (.int .i64 t132) := (blk_cell BK134.out 2).trans rfl
                  have hfz115_0 := blk_frozen BK134.out 0
                  have hfz115_1 := blk_frozen BK134.out 1
                  have hfz115_2 := blk_frozen BK134.out 2
                  go_wp2_with (first | (go_at_call 16; (with_reducible refine (boscagelaw11_err.calls t133 2 t148 _ A48.out).mono ?_); rintro e w' ⟨rfl, ⟨nd, rfl⟩⟩; have hnb116 := NB124_141.out; have hnc116 := NB141_124.out; have hnb117 := NB124_142.out; have hnc117 := NB142_124.out; have hcz118_0 : wc.cell? ⟨gb124, 0, none⟩ = some (.int .i64 a4_0) := (blk_cell BK124.out 0).trans rfl; have hcz118_1 : wc.cell? ⟨gb124, 1, none⟩ = some (.int .i64 a4_1) := (blk_cell BK124.out 1).trans rfl; have hcz118_2 : wc.cell? ⟨gb124, 2, none⟩ = some (.int .i64 a4_2) := (blk_cell BK124.out 2).trans rfl; have hfz118_0 := blk_frozen BK124.out 0; have hfz118_1 := blk_frozen BK124.out 1; have hfz118_2 := blk_frozen BK124.out 2) | (go_at_call 17; (with_reducible refine (boscageref11_Kind.calls kj37 a4_0 a4_1 a4_2 t149 _ A50.out).mono ?_); rintro e w119 ⟨rfl, hb⟩; have n0_ := Aside0.mk (blk_below (g := gb124) (o := .cells #[.int .i64 a4_0, .int .i64 a4_1, .int .i64 a4_2] 24 (0, 0)) (by (with_reducible repeat (first | refine blk_drewN ?_ _ | refine blk_drew ?_ | refine blk_alloc ?_ _)); exact BK124.out) hb); have n1_ := Aside0.mk (blk_below (g := gb129) (o := .cells #[.int .i64 t125, .int .i64 t126, .int .i64 t127] 24 (0, 0)) (by (with_reducible repeat (first | refine blk_drewN ?_ _ | refine blk_drew ?_ | refine blk_alloc ?_ _)); exact BK129.out) hb); have n2_ := Aside0.mk (blk_below (g := gb134) (o := .cells #[.int .i64 t130, .int .i64 t131, .int .i64 t132] 24 (0, 0)) (by (with_reducible repeat (first | refine blk_drewN ?_ _ | refine blk_drew ?_ | refine blk_alloc ?_ _)); exact BK134.out) hb); have n3_ := Aside0.mk (blk_below (g := gb141) (o := .cells #[.int .i64 t137, .int .i64 t138, .int .i64 t139] 24 (0, 0)) (by (with_reducible repeat (first | refine blk_drewN ?_ _ | refine blk_drew ?_ | refine blk_alloc ?_ _)); exact BK141.out) hb); have n4_ := Aside0.mk (blk_below (g := gb142) (o := .cells #[.int .i64 x143000_37, .int .i64 x143001_37, .int .i64 x143002_37] 24 (0, 0)) (by (with_reducible repeat (first | refine blk_drewN ?_ _ | refine blk_drew ?_ | refine blk_alloc ?_ _)); exact BK142.out) hb); have n5_ := Aside0.mk (below_step (by repeat (first | (with_reducible first | exact HB.out | apply below_alloc | apply pw_below_drewN | apply below_drew1 | refine below_set ?_ GE124.out | refine below_set ?_ GE129.out | refine below_set ?_ GE134.out | refine below_set ?_ GE141.out | refine below_set ?_ GE142.out) | exact HB.out)) hb); clear BK124; clear BK129; clear BK134; clear BK141; clear BK142; clear HB; have BK124 := n0_; have BK129 := n1_; have BK134 := n2_; have BK141 := n3_; have BK142 := n4_; have HB := n5_; clear n0_ n1_ n2_ n3_ n4_ n5_; (try clear hb); (try clear hb2); (try clear hk); (try clear hi)) | (go_at_call 16; (with_reducible refine (boscagelaw11_err.calls (decide (t135 > 0)) 4 t150 _ A52.out).mono ?_); rintro e w' ⟨rfl, ⟨nd, rfl⟩⟩))
                  go_ret
                  exact ⟨by first | rfl | (simp [errW_none, errW_some] <;> rfl) | (simp [*, errW_none, errW_some] <;> rfl), by repeat (first | (with_reducible first | exact HB.out | apply below_alloc | apply pw_below_drewN | apply below_drew1 | refine below_set ?_ GE124.out | refine below_set ?_ GE129.out | refine below_set ?_ GE134.out | refine below_set ?_ GE141.out | refine below_set ?_ GE142.out) | exact HB.out)⟩
              · rw [if_neg c51] at H
                have c51b0 : (t135 == t149) = false := beq_eq_false_iff_ne.mpr c51
                have c51b1 : (t135 != t149) = true := bne_iff_ne.mpr c51
                obtain rfl := Option.some.inj H
                have hnb120 := NB129_124.out
                have hnc120 := NB124_129.out
                have hnb121 := NB129_134.out
                have hnc121 := NB134_129.out
                have hnb122 := NB129_141.out
                have hnc122 := NB141_129.out
                have hnb123 := NB129_142.out
                have hnc123 := NB142_129.out
                have hcz124_0 : wc.cell? ⟨gb129, 0, none⟩ = some (.int .i64 t125) := (blk_cell BK129.out 0).trans rfl
                have hcz124_1 : wc.cell? ⟨gb129, 1, none⟩ = some (.int .i64 t126) := (blk_cell BK129.out 1).trans rfl
                have hcz124_2 : wc.cell? ⟨gb129, 2, none⟩ = some (.int .i64 t127) := (blk_cell BK129.out 2).trans rfl
                have hfz124_0 := blk_frozen BK129.out 0
                have hfz124_1 := blk_frozen BK129.out 1
                have hfz124_2 := blk_frozen BK129.out 2
                have hnb125 := NB134_124.out
                have hnc125 := NB124_134.out
                have hnb126 := NB134_141.out
                have hnc126 := NB141_134.out
                have hnb127 := NB134_142.out
                have hnc127 := NB142_134.out
                have hcz128_0 : wc.cell? ⟨gb134, 0, none⟩ = some (.int .i64 t130) := (blk_cell BK134.out 0).trans rfl
                have hcz128_1 : wc.cell? ⟨gb134, 1, none⟩ = some (.int .i64 t131) := (blk_cell BK134.out 1).trans rfl
                have hcz128_2 : wc.cell? ⟨gb134, 2, none⟩ = some (.int .i64 t132) := (blk_cell BK134.out 2).trans rfl
                have hfz128_0 := blk_frozen BK134.out 0
                have hfz128_1 := blk_frozen BK134.out 1
                have hfz128_2 := blk_frozen BK134.out 2
                go_wp2_with (first | (go_at_call 16; (with_reducible refine (boscagelaw11_err.calls t133 2 t148 _ A48.out).mono ?_); rintro e w' ⟨rfl, ⟨nd, rfl⟩⟩; have hnb129 := NB124_141.out; have hnc129 := NB141_124.out; have hnb130 := NB124_142.out; have hnc130 := NB142_124.out; have hcz131_0 : wc.cell? ⟨gb124, 0, none⟩ = some (.int .i64 a4_0) := (blk_cell BK124.out 0).trans rfl; have hcz131_1 : wc.cell? ⟨gb124, 1, none⟩ = some (.int .i64 a4_1) := (blk_cell BK124.out 1).trans rfl; have hcz131_2 : wc.cell? ⟨gb124, 2, none⟩ = some (.int .i64 a4_2) := (blk_cell BK124.out 2).trans rfl; have hfz131_0 := blk_frozen BK124.out 0; have hfz131_1 := blk_frozen BK124.out 1; have hfz131_2 := blk_frozen BK124.out 2) | (go_at_call 17; (with_reducible refine (boscageref11_Kind.calls kj37 a4_0 a4_1 a4_2 t149 _ A50.out).mono ?_); rintro e w132 ⟨rfl, hb⟩; have n0_ := Aside0.mk (blk_below (g := gb124) (o := .cells #[.int .i64 a4_0, .int .i64 a4_1, .int .i64 a4_2] 24 (0, 0)) (by (with_reducible repeat (first | refine blk_drewN ?_ _ | refine blk_drew ?_ | refine blk_alloc ?_ _)); exact BK124.out) hb); have n1_ := Aside0.mk (blk_below (g := gb129) (o := .cells #[.int .i64 t125, .int .i64 t126, .int .i64 t127] 24 (0, 0)) (by (with_reducible repeat (first | refine blk_drewN ?_ _ | refine blk_drew ?_ | refine blk_alloc ?_ _)); exact BK129.out) hb); have n2_ := Aside0.mk (blk_below (g := gb134) (o := .cells #[.int .i64 t130, .int .i64 t131, .int .i64 t132] 24 (0, 0)) (by (with_reducible repeat (first | refine blk_drewN ?_ _ | refine blk_drew ?_ | refine blk_alloc ?_ _)); exact BK134.out) hb); have n3_ := Aside0.mk (blk_below (g := gb141) (o := .cells #[.int .i64 t137, .int .i64 t138, .int .i64 t139] 24 (0, 0)) (by (with_reducible repeat (first | refine blk_drewN ?_ _ | refine blk_drew ?_ | refine blk_alloc ?_ _)); exact BK141.out) hb); have n4_ := Aside0.mk (blk_below (g := gb142) (o := .cells #[.int .i64 x143000_37, .int .i64 x143001_37, .int .i64 x143002_37] 24 (0, 0)) (by (with_reducible repeat (first | refine blk_drewN ?_ _ | refine blk_drew ?_ | refine blk_alloc ?_ _)); exact BK142.out) hb); have n5_ := Aside0.mk (below_step (by repeat (first | (with_reducible first | exact HB.out | apply below_alloc | apply pw_below_drewN | apply below_drew1 | refine below_set ?_ GE124.out | refine below_set ?_ GE129.out | refine below_set ?_ GE134.out | refine below_set ?_ GE141.out | refine below_set ?_ GE142.out) | exact HB.out)) hb); clear BK124; clear BK129; clear BK134; clear BK141; clear BK142; clear HB; have BK124 := n0_; have BK129 := n1_; have BK134 := n2_; have BK141 := n3_; have BK142 := n4_; have HB := n5_; clear n0_ n1_ n2_ n3_ n4_ n5_; (try clear hb); (try clear hb2); (try clear hk); (try clear hi)))
                go_ret
                exact ⟨by first | rfl | (simp [errW_none, errW_some] <;> rfl) | (simp [*, errW_none, errW_some] <;> rfl), by repeat (first | (with_reducible first | exact HB.out | apply below_alloc | apply pw_below_drewN | apply below_drew1 | refine below_set ?_ GE124.out | refine below_set ?_ GE129.out | refine below_set ?_ GE134.out | refine below_set ?_ GE141.out | refine below_set ?_ GE142.out) | exact HB.out)⟩
            · rw [if_neg c49] at H
              have c49b0 : (t128 == t148) = false := beq_eq_false_iff_ne.mpr c49
              have c49b1 : (t128 != t148) = true := bne_iff_ne.mpr c49
              obtain rfl := Option.some.inj H
              have hnb133 := NB129_124.out
              have hnc133 := NB124_129.out
              have hnb134 := NB129_134.out
              have hnc134 := NB134_129.out
              have hnb135 := NB129_141.out
              have hnc135 := NB141_129.out
              have hnb136 := NB129_142.out
              have hnc136 := NB142_129.out
              have hcz137_0 : wc.cell? ⟨gb129, 0, none⟩ = some (.int .i64 t125) := (blk_cell BK129.out 0).trans rfl
              have hcz137_1 : wc.cell? ⟨gb129, 1, none⟩ = some (.int .i64 t126) := (blk_cell BK129.out 1).trans rfl
              have hcz137_2 : wc.cell? ⟨gb129, 2, none⟩ = some (.int .i64 t127) := (blk_cell BK129.out 2).trans rfl
              have hfz137_0 := blk_frozen BK129.out 0
              have hfz137_1 := blk_frozen BK129.out 1
              have hfz137_2 := blk_frozen BK129.out 2
              have hnb138 := NB134_124.out
              have hnc138 := NB124_134.out
              have hnb139 := NB134_141.out
              have hnc139 := NB141_134.out
              have hnb140 := NB134_142.out
              have hnc140 := NB142_134.out
              have hcz141_0 : wc.cell? ⟨gb134, 0, none⟩ = some (.int .i64 t130) := (blk_cell BK134.out 0).trans rfl
              have hcz141_1 : wc.cell? ⟨gb134, 1, none⟩ = some (.int .i64 t131) := (blk_cell BK134.out 1).trans rfl
              have hcz141_2 : wc.cell? ⟨gb134, 2, none⟩ = some (.int .i64 t132) := (blk_cell BK134.out 2).trans rfl
              have hfz141_0 := blk_frozen BK134.out 0
              have hfz141_1 := blk_frozen BK134.out 1
              have hfz141_2 := blk_frozen BK134.out 2
              go_wp2_with (first | (go_at_call 16; (with_reducible refine (boscagelaw11_err.calls t133 2 t148 _ A48.out).mono ?_); rintro e w' ⟨rfl, ⟨nd, rfl⟩⟩))
              go_ret
              exact ⟨by first | rfl | (simp [errW_none, errW_some] <;> rfl) | (simp [*, errW_none, errW_some] <;> rfl), by repeat (first | (with_reducible first | exact HB.out | apply below_alloc | apply pw_below_drewN | apply below_drew1 | refine below_set ?_ GE124.out | refine below_set ?_ GE129.out | refine below_set ?_ GE134.out | refine below_set ?_ GE141.out | refine below_set ?_ GE142.out) | exact HB.out)⟩
          · rw [if_neg c47] at H
            have c47b0 : (t125 == t130 && (t126 == t131 && (t127 == t132))) = false := by simpa using c47
            (try (have c47b1 : decide (t125 = t130 && (t126 == t131 && (t127 == t132))) = false := by simpa using c47))
            (try (have c47b2 : (t125 == t130 && (t126 == t131 && (t127 == t132))) = false := by simpa using c47))
            (try (have c47b3 : ¬ (t125 = t130 && (t126 == t131 && (t127 == t132))) := by simpa using c47))
            clear c47
            obtain rfl := Option.some.inj H
            have hnb142 := NB129_124.out
            have hnc142 := NB124_129.out
            have hnb143 := NB129_134.out
            have hnc143 := NB134_129.out
            have hnb144 := NB129_141.out
            have hnc144 := NB141_129.out
            have hnb145 := NB129_142.out
            have hnc145 := NB142_129.out
            have hcz146_0 : wc.cell? ⟨gb129, 0, none⟩ = some (.int .i64 t125) := (blk_cell BK129.out 0).trans rfl
            have hcz146_1 : wc.cell? ⟨gb129, 1, none⟩ = some (.int .i64 t126) := (blk_cell BK129.out 1).trans rfl
            have hcz146_2 : wc.cell? ⟨gb129, 2, none⟩ = some (.int .i64 t127) := (blk_cell BK129.out 2).trans rfl
            have hfz146_0 := blk_frozen BK129.out 0
            have hfz146_1 := blk_frozen BK129.out 1
            have hfz146_2 := blk_frozen BK129.out 2
            have hnb147 := NB134_124.out
            have hnc147 := NB124_134.out
            have hnb148 := NB134_141.out
            have hnc148 := NB141_134.out
            have hnb149 := NB134_142.out
            have hnc149 := NB142_134.out
            have hcz150_0 : wc.cell? ⟨gb134, 0, none⟩ = some (.int .i64 t130) := (blk_cell BK134.out 0).trans rfl
            have hcz150_1 : wc.cell? ⟨gb134, 1, none⟩ = some (.int .i64 t131) := (blk_cell BK134.out 1).trans rfl
            have hcz150_2 : wc.cell? ⟨gb134, 2, none⟩ = some (.int .i64 t132) := (blk_cell BK134.out 2).trans rfl
            have hfz150_0 := blk_frozen BK134.out 0
            have hfz150_1 := blk_frozen BK134.out 1
            have hfz150_2 := blk_frozen BK134.out 2
            go_wp2
            go_ret
            exact ⟨by first | rfl | (simp [errW_none, errW_some] <;> rfl) | (simp [*, errW_none, errW_some] <;> rfl), by repeat (first | (with_reducible first | exact HB.out | apply below_alloc | apply pw_below_drewN | apply below_drew1 | refine below_set ?_ GE124.out | refine below_set ?_ GE129.out | refine below_set ?_ GE134.out | refine below_set ?_ GE141.out | refine below_set ?_ GE142.out) | exact HB.out)⟩

end Go.Proofs.Ytbbdhefipbepdaa.PWordHandles
