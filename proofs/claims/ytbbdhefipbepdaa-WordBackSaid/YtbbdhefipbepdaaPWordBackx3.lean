-- PRINTED BY print.sh 35421559b90ae4d0a3588c463048766b98c2df88dd9212a6774a882060cdf62d: not written by this session
import Derived.Test.YtbbdhefipbepdaaPWordBackx0
import Derived.Test.YtbbdhefipbepdaaPWordBackx2
namespace Go.Proofs.Ytbbdhefipbepdaa.PWordBack
open Go.RowKit Go.Proofs.YtbbdhefipbepdaaW.PrintWords Go.Proofs.YtbbdhefipbepdaaW.PrintLast Go.Proofs.YtbbdhefipbepdaaW.PrintMore
attribute [local go_sem] max2_int min2_int max_two min_two max_three min_three max_four min_four   -- for this text's walks alone
set_option linter.unusedVariables false
set_option linter.unusedSimpArgs false

/-! ### boscagelaw11_WordBack: function 5 -/
mutual
def boscagelaw11_WordBack.j0 : Nat → Int → Int → Int → Bool → Option (Bool)
  | 0, _, _, _, _ => none
  | k + 1, x2, x3, x4, x54 => if x54 = true then (some false) else (if (wrap64 (1 + (wrap64 (Int.tmod x3 16)))) = 0 then (none) else ((word_First.f (Int.tmod (wrap64 (x2)) (wrap64 (1 + (wrap64 (Int.tmod x3 16))))) (wrap64 (1 + (wrap64 (Int.tmod x3 16))))).bind fun bt134 => (boscagelaw11_WordBack.l0 k x4 (wrap64 (1 + (wrap64 (Int.tmod x3 16)))) (Int.tmod (wrap64 (x2)) (wrap64 (1 + (wrap64 (Int.tmod x3 16))))) bt134.2.2.2 0 bt134.1 bt134.2.1 bt134.2.2.1)))
def boscagelaw11_WordBack.l0 : Nat → Int → Int → Int → Int → Int → Int → Int → Int → Option (Bool)
  | 0, _, _, _, _, _, _, _, _ => none
  | k + 1, x4, x16, x17, x19, x20, x139000, x139001, x139002 => if x20 < (wrap64 (x4)) then ((word_Next.f k x139000 x139001 x139002 x16).bind fun bt139 => ((word_Place.f bt139.1 x16).bind fun bt141 => (if x19 = 0 then (if bt139.2 = 0 then (if bt139.1 = (wrap64 (x17 + (wrap64 (x20 * x16)))) then (if bt141.2 = true then (if bt141.1 = x17 then ((word_Handle.f (wrap64 (1 + (Int.tmod x20 3))) bt139.1 5 x20).bind fun bt143 => (boscagelaw11_WordBack.l0 k x4 x16 x17 bt143.2.2.2 (wrap64 (x20 + 1)) bt143.1 bt143.2.1 bt143.2.2.1)) else (some false)) else (some false)) else (some false)) else (some false)) else (some false)))) else (some (x19 == 0))
end
def boscagelaw11_WordBack.f (k : Nat) (a0 : Int) (a1 : Int) (a2 : Int) (a3 : Int) (a4 : Int) : Option (Bool) := (boscagelaw11_works.f k).bind fun t125 => (if t125 = true then ((word_Note.f a0 a1).bind fun bt126 => ((word_Noted.f bt126.1 bt126.2.1 bt126.2.2.1).bind fun bt131 => (if bt126.2.2.2 = 0 then (if bt131.2.2 = 0 then (if bt131.1 = a0 then (boscagelaw11_WordBack.j0 k a2 a3 a4 (bt131.2.1 != a1)) else (boscagelaw11_WordBack.j0 k a2 a3 a4 true)) else (boscagelaw11_WordBack.j0 k a2 a3 a4 true)) else (boscagelaw11_WordBack.j0 k a2 a3 a4 false)))) else (some false))
theorem boscagelaw11_WordBack.mono_l : ∀ k, (∀ y0 y1 y2 y3, LeO (boscagelaw11_WordBack.j0 k y0 y1 y2 y3) (boscagelaw11_WordBack.j0 (k + 1) y0 y1 y2 y3)) ∧ (∀ y0 y1 y2 y3 y4 y5 y6 y7, LeO (boscagelaw11_WordBack.l0 k y0 y1 y2 y3 y4 y5 y6 y7) (boscagelaw11_WordBack.l0 (k + 1) y0 y1 y2 y3 y4 y5 y6 y7))
  | 0 => ⟨fun _ _ _ _ r h => by simp [boscagelaw11_WordBack.j0] at h, fun _ _ _ _ _ _ _ _ r h => by simp [boscagelaw11_WordBack.l0] at h⟩
  | k + 1 => by
    obtain ⟨ih0, ih1⟩ := boscagelaw11_WordBack.mono_l k
    refine ⟨?_, ?_⟩
    · intro y0 y1 y2 y3
      unfold boscagelaw11_WordBack.j0
      repeat' first
      | (with_reducible exact ih0 _ _ _ _)
      | (with_reducible exact ih1 _ _ _ _ _ _ _ _)
      | (with_reducible exact boscagelaw11_works.mono _)
      | (with_reducible exact word_Next.mono _ _ _ _ _)
      | (with_reducible exact LeO.refl _)
      | (with_reducible exact LeO.none _)
      | (with_reducible refine LeO.ite ?_ ?_)
      | (with_reducible refine LeO.bind ?_ (fun _ => ?_))
      | exact ih0 _ _ _ _
      | exact ih1 _ _ _ _ _ _ _ _
      | exact boscagelaw11_works.mono _
      | exact word_Next.mono _ _ _ _ _
      | exact LeO.none _
      | refine LeO.ite ?_ ?_
      | refine LeO.bind ?_ (fun _ => ?_)
    · intro y0 y1 y2 y3 y4 y5 y6 y7
      unfold boscagelaw11_WordBack.l0
      repeat' first
      | (with_reducible exact ih0 _ _ _ _)
      | (with_reducible exact ih1 _ _ _ _ _ _ _ _)
      | (with_reducible exact boscagelaw11_works.mono _)
      | (with_reducible exact word_Next.mono _ _ _ _ _)
      | (with_reducible exact LeO.refl _)
      | (with_reducible exact LeO.none _)
      | (with_reducible refine LeO.ite ?_ ?_)
      | (with_reducible refine LeO.bind ?_ (fun _ => ?_))
      | exact ih0 _ _ _ _
      | exact ih1 _ _ _ _ _ _ _ _
      | exact boscagelaw11_works.mono _
      | exact word_Next.mono _ _ _ _ _
      | exact LeO.none _
      | refine LeO.ite ?_ ?_
      | refine LeO.bind ?_ (fun _ => ?_)
theorem boscagelaw11_WordBack.mono : ∀ a0 a1 a2 a3 a4 k, LeO (boscagelaw11_WordBack.f k a0 a1 a2 a3 a4) (boscagelaw11_WordBack.f (k + 1) a0 a1 a2 a3 a4) := by
  intro a0 a1 a2 a3 a4 k
  obtain ⟨ih0, ih1⟩ := boscagelaw11_WordBack.mono_l k
  unfold boscagelaw11_WordBack.f
  repeat' first
      | (with_reducible exact ih0 _ _ _ _)
      | (with_reducible exact ih1 _ _ _ _ _ _ _ _)
      | (with_reducible exact boscagelaw11_works.mono _)
      | (with_reducible exact word_Next.mono _ _ _ _ _)
      | (with_reducible exact LeO.refl _)
      | (with_reducible exact LeO.none _)
      | (with_reducible refine LeO.ite ?_ ?_)
      | (with_reducible refine LeO.bind ?_ (fun _ => ?_))
      | exact ih0 _ _ _ _
      | exact ih1 _ _ _ _ _ _ _ _
      | exact boscagelaw11_works.mono _
      | exact word_Next.mono _ _ _ _ _
      | exact LeO.none _
      | refine LeO.ite ?_ ?_
      | refine LeO.bind ?_ (fun _ => ?_)
set_option maxHeartbeats 8000000 in
set_option maxRecDepth 100000 in
theorem boscagelaw11_WordBack.calls (k : Nat) (a0 : Int) (a1 : Int) (a2 : Int) (a3 : Int) (a4 : Int) (r : Bool) (w : World) (h : boscagelaw11_WordBack.f k a0 a1 a2 a3 a4 = some r) :
    Calls Try.prog 5 #[.int .i64 a0, .int .i64 a1, .int .u8 a2, .int .u8 a3, .int .u8 a4] w fun e w' => e = .returned (.bool r) ∧ Below w.heap.size w w' := by
  have hu24 := Try.underlying24
  have HB := Aside0.mk (Below.refl w.heap.size w)
  have H : ((boscagelaw11_works.f k).bind fun t125 => (if t125 = true then ((word_Note.f a0 a1).bind fun bt126 => ((word_Noted.f bt126.1 bt126.2.1 bt126.2.2.1).bind fun bt131 => (if bt126.2.2.2 = 0 then (if bt131.2.2 = 0 then (if bt131.1 = a0 then (boscagelaw11_WordBack.j0 k a2 a3 a4 (bt131.2.1 != a1)) else (boscagelaw11_WordBack.j0 k a2 a3 a4 true)) else (boscagelaw11_WordBack.j0 k a2 a3 a4 true)) else (boscagelaw11_WordBack.j0 k a2 a3 a4 false)))) else (some false))) = some r := h
  clear h
  replace H := Option.bind_eq_some_iff.mp H
  obtain ⟨t125, A60, H⟩ := H
  replace H : (if t125 = true then ((word_Note.f a0 a1).bind fun bt126 => ((word_Noted.f bt126.1 bt126.2.1 bt126.2.2.1).bind fun bt131 => (if bt126.2.2.2 = 0 then (if bt131.2.2 = 0 then (if bt131.1 = a0 then (boscagelaw11_WordBack.j0 k a2 a3 a4 (bt131.2.1 != a1)) else (boscagelaw11_WordBack.j0 k a2 a3 a4 true)) else (boscagelaw11_WordBack.j0 k a2 a3 a4 true)) else (boscagelaw11_WordBack.j0 k a2 a3 a4 false)))) else (some false)) = some r := H
  have A6 := Aside0.mk A60
  clear A60
  by_cases c7 : t125 = true
  · subst c7
    have H1 : ((word_Note.f a0 a1).bind fun bt126 => ((word_Noted.f bt126.1 bt126.2.1 bt126.2.2.1).bind fun bt131 => (if bt126.2.2.2 = 0 then (if bt131.2.2 = 0 then (if bt131.1 = a0 then (boscagelaw11_WordBack.j0 k a2 a3 a4 (bt131.2.1 != a1)) else (boscagelaw11_WordBack.j0 k a2 a3 a4 true)) else (boscagelaw11_WordBack.j0 k a2 a3 a4 true)) else (boscagelaw11_WordBack.j0 k a2 a3 a4 false)))) = some r := by rw [if_pos rfl] at H; exact H
    clear H
    have H := H1
    clear H1
    replace H := Option.bind_eq_some_iff.mp H
    obtain ⟨⟨t126, t127, t128, t129⟩, A80, H⟩ := H
    replace H : ((word_Noted.f t126 t127 t128).bind fun bt131 => (if t129 = 0 then (if bt131.2.2 = 0 then (if bt131.1 = a0 then (boscagelaw11_WordBack.j0 k a2 a3 a4 (bt131.2.1 != a1)) else (boscagelaw11_WordBack.j0 k a2 a3 a4 true)) else (boscagelaw11_WordBack.j0 k a2 a3 a4 true)) else (boscagelaw11_WordBack.j0 k a2 a3 a4 false))) = some r := H
    have A8 := Aside0.mk A80
    clear A80
    replace H := Option.bind_eq_some_iff.mp H
    obtain ⟨⟨t131, t132, t133⟩, A90, H⟩ := H
    replace H : (if t129 = 0 then (if t133 = 0 then (if t131 = a0 then (boscagelaw11_WordBack.j0 k a2 a3 a4 (t132 != a1)) else (boscagelaw11_WordBack.j0 k a2 a3 a4 true)) else (boscagelaw11_WordBack.j0 k a2 a3 a4 true)) else (boscagelaw11_WordBack.j0 k a2 a3 a4 false)) = some r := H
    have A9 := Aside0.mk A90
    clear A90
    have HC10 := Aside0.mk H
    clear H
    go_enter Try.func5, Try.ntmps5
    go_upto_region 5 with (first | ((with_reducible refine gate_callee (f := 18) rfl ?_); refine goesL_ (some 25) rfl rfl Try.func18 (by kernel_rfl) rfl #[] rfl (by (try simp only [List.map_toArray, List.map_cons, List.map_nil]); first | done | rfl | (simp only [List.length_drop, List.length_take]; rfl)) ?_; (with_reducible refine (boscagelaw11_works.calls k  true _ A6.out).mono ?_); rintro e w11 ⟨rfl, hb⟩; refine ⟨_, rfl, ?_⟩; have n0_ := Aside0.mk (below_step (by repeat (first | (with_reducible first | exact HB.out | apply below_alloc | apply pw_below_drewN | apply below_drew1) | exact HB.out)) hb); clear HB; have HB := n0_; clear n0_; (try clear hb); (try clear hb2); (try clear hk); (try clear hi)) | ((with_reducible refine gate_callee (f := 23) rfl ?_); refine goesL_ (some 30) rfl rfl Try.func23 (by kernel_rfl) rfl #[.int .i64 a0, .int .i64 a1] rfl (by (try simp only [List.map_toArray, List.map_cons, List.map_nil]); first | done | rfl | (simp only [List.length_drop, List.length_take]; rfl)) ?_; (with_reducible refine (word_Note.calls a0 a1 t126 t127 t128 t129 _ A8.out).mono ?_); rintro e w12 ⟨rfl, hb⟩; refine ⟨_, rfl, ?_⟩; have n0_ := Aside0.mk (below_step (by repeat (first | (with_reducible first | exact HB.out | apply below_alloc | apply pw_below_drewN | apply below_drew1) | exact HB.out)) hb); clear HB; have HB := n0_; clear n0_; (try clear hb); (try clear hb2); (try clear hk); (try clear hi)) | ((with_reducible refine gate_dst (N := 11) rfl ?_); refine box_event ?hg (N := 11) ?hd (cs := #[.int .i64 0, .int .i64 0, .int .i64 0]) (t := 24) ?hr ?_; (case hd => rfl); (case hg => rfl); (case hr => first | (go_simp; done) | (go_simp; rfl)); intro gb130 hg w13 hbox hb; have n0_ := Aside0.mk (below_step (by repeat (first | (with_reducible first | exact HB.out | apply below_alloc | apply pw_below_drewN | apply below_drew1) | exact HB.out)) hb); have n1_ := Aside0.mk (hbox); have n2_ := Aside0.mk ((by rw [hg]; exact (below_size (by repeat (first | (with_reducible first | exact HB.out | apply below_alloc | apply pw_below_drewN | apply below_drew1) | exact HB.out))) : w.heap.size ≤ gb130)); have n3_ := Aside0.mk ((by rw [hg]; exact (below_size (by repeat (first | (with_reducible first | exact HB.out | apply below_alloc | apply pw_below_drewN | apply below_drew1) | exact HB.out))) : w.heap.size ≤ gb130)); clear HB; have HB := n0_; have BK130 := n1_; have GW130 := n2_; have GE130 := n3_; clear n0_ n1_ n2_ n3_; clear hb hbox hg; have hcz14_0 : w13.cell? ⟨gb130, 0, none⟩ = some (.int .i64 0) := (blk_cell BK130.out 0).trans rfl; have hcz14_1 : w13.cell? ⟨gb130, 1, none⟩ = some (.int .i64 0) := (blk_cell BK130.out 1).trans rfl; have hcz14_2 : w13.cell? ⟨gb130, 2, none⟩ = some (.int .i64 0) := (blk_cell BK130.out 2).trans rfl; have hfz14_0 := blk_frozen BK130.out 0; have hfz14_1 := blk_frozen BK130.out 1; have hfz14_2 := blk_frozen BK130.out 2) | ((with_reducible refine gate_callee (f := 24) rfl ?_); refine goesL_ (some 35) rfl rfl Try.func24 (by kernel_rfl) rfl #[.agg #[.int .i64 t126, .int .i64 t127, .int .i64 t128]] rfl (by (try simp only [List.map_toArray, List.map_cons, List.map_nil]); first | done | rfl | (simp only [List.length_drop, List.length_take]; rfl)) ?_; (with_reducible refine (word_Noted.calls t126 t127 t128 t131 t132 t133 _ A9.out).mono ?_); rintro e w15 ⟨rfl, hb⟩; refine ⟨_, rfl, ?_⟩; have n0_ := Aside0.mk (blk_below (g := gb130) (o := .cells #[.int .i64 t126, .int .i64 t127, .int .i64 t128] 24 (0, 0)) (by (with_reducible repeat (first | refine blk_drewN ?_ _ | refine blk_drew ?_ | refine blk_alloc ?_ _)); refine blk_put (cs := #[.int .i64 t126, .int .i64 t127, .int .i64 0]) ?_ 2 _ rfl; (with_reducible repeat (first | refine blk_drewN ?_ _ | refine blk_drew ?_ | refine blk_alloc ?_ _)); refine blk_put (cs := #[.int .i64 t126, .int .i64 0, .int .i64 0]) ?_ 1 _ rfl; (with_reducible repeat (first | refine blk_drewN ?_ _ | refine blk_drew ?_ | refine blk_alloc ?_ _)); refine blk_put (cs := #[.int .i64 0, .int .i64 0, .int .i64 0]) ?_ 0 _ rfl; (with_reducible repeat (first | refine blk_drewN ?_ _ | refine blk_drew ?_ | refine blk_alloc ?_ _)); exact BK130.out) hb); have n1_ := Aside0.mk (below_step (by repeat (first | (with_reducible first | exact HB.out | apply below_alloc | apply pw_below_drewN | apply below_drew1 | refine below_set ?_ GE130.out) | exact HB.out)) hb); clear BK130; clear HB; have BK130 := n0_; have HB := n1_; clear n0_ n1_; (try clear hb); (try clear hb2); (try clear hk); (try clear hi)))
    (try simp only [Act.put, List.setIfInBounds_toArray, List.set_cons_zero, List.set_cons_succ])
    go_cut [54] (fun v54 wc => ∃ (kq : Nat) (x54_9 : Bool), v54 = .bool x54_9 ∧ Aside0 (boscagelaw11_WordBack.j0 kq a2 a3 a4 x54_9 = some r) ∧ Aside0 (kq ≤ k) ∧ Aside0 (wc.heap[gb130]? = some (.cells #[.int .i64 t126, .int .i64 t127, .int .i64 t128] 24 (0, 0))) ∧ Aside0 (Below w.heap.size w wc))
    case first =>
      have H := HC10.out
      clear HC10
      by_cases c16 : t129 = 0
      · rw [if_pos c16] at H
        have c16b0 : (t129 == 0) = true := beq_iff_eq.mpr c16
        have c16b1 : (t129 != 0) = false := bne_eq_false_iff_eq.mpr c16
        clear c16
        (first | rw [c16b0] | (simp only [i64_w, i32_w]; rw [c16b0]) | skip)
        by_cases c17 : t133 = 0
        · rw [if_pos c17] at H
          have c17b0 : (t133 == 0) = true := beq_iff_eq.mpr c17
          have c17b1 : (t133 != 0) = false := bne_eq_false_iff_eq.mpr c17
          clear c17
          by_cases c18 : t131 = a0
          · rw [if_pos c18] at H
            have c18b0 : (t131 == a0) = true := beq_iff_eq.mpr c18
            have c18b1 : (t131 != a0) = false := bne_eq_false_iff_eq.mpr c18
            clear c18
            have H' := Aside0.mk H
            clear H
            go_wp2
            go_meet
            case rel => exact ⟨_, ((t132 != a1)), (by first | rfl | (simp; done) | (simp [*]; done)), H', ⟨by first | omega | exact Nat.le_refl _⟩, ⟨by (with_reducible repeat (first | refine blk_drewN ?_ _ | refine blk_drew ?_ | refine blk_alloc ?_ _)); exact BK130.out⟩, ⟨by repeat (first | (with_reducible first | exact HB.out | apply below_alloc | apply pw_below_drewN | apply below_drew1 | refine below_set ?_ GE130.out) | exact HB.out)⟩⟩
          · rw [if_neg c18] at H
            have c18b0 : (t131 == a0) = false := beq_eq_false_iff_ne.mpr c18
            have c18b1 : (t131 != a0) = true := bne_iff_ne.mpr c18
            have H' := Aside0.mk H
            clear H
            go_wp2
            go_meet
            case rel => exact ⟨_, (true), (by first | rfl | (simp; done) | (simp [*]; done)), H', ⟨by first | omega | exact Nat.le_refl _⟩, ⟨by (with_reducible repeat (first | refine blk_drewN ?_ _ | refine blk_drew ?_ | refine blk_alloc ?_ _)); exact BK130.out⟩, ⟨by repeat (first | (with_reducible first | exact HB.out | apply below_alloc | apply pw_below_drewN | apply below_drew1 | refine below_set ?_ GE130.out) | exact HB.out)⟩⟩
        · rw [if_neg c17] at H
          have c17b0 : (t133 == 0) = false := beq_eq_false_iff_ne.mpr c17
          have c17b1 : (t133 != 0) = true := bne_iff_ne.mpr c17
          have H' := Aside0.mk H
          clear H
          go_wp2
          go_meet
          case rel => exact ⟨_, (true), (by first | rfl | (simp; done) | (simp [*]; done)), H', ⟨by first | omega | exact Nat.le_refl _⟩, ⟨by (with_reducible repeat (first | refine blk_drewN ?_ _ | refine blk_drew ?_ | refine blk_alloc ?_ _)); exact BK130.out⟩, ⟨by repeat (first | (with_reducible first | exact HB.out | apply below_alloc | apply pw_below_drewN | apply below_drew1 | refine below_set ?_ GE130.out) | exact HB.out)⟩⟩
      · rw [if_neg c16] at H
        have c16b0 : (t129 == 0) = false := beq_eq_false_iff_ne.mpr c16
        have c16b1 : (t129 != 0) = true := bne_iff_ne.mpr c16
        (first | rw [c16b0] | (simp only [i64_w, i32_w]; rw [c16b0]) | skip)
        have H' := Aside0.mk H
        clear H
        go_wp2
        go_meet
        case rel => exact ⟨_, (false), (by first | rfl | (simp; done) | (simp [*]; done)), H', ⟨by first | omega | exact Nat.le_refl _⟩, ⟨by (with_reducible repeat (first | refine blk_drewN ?_ _ | refine blk_drew ?_ | refine blk_alloc ?_ _)); exact BK130.out⟩, ⟨by repeat (first | (with_reducible first | exact HB.out | apply below_alloc | apply pw_below_drewN | apply below_drew1 | refine below_set ?_ GE130.out) | exact HB.out)⟩⟩
    case rest =>
      clear HC10
      try clear c1
      try clear c2
      try clear p2
      try clear c5
      try clear c7
      try clear c16
      try clear c16b0
      try clear c16b1
      try clear c17
      try clear c17b0
      try clear c17b1
      try clear c18
      try clear c18b0
      try clear c18b1
      try clear hcz14_0
      try clear hcz14_1
      try clear hcz14_2
      try clear hfz14_0
      try clear hfz14_1
      try clear hfz14_2
      obtain ⟨kq, x54_9, rfl, HA, HJ9, BK130, HB⟩ := hcut
      cases kq with
      | zero => exact absurd HA.out (by simp [boscagelaw11_WordBack.j0])
      | succ kj9 =>
        have H := HA.out
        clear HA
        simp only [boscagelaw11_WordBack.j0] at H
        by_cases c19 : x54_9 = true
        · subst c19
          have H1 : (some false) = some r := by rw [if_pos rfl] at H; exact H
          clear H
          have H := H1
          clear H1
          obtain rfl := Option.some.inj H
          go_wp2
          go_ret
          exact ⟨by first | rfl | (simp [errW_none, errW_some] <;> rfl) | (simp [*, errW_none, errW_some] <;> rfl), by repeat (first | (with_reducible first | exact HB.out | apply below_alloc | apply pw_below_drewN | apply below_drew1 | refine below_set ?_ GE130.out) | exact HB.out)⟩
        · replace c19 := Bool.eq_false_iff.mpr c19
          subst c19
          have H1 : (if (wrap64 (1 + (wrap64 (Int.tmod a3 16)))) = 0 then (none) else ((word_First.f (Int.tmod (wrap64 (a2)) (wrap64 (1 + (wrap64 (Int.tmod a3 16))))) (wrap64 (1 + (wrap64 (Int.tmod a3 16))))).bind fun bt134 => (boscagelaw11_WordBack.l0 kj9 a4 (wrap64 (1 + (wrap64 (Int.tmod a3 16)))) (Int.tmod (wrap64 (a2)) (wrap64 (1 + (wrap64 (Int.tmod a3 16))))) bt134.2.2.2 0 bt134.1 bt134.2.1 bt134.2.2.1))) = some r := by rw [if_neg (show ¬ (false = true) by decide)] at H; exact H
          clear H
          have H := H1
          clear H1
          by_cases c20 : (wrap64 (1 + (wrap64 (Int.tmod a3 16)))) = 0
          · rw [if_pos c20] at H
            exact absurd H (by simp)
          · rw [if_neg c20] at H
            have c20b0 : ((wrap64 (1 + (wrap64 (Int.tmod a3 16)))) == 0) = false := beq_eq_false_iff_ne.mpr c20
            have c20b1 : ((wrap64 (1 + (wrap64 (Int.tmod a3 16)))) != 0) = true := bne_iff_ne.mpr c20
            replace H := Option.bind_eq_some_iff.mp H
            obtain ⟨⟨t134, t135, t136, t137⟩, A210, H⟩ := H
            replace H : (boscagelaw11_WordBack.l0 kj9 a4 (wrap64 (1 + (wrap64 (Int.tmod a3 16)))) (Int.tmod (wrap64 (a2)) (wrap64 (1 + (wrap64 (Int.tmod a3 16))))) t137 0 t134 t135 t136) = some r := H
            have A21 := Aside0.mk A210
            clear A210
            have H' := Aside0.mk H
            clear H
            go_wp2_with (first | ((with_reducible refine gate_callee (f := 14) rfl ?_); refine goesL_ (some 66) rfl rfl Try.func14 (by kernel_rfl) rfl #[.int .i64 (Int.tmod (wrap64 (a2)) (wrap64 (1 + (wrap64 (Int.tmod a3 16))))), .int .i64 (wrap64 (1 + (wrap64 (Int.tmod a3 16))))] rfl (by (try simp only [List.map_toArray, List.map_cons, List.map_nil]); first | done | rfl | (simp only [List.length_drop, List.length_take]; rfl)) ?_; (with_reducible refine (word_First.calls (Int.tmod (wrap64 (a2)) (wrap64 (1 + (wrap64 (Int.tmod a3 16))))) (wrap64 (1 + (wrap64 (Int.tmod a3 16)))) t134 t135 t136 t137 _ A21.out).mono ?_); rintro e w22 ⟨rfl, hb⟩; refine ⟨_, rfl, ?_⟩; have n0_ := Aside0.mk (blk_below (g := gb130) (o := .cells #[.int .i64 t126, .int .i64 t127, .int .i64 t128] 24 (0, 0)) (by (with_reducible repeat (first | refine blk_drewN ?_ _ | refine blk_drew ?_ | refine blk_alloc ?_ _)); exact BK130.out) hb); have n1_ := Aside0.mk (below_step (by repeat (first | (with_reducible first | exact HB.out | apply below_alloc | apply pw_below_drewN | apply below_drew1 | refine below_set ?_ GE130.out) | exact HB.out)) hb); clear BK130; clear HB; have BK130 := n0_; have HB := n1_; clear n0_ n1_; (try clear hb); (try clear hb2); (try clear hk); (try clear hi)) | ((with_reducible refine gate_dst (N := 18) rfl ?_); refine box_event ?hg (N := 18) ?hd (cs := #[.int .i64 0, .int .i64 0, .int .i64 0]) (t := 24) ?hr ?_; (case hd => rfl); (case hg => rfl); (case hr => first | (go_simp; done) | (go_simp; rfl)); intro gb138 hg w23 hbox hb; have n0_ := Aside0.mk (blk_below (g := gb130) (o := .cells #[.int .i64 t126, .int .i64 t127, .int .i64 t128] 24 (0, 0)) (by (with_reducible repeat (first | refine blk_drewN ?_ _ | refine blk_drew ?_ | refine blk_alloc ?_ _)); exact BK130.out) hb); have n1_ := Aside0.mk (below_step (by repeat (first | (with_reducible first | exact HB.out | apply below_alloc | apply pw_below_drewN | apply below_drew1 | refine below_set ?_ GE130.out) | exact HB.out)) hb); have n2_ := Aside0.mk (hbox); have n3_ := Aside0.mk ((by rw [hg]; exact (below_size (by repeat (first | (with_reducible first | exact HB.out | apply below_alloc | apply pw_below_drewN | apply below_drew1 | refine below_set ?_ GE130.out) | exact HB.out))) : w.heap.size ≤ gb138)); have n4_ := Aside0.mk ((by rw [hg]; exact (below_size (by repeat (first | (with_reducible first | exact HB.out | apply below_alloc | apply pw_below_drewN | apply below_drew1 | refine below_set ?_ GE130.out) | exact HB.out))) : w.heap.size ≤ gb138)); have n5_ := Aside0.mk ((by rw [hg]; exact Nat.ne_of_lt (blk_lt (g := gb130) (o := .cells #[.int .i64 t126, .int .i64 t127, .int .i64 t128] 24 (0, 0)) (by (with_reducible repeat (first | refine blk_drewN ?_ _ | refine blk_drew ?_ | refine blk_alloc ?_ _)); exact BK130.out)) : gb130 ≠ gb138)); have n6_ := Aside0.mk ((by rw [hg]; exact Nat.ne_of_gt (blk_lt (g := gb130) (o := .cells #[.int .i64 t126, .int .i64 t127, .int .i64 t128] 24 (0, 0)) (by (with_reducible repeat (first | refine blk_drewN ?_ _ | refine blk_drew ?_ | refine blk_alloc ?_ _)); exact BK130.out)) : gb138 ≠ gb130)); clear BK130; clear HB; have BK130 := n0_; have HB := n1_; have BK138 := n2_; have GW138 := n3_; have GE138 := n4_; have NB130_138 := n5_; have NB138_130 := n6_; clear n0_ n1_ n2_ n3_ n4_ n5_ n6_; clear hb hbox hg; have hnb24 := NB138_130.out; have hnc24 := NB130_138.out; have hcz25_0 : w23.cell? ⟨gb138, 0, none⟩ = some (.int .i64 0) := (blk_cell BK138.out 0).trans rfl; have hcz25_1 : w23.cell? ⟨gb138, 1, none⟩ = some (.int .i64 0) := (blk_cell BK138.out 1).trans rfl; have hcz25_2 : w23.cell? ⟨gb138, 2, none⟩ = some (.int .i64 0) := (blk_cell BK138.out 2).trans rfl; have hfz25_0 := blk_frozen BK138.out 0; have hfz25_1 := blk_frozen BK138.out 1; have hfz25_2 := blk_frozen BK138.out 2))
            go_loopg [19, 20] kj9 (fun kq v19 v20 w' => ∃ (x19_2 : Int) (x20_2 : Int) (x139000_2 : Int) (x139001_2 : Int) (x139002_2 : Int), v19 = .int .i64 x19_2 ∧ v20 = .int .i64 x20_2 ∧ Aside0 (boscagelaw11_WordBack.l0 kq a4 (wrap64 (1 + (wrap64 (Int.tmod a3 16)))) (Int.tmod (wrap64 (a2)) (wrap64 (1 + (wrap64 (Int.tmod a3 16))))) x19_2 x20_2 x139000_2 x139001_2 x139002_2 = some r) ∧ Aside0 (kq ≤ kj9) ∧ Aside0 (w'.heap[gb130]? = some (.cells #[.int .i64 t126, .int .i64 t127, .int .i64 t128] 24 (0, 0))) ∧ Aside0 (w'.heap[gb138]? = some (.cells #[.int .i64 x139000_2, .int .i64 x139001_2, .int .i64 x139002_2] 24 (0, 0))) ∧ Aside0 (Below w.heap.size w w'))
            case atStart => exact ⟨(t137), (0), (t134), (t135), (t136), (by first | rfl | (simp; done) | (simp [*]; done)), (by first | rfl | (simp; done) | (simp [*]; done)), H', ⟨Nat.le_refl _⟩, ⟨by (with_reducible repeat (first | refine blk_drewN ?_ _ | refine blk_drew ?_ | refine blk_alloc ?_ _)); refine blk_far ?_ NB130_138.out _; (with_reducible repeat (first | refine blk_drewN ?_ _ | refine blk_drew ?_ | refine blk_alloc ?_ _)); refine blk_far ?_ NB130_138.out _; (with_reducible repeat (first | refine blk_drewN ?_ _ | refine blk_drew ?_ | refine blk_alloc ?_ _)); refine blk_far ?_ NB130_138.out _; (with_reducible repeat (first | refine blk_drewN ?_ _ | refine blk_drew ?_ | refine blk_alloc ?_ _)); exact BK130.out⟩, ⟨by (with_reducible repeat (first | refine blk_drewN ?_ _ | refine blk_drew ?_ | refine blk_alloc ?_ _)); refine blk_put (cs := #[.int .i64 t134, .int .i64 t135, .int .i64 0]) ?_ 2 _ rfl; (with_reducible repeat (first | refine blk_drewN ?_ _ | refine blk_drew ?_ | refine blk_alloc ?_ _)); refine blk_put (cs := #[.int .i64 t134, .int .i64 0, .int .i64 0]) ?_ 1 _ rfl; (with_reducible repeat (first | refine blk_drewN ?_ _ | refine blk_drew ?_ | refine blk_alloc ?_ _)); refine blk_put (cs := #[.int .i64 0, .int .i64 0, .int .i64 0]) ?_ 0 _ rfl; (with_reducible repeat (first | refine blk_drewN ?_ _ | refine blk_drew ?_ | refine blk_alloc ?_ _)); exact BK138.out⟩, ⟨by repeat (first | (with_reducible first | exact HB.out | apply below_alloc | apply pw_below_drewN | apply below_drew1 | refine below_set ?_ GE130.out | refine below_set ?_ GE138.out) | exact HB.out)⟩⟩
            case round =>
              clear H'
              try clear c1
              try clear c2
              try clear p2
              try clear c5
              try clear p6
              try clear c7
              try clear c14
              try clear c16
              try clear c16b0
              try clear c16b1
              try clear c17
              try clear c17b0
              try clear c17b1
              try clear c18
              try clear c18b0
              try clear c18b1
              try clear c19
              try clear c20
              try clear c20b0
              try clear c20b1
              try clear c23
              try clear c24
              try clear hcz14_0
              try clear hcz14_1
              try clear hcz14_2
              try clear hcz25_0
              try clear hcz25_1
              try clear hcz25_2
              try clear hfz14_0
              try clear hfz14_1
              try clear hfz14_2
              try clear hfz25_0
              try clear hfz25_1
              try clear hfz25_2
              try clear p2
              obtain ⟨x19_2, x20_2, x139000_2, x139001_2, x139002_2, rfl, rfl, HA, HK2, BK130, BK138, HB⟩ := hrel
              cases gk with
              | zero => exact absurd HA.out (by simp [boscagelaw11_WordBack.l0])
              | succ k2 =>
                have H := HA.out
                clear HA
                simp only [boscagelaw11_WordBack.l0] at H
                by_cases c26 : x20_2 < (wrap64 (a4))
                · rw [if_pos c26] at H
                  have c26b0 : decide (x20_2 < (wrap64 (a4))) = true := decide_eq_true c26
                  clear c26
                  replace H := Option.bind_eq_some_iff.mp H
                  obtain ⟨⟨t139, t140⟩, A270, H⟩ := H
                  replace H : ((word_Place.f t139 (wrap64 (1 + (wrap64 (Int.tmod a3 16))))).bind fun bt141 => (if x19_2 = 0 then (if t140 = 0 then (if t139 = (wrap64 ((Int.tmod (wrap64 (a2)) (wrap64 (1 + (wrap64 (Int.tmod a3 16))))) + (wrap64 (x20_2 * (wrap64 (1 + (wrap64 (Int.tmod a3 16)))))))) then (if bt141.2 = true then (if bt141.1 = (Int.tmod (wrap64 (a2)) (wrap64 (1 + (wrap64 (Int.tmod a3 16))))) then ((word_Handle.f (wrap64 (1 + (Int.tmod x20_2 3))) t139 5 x20_2).bind fun bt143 => (boscagelaw11_WordBack.l0 k2 a4 (wrap64 (1 + (wrap64 (Int.tmod a3 16)))) (Int.tmod (wrap64 (a2)) (wrap64 (1 + (wrap64 (Int.tmod a3 16))))) bt143.2.2.2 (wrap64 (x20_2 + 1)) bt143.1 bt143.2.1 bt143.2.2.1)) else (some false)) else (some false)) else (some false)) else (some false)) else (some false))) = some r := H
                  have A27 := Aside0.mk A270
                  clear A270
                  replace H := Option.bind_eq_some_iff.mp H
                  obtain ⟨⟨t141, t142⟩, A280, H⟩ := H
                  replace H : (if x19_2 = 0 then (if t140 = 0 then (if t139 = (wrap64 ((Int.tmod (wrap64 (a2)) (wrap64 (1 + (wrap64 (Int.tmod a3 16))))) + (wrap64 (x20_2 * (wrap64 (1 + (wrap64 (Int.tmod a3 16)))))))) then (if t142 = true then (if t141 = (Int.tmod (wrap64 (a2)) (wrap64 (1 + (wrap64 (Int.tmod a3 16))))) then ((word_Handle.f (wrap64 (1 + (Int.tmod x20_2 3))) t139 5 x20_2).bind fun bt143 => (boscagelaw11_WordBack.l0 k2 a4 (wrap64 (1 + (wrap64 (Int.tmod a3 16)))) (Int.tmod (wrap64 (a2)) (wrap64 (1 + (wrap64 (Int.tmod a3 16))))) bt143.2.2.2 (wrap64 (x20_2 + 1)) bt143.1 bt143.2.1 bt143.2.2.1)) else (some false)) else (some false)) else (some false)) else (some false)) else (some false)) = some r := H
                  have A28 := Aside0.mk A280
                  clear A280
                  by_cases c29 : x19_2 = 0
                  · rw [if_pos c29] at H
                    have c29b0 : (x19_2 == 0) = true := beq_iff_eq.mpr c29
                    have c29b1 : (x19_2 != 0) = false := bne_eq_false_iff_eq.mpr c29
                    clear c29
                    by_cases c30 : t140 = 0
                    · rw [if_pos c30] at H
                      have c30b0 : (t140 == 0) = true := beq_iff_eq.mpr c30
                      have c30b1 : (t140 != 0) = false := bne_eq_false_iff_eq.mpr c30
                      clear c30
                      by_cases c31 : t139 = (wrap64 ((Int.tmod (wrap64 (a2)) (wrap64 (1 + (wrap64 (Int.tmod a3 16))))) + (wrap64 (x20_2 * (wrap64 (1 + (wrap64 (Int.tmod a3 16))))))))
                      · rw [if_pos c31] at H
                        have c31b0 : (t139 == (wrap64 ((Int.tmod (wrap64 (a2)) (wrap64 (1 + (wrap64 (Int.tmod a3 16))))) + (wrap64 (x20_2 * (wrap64 (1 + (wrap64 (Int.tmod a3 16))))))))) = true := beq_iff_eq.mpr c31
                        have c31b1 : (t139 != (wrap64 ((Int.tmod (wrap64 (a2)) (wrap64 (1 + (wrap64 (Int.tmod a3 16))))) + (wrap64 (x20_2 * (wrap64 (1 + (wrap64 (Int.tmod a3 16))))))))) = false := bne_eq_false_iff_eq.mpr c31
                        clear c31
                        by_cases c32 : t142 = true
                        · subst c32
                          have H1 : (if t141 = (Int.tmod (wrap64 (a2)) (wrap64 (1 + (wrap64 (Int.tmod a3 16))))) then ((word_Handle.f (wrap64 (1 + (Int.tmod x20_2 3))) t139 5 x20_2).bind fun bt143 => (boscagelaw11_WordBack.l0 k2 a4 (wrap64 (1 + (wrap64 (Int.tmod a3 16)))) (Int.tmod (wrap64 (a2)) (wrap64 (1 + (wrap64 (Int.tmod a3 16))))) bt143.2.2.2 (wrap64 (x20_2 + 1)) bt143.1 bt143.2.1 bt143.2.2.1)) else (some false)) = some r := by rw [if_pos rfl] at H; exact H
                          clear H
                          have H := H1
                          clear H1
                          by_cases c33 : t141 = (Int.tmod (wrap64 (a2)) (wrap64 (1 + (wrap64 (Int.tmod a3 16)))))
                          · rw [if_pos c33] at H
                            have c33b0 : (t141 == (Int.tmod (wrap64 (a2)) (wrap64 (1 + (wrap64 (Int.tmod a3 16)))))) = true := beq_iff_eq.mpr c33
                            have c33b1 : (t141 != (Int.tmod (wrap64 (a2)) (wrap64 (1 + (wrap64 (Int.tmod a3 16)))))) = false := bne_eq_false_iff_eq.mpr c33
                            clear c33
                            replace H := Option.bind_eq_some_iff.mp H
                            obtain ⟨⟨t143, t144, t145, t146⟩, A340, H⟩ := H
                            replace H : (boscagelaw11_WordBack.l0 k2 a4 (wrap64 (1 + (wrap64 (Int.tmod a3 16)))) (Int.tmod (wrap64 (a2)) (wrap64 (1 + (wrap64 (Int.tmod a3 16))))) t146 (wrap64 (x20_2 + 1)) t143 t144 t145) = some r := H
                            have A34 := Aside0.mk A340
                            clear A340
                            have H' := Aside0.mk H
                            clear H
                            have hnb35 := NB138_130.out
                            have hnc35 := NB130_138.out
                            have hcz36_0 : wr.cell? ⟨gb138, 0, none⟩ = some (.int .i64 x139000_2) := (blk_cell BK138.out 0).trans rfl
                            have hcz36_1 : wr.cell? ⟨gb138, 1, none⟩ = some (.int .i64 x139001_2) := (blk_cell BK138.out 1).trans rfl
                            have hcz36_2 : wr.cell? ⟨gb138, 2, none⟩ = some (.int .i64 x139002_2) := (blk_cell BK138.out 2).trans rfl
                            have hfz36_0 := blk_frozen BK138.out 0
                            have hfz36_1 := blk_frozen BK138.out 1
                            have hfz36_2 := blk_frozen BK138.out 2
                            go_wp2_with (first | ((with_reducible refine gate_callee (f := 19) rfl ?_); refine goesL_ (some 78) rfl rfl Try.func19 (by kernel_rfl) rfl #[.agg #[.int .i64 x139000_2, .int .i64 x139001_2, .int .i64 x139002_2], .int .i64 (wrap64 (1 + (wrap64 (Int.tmod a3 16))))] rfl (by (try simp only [List.map_toArray, List.map_cons, List.map_nil]); first | done | rfl | (simp only [List.length_drop, List.length_take]; rfl)) ?_; (with_reducible refine (word_Next.calls k2 x139000_2 x139001_2 x139002_2 (wrap64 (1 + (wrap64 (Int.tmod a3 16)))) t139 t140 _ A27.out).mono ?_); rintro e w37 ⟨rfl, hb⟩; refine ⟨_, rfl, ?_⟩; have n0_ := Aside0.mk (blk_below (g := gb130) (o := .cells #[.int .i64 t126, .int .i64 t127, .int .i64 t128] 24 (0, 0)) (by (with_reducible repeat (first | refine blk_drewN ?_ _ | refine blk_drew ?_ | refine blk_alloc ?_ _)); exact BK130.out) hb); have n1_ := Aside0.mk (blk_below (g := gb138) (o := .cells #[.int .i64 x139000_2, .int .i64 x139001_2, .int .i64 x139002_2] 24 (0, 0)) (by (with_reducible repeat (first | refine blk_drewN ?_ _ | refine blk_drew ?_ | refine blk_alloc ?_ _)); exact BK138.out) hb); have n2_ := Aside0.mk (below_step (by repeat (first | (with_reducible first | exact HB.out | apply below_alloc | apply pw_below_drewN | apply below_drew1 | refine below_set ?_ GE130.out | refine below_set ?_ GE138.out) | exact HB.out)) hb); clear BK130; clear BK138; clear HB; have BK130 := n0_; have BK138 := n1_; have HB := n2_; clear n0_ n1_ n2_; (try clear hb); (try clear hb2); (try clear hk); (try clear hi)) | ((with_reducible refine gate_callee (f := 21) rfl ?_); refine goesL_ (some 84) rfl rfl Try.func21 (by kernel_rfl) rfl #[.int .i64 t139, .int .i64 (wrap64 (1 + (wrap64 (Int.tmod a3 16))))] rfl (by (try simp only [List.map_toArray, List.map_cons, List.map_nil]); first | done | rfl | (simp only [List.length_drop, List.length_take]; rfl)) ?_; (with_reducible refine (word_Place.calls t139 (wrap64 (1 + (wrap64 (Int.tmod a3 16)))) t141 true _ A28.out).mono ?_); rintro e w' ⟨rfl, ⟨nd, rfl⟩⟩; refine ⟨_, rfl, ?_⟩; (try (rw [drewN_self w37]; generalize hq_ : World.drewN w37 _ = w37; have n0_ : Aside0 (w37.heap[gb130]? = some (.cells #[.int .i64 t126, .int .i64 t127, .int .i64 t128] 24 (0, 0))) := ⟨by rw [← hq_]; exact (by (with_reducible repeat (first | refine blk_drewN ?_ _ | refine blk_drew ?_ | refine blk_alloc ?_ _)); exact BK130.out)⟩; have n1_ : Aside0 (w37.heap[gb138]? = some (.cells #[.int .i64 x139000_2, .int .i64 x139001_2, .int .i64 x139002_2] 24 (0, 0))) := ⟨by rw [← hq_]; exact (by (with_reducible repeat (first | refine blk_drewN ?_ _ | refine blk_drew ?_ | refine blk_alloc ?_ _)); exact BK138.out)⟩; have n2_ : Aside0 (Below w.heap.size w w37) := ⟨by rw [← hq_]; exact (by repeat (first | (with_reducible first | exact HB.out | apply below_alloc | apply pw_below_drewN | apply below_drew1 | refine below_set ?_ GE130.out | refine below_set ?_ GE138.out) | exact HB.out))⟩; clear BK130 BK138 HB hq_; have BK130 := n0_; have BK138 := n1_; have HB := n2_; clear n0_ n1_ n2_))) | ((with_reducible refine gate_callee (f := 11) rfl ?_); refine goesL_ (some 117) rfl rfl Try.func11 (by kernel_rfl) rfl #[.int .i64 (wrap64 (1 + (Int.tmod x20_2 3))), .int .i64 t139, .int .i64 5, .int .i64 x20_2] rfl (by (try simp only [List.map_toArray, List.map_cons, List.map_nil]); first | done | rfl | (simp only [List.length_drop, List.length_take]; rfl)) ?_; (with_reducible refine (word_Handle.calls (wrap64 (1 + (Int.tmod x20_2 3))) t139 5 x20_2 t143 t144 t145 t146 _ A34.out).mono ?_); rintro e w38 ⟨rfl, hb⟩; refine ⟨_, rfl, ?_⟩; have n0_ := Aside0.mk (blk_below (g := gb130) (o := .cells #[.int .i64 t126, .int .i64 t127, .int .i64 t128] 24 (0, 0)) (by (with_reducible repeat (first | refine blk_drewN ?_ _ | refine blk_drew ?_ | refine blk_alloc ?_ _)); exact BK130.out) hb); have n1_ := Aside0.mk (blk_below (g := gb138) (o := .cells #[.int .i64 x139000_2, .int .i64 x139001_2, .int .i64 x139002_2] 24 (0, 0)) (by (with_reducible repeat (first | refine blk_drewN ?_ _ | refine blk_drew ?_ | refine blk_alloc ?_ _)); exact BK138.out) hb); have n2_ := Aside0.mk (below_step (by repeat (first | (with_reducible first | exact HB.out | apply below_alloc | apply pw_below_drewN | apply below_drew1 | refine below_set ?_ GE130.out | refine below_set ?_ GE138.out) | exact HB.out)) hb); clear BK130; clear BK138; clear HB; have BK130 := n0_; have BK138 := n1_; have HB := n2_; clear n0_ n1_ n2_; (try clear hb); (try clear hb2); (try clear hk); (try clear hi); have hcz39_0 : w38.cell? ⟨gb138, 0, none⟩ = some (.int .i64 x139000_2) := (blk_cell BK138.out 0).trans rfl; have hcz39_1 : w38.cell? ⟨gb138, 1, none⟩ = some (.int .i64 x139001_2) := (blk_cell BK138.out 1).trans rfl; have hcz39_2 : w38.cell? ⟨gb138, 2, none⟩ = some (.int .i64 x139002_2) := (blk_cell BK138.out 2).trans rfl; have hfz39_0 := blk_frozen BK138.out 0; have hfz39_1 := blk_frozen BK138.out 1; have hfz39_2 := blk_frozen BK138.out 2))
                            go_roundg k2
                            case measure => have := HJ9.out; have := HK2.out; omega
                            case rel => exact ⟨(t146), (wrap64 (x20_2 + 1)), (t143), (t144), (t145), (by first | rfl | (simp; done) | (simp [*]; done)), (by first | rfl | (simp; done) | (simp [*]; done)), H', ⟨by have := HJ9.out; have := HK2.out; omega⟩, ⟨by (with_reducible repeat (first | refine blk_drewN ?_ _ | refine blk_drew ?_ | refine blk_alloc ?_ _)); refine blk_far ?_ NB130_138.out _; (with_reducible repeat (first | refine blk_drewN ?_ _ | refine blk_drew ?_ | refine blk_alloc ?_ _)); refine blk_far ?_ NB130_138.out _; (with_reducible repeat (first | refine blk_drewN ?_ _ | refine blk_drew ?_ | refine blk_alloc ?_ _)); refine blk_far ?_ NB130_138.out _; (with_reducible repeat (first | refine blk_drewN ?_ _ | refine blk_drew ?_ | refine blk_alloc ?_ _)); exact BK130.out⟩, ⟨by (with_reducible repeat (first | refine blk_drewN ?_ _ | refine blk_drew ?_ | refine blk_alloc ?_ _)); refine blk_put (cs := #[.int .i64 t143, .int .i64 t144, .int .i64 x139002_2]) ?_ 2 _ rfl; (with_reducible repeat (first | refine blk_drewN ?_ _ | refine blk_drew ?_ | refine blk_alloc ?_ _)); refine blk_put (cs := #[.int .i64 t143, .int .i64 x139001_2, .int .i64 x139002_2]) ?_ 1 _ rfl; (with_reducible repeat (first | refine blk_drewN ?_ _ | refine blk_drew ?_ | refine blk_alloc ?_ _)); refine blk_put (cs := #[.int .i64 x139000_2, .int .i64 x139001_2, .int .i64 x139002_2]) ?_ 0 _ rfl; (with_reducible repeat (first | refine blk_drewN ?_ _ | refine blk_drew ?_ | refine blk_alloc ?_ _)); exact BK138.out⟩, ⟨by repeat (first | (with_reducible first | exact HB.out | apply below_alloc | apply pw_below_drewN | apply below_drew1 | refine below_set ?_ GE130.out | refine below_set ?_ GE138.out) | exact HB.out)⟩⟩
                          · rw [if_neg c33] at H
                            have c33b0 : (t141 == (Int.tmod (wrap64 (a2)) (wrap64 (1 + (wrap64 (Int.tmod a3 16)))))) = false := beq_eq_false_iff_ne.mpr c33
                            have c33b1 : (t141 != (Int.tmod (wrap64 (a2)) (wrap64 (1 + (wrap64 (Int.tmod a3 16)))))) = true := bne_iff_ne.mpr c33
                            obtain rfl := Option.some.inj H
                            have hnb40 := NB138_130.out
                            have hnc40 := NB130_138.out
                            have hcz41_0 : wr.cell? ⟨gb138, 0, none⟩ = some (.int .i64 x139000_2) := (blk_cell BK138.out 0).trans rfl
                            have hcz41_1 : wr.cell? ⟨gb138, 1, none⟩ = some (.int .i64 x139001_2) := (blk_cell BK138.out 1).trans rfl
                            have hcz41_2 : wr.cell? ⟨gb138, 2, none⟩ = some (.int .i64 x139002_2) := (blk_cell BK138.out 2).trans rfl
                            have hfz41_0 := blk_frozen BK138.out 0
                            have hfz41_1 := blk_frozen BK138.out 1
                            have hfz41_2 := blk_frozen BK138.out 2
                            go_wp2_with (first | ((with_reducible refine gate_callee (f := 19) rfl ?_); refine goesL_ (some 78) rfl rfl Try.func19 (by kernel_rfl) rfl #[.agg #[.int .i64 x139000_2, .int .i64 x139001_2, .int .i64 x139002_2], .int .i64 (wrap64 (1 + (wrap64 (Int.tmod a3 16))))] rfl (by (try simp only [List.map_toArray, List.map_cons, List.map_nil]); first | done | rfl | (simp only [List.length_drop, List.length_take]; rfl)) ?_; (with_reducible refine (word_Next.calls k2 x139000_2 x139001_2 x139002_2 (wrap64 (1 + (wrap64 (Int.tmod a3 16)))) t139 t140 _ A27.out).mono ?_); rintro e w42 ⟨rfl, hb⟩; refine ⟨_, rfl, ?_⟩; have n0_ := Aside0.mk (blk_below (g := gb130) (o := .cells #[.int .i64 t126, .int .i64 t127, .int .i64 t128] 24 (0, 0)) (by (with_reducible repeat (first | refine blk_drewN ?_ _ | refine blk_drew ?_ | refine blk_alloc ?_ _)); exact BK130.out) hb); have n1_ := Aside0.mk (blk_below (g := gb138) (o := .cells #[.int .i64 x139000_2, .int .i64 x139001_2, .int .i64 x139002_2] 24 (0, 0)) (by (with_reducible repeat (first | refine blk_drewN ?_ _ | refine blk_drew ?_ | refine blk_alloc ?_ _)); exact BK138.out) hb); have n2_ := Aside0.mk (below_step (by repeat (first | (with_reducible first | exact HB.out | apply below_alloc | apply pw_below_drewN | apply below_drew1 | refine below_set ?_ GE130.out | refine below_set ?_ GE138.out) | exact HB.out)) hb); clear BK130; clear BK138; clear HB; have BK130 := n0_; have BK138 := n1_; have HB := n2_; clear n0_ n1_ n2_; (try clear hb); (try clear hb2); (try clear hk); (try clear hi)) | ((with_reducible refine gate_callee (f := 21) rfl ?_); refine goesL_ (some 84) rfl rfl Try.func21 (by kernel_rfl) rfl #[.int .i64 t139, .int .i64 (wrap64 (1 + (wrap64 (Int.tmod a3 16))))] rfl (by (try simp only [List.map_toArray, List.map_cons, List.map_nil]); first | done | rfl | (simp only [List.length_drop, List.length_take]; rfl)) ?_; (with_reducible refine (word_Place.calls t139 (wrap64 (1 + (wrap64 (Int.tmod a3 16)))) t141 true _ A28.out).mono ?_); rintro e w' ⟨rfl, ⟨nd, rfl⟩⟩; refine ⟨_, rfl, ?_⟩))
                            go_ret
                            exact ⟨by first | rfl | (simp [errW_none, errW_some] <;> rfl) | (simp [*, errW_none, errW_some] <;> rfl), by repeat (first | (with_reducible first | exact HB.out | apply below_alloc | apply pw_below_drewN | apply below_drew1 | refine below_set ?_ GE130.out | refine below_set ?_ GE138.out) | exact HB.out)⟩
                        · replace c32 := Bool.eq_false_iff.mpr c32
                          subst c32
                          have H1 : (some false) = some r := by rw [if_neg (show ¬ (false = true) by decide)] at H; exact H
                          clear H
                          have H := H1
                          clear H1
                          obtain rfl := Option.some.inj H
                          have hnb43 := NB138_130.out
                          have hnc43 := NB130_138.out
                          have hcz44_0 : wr.cell? ⟨gb138, 0, none⟩ = some (.int .i64 x139000_2) := (blk_cell BK138.out 0).trans rfl
                          have hcz44_1 : wr.cell? ⟨gb138, 1, none⟩ = some (.int .i64 x139001_2) := (blk_cell BK138.out 1).trans rfl
                          have hcz44_2 : wr.cell? ⟨gb138, 2, none⟩ = some (.int .i64 x139002_2) := (blk_cell BK138.out 2).trans rfl
                          have hfz44_0 := blk_frozen BK138.out 0
                          have hfz44_1 := blk_frozen BK138.out 1
                          have hfz44_2 := blk_frozen BK138.out 2
                          go_wp2_with (first | ((with_reducible refine gate_callee (f := 19) rfl ?_); refine goesL_ (some 78) rfl rfl Try.func19 (by kernel_rfl) rfl #[.agg #[.int .i64 x139000_2, .int .i64 x139001_2, .int .i64 x139002_2], .int .i64 (wrap64 (1 + (wrap64 (Int.tmod a3 16))))] rfl (by (try simp only [List.map_toArray, List.map_cons, List.map_nil]); first | done | rfl | (simp only [List.length_drop, List.length_take]; rfl)) ?_; (with_reducible refine (word_Next.calls k2 x139000_2 x139001_2 x139002_2 (wrap64 (1 + (wrap64 (Int.tmod a3 16)))) t139 t140 _ A27.out).mono ?_); rintro e w45 ⟨rfl, hb⟩; refine ⟨_, rfl, ?_⟩; have n0_ := Aside0.mk (blk_below (g := gb130) (o := .cells #[.int .i64 t126, .int .i64 t127, .int .i64 t128] 24 (0, 0)) (by (with_reducible repeat (first | refine blk_drewN ?_ _ | refine blk_drew ?_ | refine blk_alloc ?_ _)); exact BK130.out) hb); have n1_ := Aside0.mk (blk_below (g := gb138) (o := .cells #[.int .i64 x139000_2, .int .i64 x139001_2, .int .i64 x139002_2] 24 (0, 0)) (by (with_reducible repeat (first | refine blk_drewN ?_ _ | refine blk_drew ?_ | refine blk_alloc ?_ _)); exact BK138.out) hb); have n2_ := Aside0.mk (below_step (by repeat (first | (with_reducible first | exact HB.out | apply below_alloc | apply pw_below_drewN | apply below_drew1 | refine below_set ?_ GE130.out | refine below_set ?_ GE138.out) | exact HB.out)) hb); clear BK130; clear BK138; clear HB; have BK130 := n0_; have BK138 := n1_; have HB := n2_; clear n0_ n1_ n2_; (try clear hb); (try clear hb2); (try clear hk); (try clear hi)) | ((with_reducible refine gate_callee (f := 21) rfl ?_); refine goesL_ (some 84) rfl rfl Try.func21 (by kernel_rfl) rfl #[.int .i64 t139, .int .i64 (wrap64 (1 + (wrap64 (Int.tmod a3 16))))] rfl (by (try simp only [List.map_toArray, List.map_cons, List.map_nil]); first | done | rfl | (simp only [List.length_drop, List.length_take]; rfl)) ?_; (with_reducible refine (word_Place.calls t139 (wrap64 (1 + (wrap64 (Int.tmod a3 16)))) t141 false _ A28.out).mono ?_); rintro e w' ⟨rfl, ⟨nd, rfl⟩⟩; refine ⟨_, rfl, ?_⟩))
                          go_ret
                          exact ⟨by first | rfl | (simp [errW_none, errW_some] <;> rfl) | (simp [*, errW_none, errW_some] <;> rfl), by repeat (first | (with_reducible first | exact HB.out | apply below_alloc | apply pw_below_drewN | apply below_drew1 | refine below_set ?_ GE130.out | refine below_set ?_ GE138.out) | exact HB.out)⟩
                      · rw [if_neg c31] at H
                        have c31b0 : (t139 == (wrap64 ((Int.tmod (wrap64 (a2)) (wrap64 (1 + (wrap64 (Int.tmod a3 16))))) + (wrap64 (x20_2 * (wrap64 (1 + (wrap64 (Int.tmod a3 16))))))))) = false := beq_eq_false_iff_ne.mpr c31
                        have c31b1 : (t139 != (wrap64 ((Int.tmod (wrap64 (a2)) (wrap64 (1 + (wrap64 (Int.tmod a3 16))))) + (wrap64 (x20_2 * (wrap64 (1 + (wrap64 (Int.tmod a3 16))))))))) = true := bne_iff_ne.mpr c31
                        obtain rfl := Option.some.inj H
                        have hnb46 := NB138_130.out
                        have hnc46 := NB130_138.out
                        have hcz47_0 : wr.cell? ⟨gb138, 0, none⟩ = some (.int .i64 x139000_2) := (blk_cell BK138.out 0).trans rfl
                        have hcz47_1 : wr.cell? ⟨gb138, 1, none⟩ = some (.int .i64 x139001_2) := (blk_cell BK138.out 1).trans rfl
                        have hcz47_2 : wr.cell? ⟨gb138, 2, none⟩ = some (.int .i64 x139002_2) := (blk_cell BK138.out 2).trans rfl
                        have hfz47_0 := blk_frozen BK138.out 0
                        have hfz47_1 := blk_frozen BK138.out 1
                        have hfz47_2 := blk_frozen BK138.out 2
                        go_wp2_with (first | ((with_reducible refine gate_callee (f := 19) rfl ?_); refine goesL_ (some 78) rfl rfl Try.func19 (by kernel_rfl) rfl #[.agg #[.int .i64 x139000_2, .int .i64 x139001_2, .int .i64 x139002_2], .int .i64 (wrap64 (1 + (wrap64 (Int.tmod a3 16))))] rfl (by (try simp only [List.map_toArray, List.map_cons, List.map_nil]); first | done | rfl | (simp only [List.length_drop, List.length_take]; rfl)) ?_; (with_reducible refine (word_Next.calls k2 x139000_2 x139001_2 x139002_2 (wrap64 (1 + (wrap64 (Int.tmod a3 16)))) t139 t140 _ A27.out).mono ?_); rintro e w48 ⟨rfl, hb⟩; refine ⟨_, rfl, ?_⟩; have n0_ := Aside0.mk (blk_below (g := gb130) (o := .cells #[.int .i64 t126, .int .i64 t127, .int .i64 t128] 24 (0, 0)) (by (with_reducible repeat (first | refine blk_drewN ?_ _ | refine blk_drew ?_ | refine blk_alloc ?_ _)); exact BK130.out) hb); have n1_ := Aside0.mk (blk_below (g := gb138) (o := .cells #[.int .i64 x139000_2, .int .i64 x139001_2, .int .i64 x139002_2] 24 (0, 0)) (by (with_reducible repeat (first | refine blk_drewN ?_ _ | refine blk_drew ?_ | refine blk_alloc ?_ _)); exact BK138.out) hb); have n2_ := Aside0.mk (below_step (by repeat (first | (with_reducible first | exact HB.out | apply below_alloc | apply pw_below_drewN | apply below_drew1 | refine below_set ?_ GE130.out | refine below_set ?_ GE138.out) | exact HB.out)) hb); clear BK130; clear BK138; clear HB; have BK130 := n0_; have BK138 := n1_; have HB := n2_; clear n0_ n1_ n2_; (try clear hb); (try clear hb2); (try clear hk); (try clear hi)) | ((with_reducible refine gate_callee (f := 21) rfl ?_); refine goesL_ (some 84) rfl rfl Try.func21 (by kernel_rfl) rfl #[.int .i64 t139, .int .i64 (wrap64 (1 + (wrap64 (Int.tmod a3 16))))] rfl (by (try simp only [List.map_toArray, List.map_cons, List.map_nil]); first | done | rfl | (simp only [List.length_drop, List.length_take]; rfl)) ?_; (with_reducible refine (word_Place.calls t139 (wrap64 (1 + (wrap64 (Int.tmod a3 16)))) t141 t142 _ A28.out).mono ?_); rintro e w' ⟨rfl, ⟨nd, rfl⟩⟩; refine ⟨_, rfl, ?_⟩))
                        go_ret
                        exact ⟨by first | rfl | (simp [errW_none, errW_some] <;> rfl) | (simp [*, errW_none, errW_some] <;> rfl), by repeat (first | (with_reducible first | exact HB.out | apply below_alloc | apply pw_below_drewN | apply below_drew1 | refine below_set ?_ GE130.out | refine below_set ?_ GE138.out) | exact HB.out)⟩
                    · rw [if_neg c30] at H
                      have c30b0 : (t140 == 0) = false := beq_eq_false_iff_ne.mpr c30
                      have c30b1 : (t140 != 0) = true := bne_iff_ne.mpr c30
                      obtain rfl := Option.some.inj H
                      have hnb49 := NB138_130.out
                      have hnc49 := NB130_138.out
                      have hcz50_0 : wr.cell? ⟨gb138, 0, none⟩ = some (.int .i64 x139000_2) := (blk_cell BK138.out 0).trans rfl
                      have hcz50_1 : wr.cell? ⟨gb138, 1, none⟩ = some (.int .i64 x139001_2) := (blk_cell BK138.out 1).trans rfl
                      have hcz50_2 : wr.cell? ⟨gb138, 2, none⟩ = some (.int .i64 x139002_2) := (blk_cell BK138.out 2).trans rfl
                      have hfz50_0 := blk_frozen BK138.out 0
                      have hfz50_1 := blk_frozen BK138.out 1
                      have hfz50_2 := blk_frozen BK138.out 2
                      go_wp2_with (first | ((with_reducible refine gate_callee (f := 19) rfl ?_); refine goesL_ (some 78) rfl rfl Try.func19 (by kernel_rfl) rfl #[.agg #[.int .i64 x139000_2, .int .i64 x139001_2, .int .i64 x139002_2], .int .i64 (wrap64 (1 + (wrap64 (Int.tmod a3 16))))] rfl (by (try simp only [List.map_toArray, List.map_cons, List.map_nil]); first | done | rfl | (simp only [List.length_drop, List.length_take]; rfl)) ?_; (with_reducible refine (word_Next.calls k2 x139000_2 x139001_2 x139002_2 (wrap64 (1 + (wrap64 (Int.tmod a3 16)))) t139 t140 _ A27.out).mono ?_); rintro e w51 ⟨rfl, hb⟩; refine ⟨_, rfl, ?_⟩; have n0_ := Aside0.mk (blk_below (g := gb130) (o := .cells #[.int .i64 t126, .int .i64 t127, .int .i64 t128] 24 (0, 0)) (by (with_reducible repeat (first | refine blk_drewN ?_ _ | refine blk_drew ?_ | refine blk_alloc ?_ _)); exact BK130.out) hb); have n1_ := Aside0.mk (blk_below (g := gb138) (o := .cells #[.int .i64 x139000_2, .int .i64 x139001_2, .int .i64 x139002_2] 24 (0, 0)) (by (with_reducible repeat (first | refine blk_drewN ?_ _ | refine blk_drew ?_ | refine blk_alloc ?_ _)); exact BK138.out) hb); have n2_ := Aside0.mk (below_step (by repeat (first | (with_reducible first | exact HB.out | apply below_alloc | apply pw_below_drewN | apply below_drew1 | refine below_set ?_ GE130.out | refine below_set ?_ GE138.out) | exact HB.out)) hb); clear BK130; clear BK138; clear HB; have BK130 := n0_; have BK138 := n1_; have HB := n2_; clear n0_ n1_ n2_; (try clear hb); (try clear hb2); (try clear hk); (try clear hi)) | ((with_reducible refine gate_callee (f := 21) rfl ?_); refine goesL_ (some 84) rfl rfl Try.func21 (by kernel_rfl) rfl #[.int .i64 t139, .int .i64 (wrap64 (1 + (wrap64 (Int.tmod a3 16))))] rfl (by (try simp only [List.map_toArray, List.map_cons, List.map_nil]); first | done | rfl | (simp only [List.length_drop, List.length_take]; rfl)) ?_; (with_reducible refine (word_Place.calls t139 (wrap64 (1 + (wrap64 (Int.tmod a3 16)))) t141 t142 _ A28.out).mono ?_); rintro e w' ⟨rfl, ⟨nd, rfl⟩⟩; refine ⟨_, rfl, ?_⟩))
                      go_ret
                      exact ⟨by first | rfl | (simp [errW_none, errW_some] <;> rfl) | (simp [*, errW_none, errW_some] <;> rfl), by repeat (first | (with_reducible first | exact HB.out | apply below_alloc | apply pw_below_drewN | apply below_drew1 | refine below_set ?_ GE130.out | refine below_set ?_ GE138.out) | exact HB.out)⟩
                  · rw [if_neg c29] at H
                    have c29b0 : (x19_2 == 0) = false := beq_eq_false_iff_ne.mpr c29
                    have c29b1 : (x19_2 != 0) = true := bne_iff_ne.mpr c29
                    obtain rfl := Option.some.inj H
                    have hnb52 := NB138_130.out
                    have hnc52 := NB130_138.out
                    have hcz53_0 : wr.cell? ⟨gb138, 0, none⟩ = some (.int .i64 x139000_2) := (blk_cell BK138.out 0).trans rfl
                    have hcz53_1 : wr.cell? ⟨gb138, 1, none⟩ = some (.int .i64 x139001_2) := (blk_cell BK138.out 1).trans rfl
                    have hcz53_2 : wr.cell? ⟨gb138, 2, none⟩ = some (.int .i64 x139002_2) := (blk_cell BK138.out 2).trans rfl
                    have hfz53_0 := blk_frozen BK138.out 0
                    have hfz53_1 := blk_frozen BK138.out 1
                    have hfz53_2 := blk_frozen BK138.out 2
                    go_wp2_with (first | ((with_reducible refine gate_callee (f := 19) rfl ?_); refine goesL_ (some 78) rfl rfl Try.func19 (by kernel_rfl) rfl #[.agg #[.int .i64 x139000_2, .int .i64 x139001_2, .int .i64 x139002_2], .int .i64 (wrap64 (1 + (wrap64 (Int.tmod a3 16))))] rfl (by (try simp only [List.map_toArray, List.map_cons, List.map_nil]); first | done | rfl | (simp only [List.length_drop, List.length_take]; rfl)) ?_; (with_reducible refine (word_Next.calls k2 x139000_2 x139001_2 x139002_2 (wrap64 (1 + (wrap64 (Int.tmod a3 16)))) t139 t140 _ A27.out).mono ?_); rintro e w54 ⟨rfl, hb⟩; refine ⟨_, rfl, ?_⟩; have n0_ := Aside0.mk (blk_below (g := gb130) (o := .cells #[.int .i64 t126, .int .i64 t127, .int .i64 t128] 24 (0, 0)) (by (with_reducible repeat (first | refine blk_drewN ?_ _ | refine blk_drew ?_ | refine blk_alloc ?_ _)); exact BK130.out) hb); have n1_ := Aside0.mk (blk_below (g := gb138) (o := .cells #[.int .i64 x139000_2, .int .i64 x139001_2, .int .i64 x139002_2] 24 (0, 0)) (by (with_reducible repeat (first | refine blk_drewN ?_ _ | refine blk_drew ?_ | refine blk_alloc ?_ _)); exact BK138.out) hb); have n2_ := Aside0.mk (below_step (by repeat (first | (with_reducible first | exact HB.out | apply below_alloc | apply pw_below_drewN | apply below_drew1 | refine below_set ?_ GE130.out | refine below_set ?_ GE138.out) | exact HB.out)) hb); clear BK130; clear BK138; clear HB; have BK130 := n0_; have BK138 := n1_; have HB := n2_; clear n0_ n1_ n2_; (try clear hb); (try clear hb2); (try clear hk); (try clear hi)) | ((with_reducible refine gate_callee (f := 21) rfl ?_); refine goesL_ (some 84) rfl rfl Try.func21 (by kernel_rfl) rfl #[.int .i64 t139, .int .i64 (wrap64 (1 + (wrap64 (Int.tmod a3 16))))] rfl (by (try simp only [List.map_toArray, List.map_cons, List.map_nil]); first | done | rfl | (simp only [List.length_drop, List.length_take]; rfl)) ?_; (with_reducible refine (word_Place.calls t139 (wrap64 (1 + (wrap64 (Int.tmod a3 16)))) t141 t142 _ A28.out).mono ?_); rintro e w' ⟨rfl, ⟨nd, rfl⟩⟩; refine ⟨_, rfl, ?_⟩))
                    go_ret
                    exact ⟨by first | rfl | (simp [errW_none, errW_some] <;> rfl) | (simp [*, errW_none, errW_some] <;> rfl), by repeat (first | (with_reducible first | exact HB.out | apply below_alloc | apply pw_below_drewN | apply below_drew1 | refine below_set ?_ GE130.out | refine below_set ?_ GE138.out) | exact HB.out)⟩
                · rw [if_neg c26] at H
                  have c26b0 : decide (x20_2 < (wrap64 (a4))) = false := decide_eq_false c26
                  clear c26
                  obtain rfl := Option.some.inj H
                  go_wp2
                  go_ret
                  exact ⟨by first | rfl | (simp [errW_none, errW_some] <;> rfl) | (simp [*, errW_none, errW_some] <;> rfl), by repeat (first | (with_reducible first | exact HB.out | apply below_alloc | apply pw_below_drewN | apply below_drew1 | refine below_set ?_ GE130.out | refine below_set ?_ GE138.out) | exact HB.out)⟩
  · replace c7 := Bool.eq_false_iff.mpr c7
    subst c7
    have H1 : (some false) = some r := by rw [if_neg (show ¬ (false = true) by decide)] at H; exact H
    clear H
    have H := H1
    clear H1
    obtain rfl := Option.some.inj H
    go_enter Try.func5, Try.ntmps5
    go_wp2_with (first | ((with_reducible refine gate_callee (f := 18) rfl ?_); refine goesL_ (some 25) rfl rfl Try.func18 (by kernel_rfl) rfl #[] rfl (by (try simp only [List.map_toArray, List.map_cons, List.map_nil]); first | done | rfl | (simp only [List.length_drop, List.length_take]; rfl)) ?_; (with_reducible refine (boscagelaw11_works.calls k  false _ A6.out).mono ?_); rintro e w55 ⟨rfl, hb⟩; refine ⟨_, rfl, ?_⟩; have n0_ := Aside0.mk (below_step (by repeat (first | (with_reducible first | exact HB.out | apply below_alloc | apply pw_below_drewN | apply below_drew1) | exact HB.out)) hb); clear HB; have HB := n0_; clear n0_; (try clear hb); (try clear hb2); (try clear hk); (try clear hi)))
    go_ret
    exact ⟨by first | rfl | (simp [errW_none, errW_some] <;> rfl) | (simp [*, errW_none, errW_some] <;> rfl), by repeat (first | (with_reducible first | exact HB.out | apply below_alloc | apply pw_below_drewN | apply below_drew1) | exact HB.out)⟩

/-- THE ONE PURE STATEMENT of boscagelaw11_WordBack: yours. -/
def boscagelaw11_WordBack.Pure : Prop := ∀ (a0 : Int) (a1 : Int) (a2 : Int) (a3 : Int) (a4 : Int), (Lit.int .i64 a0).wf = true → (Lit.int .i64 a1).wf = true → (Lit.int .u8 a2).wf = true → (Lit.int .u8 a3).wf = true → (Lit.int .u8 a4).wf = true → ∃ k, boscagelaw11_WordBack.f k a0 a1 a2 a3 a4 = some true
theorem boscagelaw11_WordBack.walk (P : boscagelaw11_WordBack.Pure) (a0 : Int) (a1 : Int) (a2 : Int) (a3 : Int) (a4 : Int) (w : World) (w0 : (Lit.int .i64 a0).wf = true) (w1 : (Lit.int .i64 a1).wf = true) (w2 : (Lit.int .u8 a2).wf = true) (w3 : (Lit.int .u8 a3).wf = true) (w4 : (Lit.int .u8 a4).wf = true) :
    Calls Try.prog 5 #[.int .i64 a0, .int .i64 a1, .int .u8 a2, .int .u8 a3, .int .u8 a4] w fun e w' => e = .returned (.bool true) ∧ Below w.heap.size w w' := by
  obtain ⟨k, h⟩ := P a0 a1 a2 a3 a4 w0 w1 w2 w3 w4
  refine (boscagelaw11_WordBack.calls k a0 a1 a2 a3 a4 true w h).mono ?_
  rintro e w' ⟨rfl, hd⟩
  exact ⟨rfl, hd⟩

end Go.Proofs.Ytbbdhefipbepdaa.PWordBack
