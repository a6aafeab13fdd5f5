-- printed by a program of the session (wip/hyb/mkprint.py)
import Derived.Test.YthnococjdeafhaaDoorPModelKeepsx0
import Derived.Test.YthnococjdeafhaaDoorPModelKeepsx3
namespace Go.Proofs.YthnococjdeafhaaDoor.PModelKeeps
open Go.RowKit Go.Proofs.YthnococjdeafhaaDoorW.PrintWords Go.Proofs.YthnococjdeafhaaDoorW.PrintLast Go.Proofs.YthnococjdeafhaaDoorW.PrintMore
attribute [local go_sem] max2_int min2_int max_two min_two max_three min_three max_four min_four   -- for this text's walks alone
set_option linter.unusedVariables false
set_option linter.unusedSimpArgs false

/-! ### boscagelaw31_Give: function 10 -/
def boscagelaw31_Give.l0 : Nat → Int → List (S65) → List (S61) → List (S65) → List (S72) → Option ((List (S65)) × (List (S72)))
  | 0, _, _, _, _, _ => none
  | k + 1, x4, x131000, x131001, x136000, x136001 => if x4 < (x131001.length : Int) then (if 0 ≤ x4 then ((boscagelaw07_Few.f k ((rd_T61 x131001 x4).f1)).bind fun t138 => (if x136001.length < 4398046511104 then (boscagelaw31_Give.l0 k (wrap64 (x4 + 1)) x131000 x131001 x136000 (x136001 ++ [(⟨(rd_T61 x131001 x4).f0, t138⟩ : S72)])) else (none))) else (none)) else (some (x136000, x136001))
def boscagelaw31_Give.f (k : Nat) (l0_0 : List (S65)) (l0_1 : List (S61)) : Option ((List (S65)) × (List (S72))) := (boscagelaw07_Few.f k l0_0).bind fun t132 => (boscagelaw31_Give.l0 k 0 l0_0 l0_1 t132 ([] : List (S72)))
def boscagelaw31_Give.T5 : Bool × List (List Nat × List Nat) := (true, [([], []), ([0], [0]), ([], []), ([2], [2]), ([], []), ([3, 4], [3, 4]), ([5], [5]), ([6], [6]), ([], []), ([8], [8]), ([], []), ([9, 10], [9, 10]), ([11], [11]), ([12], [12]), ([13], [13]), ([7, 14], [7, 14]), ([15], [15]), ([1, 16, 14], [1, 16]), ([0, 1, 2, 3, 4, 5, 6, 7, 8, 9, 10, 11, 12, 13, 14, 15, 16, 17], []), ([18, 17, 17, 0, 1, 2, 3, 4, 5, 6, 7, 8, 9, 10, 11, 12, 13, 14, 15, 16, 17], [17, 18])])
def boscagelaw31_Give.B5 : List Nat := [0, 1, 0, 4, 0, 28, 60, 124, 0, 256, 0, 1792, 3840, 7936, 16128, 32764, 65532, 131071, 262143, 524287]
theorem boscagelaw31_Give.tab5 : rtab .any (opsOf Tryd.f10 5) = boscagelaw31_Give.T5 := by kernel_rfl
theorem boscagelaw31_Give.bits5 : waitsOk boscagelaw31_Give.T5.2 boscagelaw31_Give.B5 = true := by kernel_rfl
set_option maxHeartbeats 8000000 in
set_option maxRecDepth 100000 in
theorem boscagelaw31_Give.calls (k : Nat) (A0_0 : Option Addr) (c0_0 : Nat) (l0_0 : List (S65)) (A0_1 : Option Addr) (c0_1 : Nat) (l0_1 : List (S61)) (r1 : List (S65)) (r2 : List (S72)) (w : World) (hr0_0 : Kd.C k65 w A0_0 l0_0.length l0_0) (hc0_0 : l0_0.length ≤ c0_0) (hr0_1 : Kd.C k61 w A0_1 l0_1.length l0_1) (hc0_1 : l0_1.length ≤ c0_1) (h : boscagelaw31_Give.f k l0_0 l0_1 = some (r1, r2)) :
    Calls Tryd.prog 10 #[.agg #[.slice A0_0 l0_0.length c0_0, .slice A0_1 l0_1.length c0_1]] w fun e w' => ∃ v0_ v1_ : Value, e = .returned (.agg #[v0_, v1_]) ∧ Kd.R k65 65 w' w.heap.size (fun _ => True) v0_ r1 ∧ Kd.S k72 72 w' w.heap.size (fun k_ => some k_ ≠ (v0_ : Value).ownBlock) v1_ r2 ∧ Below w.heap.size w w' := by
  have hu27 := Tryd.underlying27
  have hu39 := Tryd.underlying39
  have hu72 := Tryd.underlying72
  have HR0_0 := zX hr0_0
  have HC0_0 := zX hc0_0
  clear hr0_0 hc0_0
  have HR0_1 := zX hr0_1
  have HC0_1 := zX hc0_1
  clear hr0_1 hc0_1
  have HB := zX (zi w.heap.size w)
  have H : ((boscagelaw07_Few.f k l0_0).bind fun t132 => (boscagelaw31_Give.l0 k 0 l0_0 l0_1 t132 ([] : List (S72)))) = some (r1, r2) := h
  clear h
  replace H := Option.bind_eq_some_iff.mp H
  obtain ⟨t132, A20, H⟩ := H
  replace H : (boscagelaw31_Give.l0 k 0 l0_0 l0_1 t132 ([] : List (S72))) = some (r1, r2) := H
  have A2 := zX A20
  clear A20
  have H' := zX H
  clear H
  go_enter Tryd.func10, Tryd.ntmps10
  go_wp2_with (first | ((with_reducible refine gate_dst (N := 1) rfl ?_); refine box_event ?hg (N := 1) ?hd (cs := #[.slice A0_0 l0_0.length c0_0, .slice A0_1 l0_1.length c0_1]) (t := 27) ?hr ?_; (case hd => rfl); (case hg => rfl); (case hr => first | (go_simp; done) | (go_simp; rfl)); intro gb130 hg w3 hbox hb; have n0_ := zX (zT (by repeat (first | (with_reducible first | exact HB.out | apply zF | apply zE | apply zG) | exact HB.out)) hb); have n1_ := zX (hbox); have n2_ := zX ((by rw [hg]; exact (zY (by repeat (first | (with_reducible first | exact HB.out | apply zF | apply zE | apply zG) | exact HB.out))) : w.heap.size ≤ gb130)); have n3_ := zX ((by rw [hg]; exact (zY (by repeat (first | (with_reducible first | exact HB.out | apply zF | apply zE | apply zG) | exact HB.out))) : w.heap.size ≤ gb130)); clear HB; have HB := n0_; have BK130 := n1_; have GW130 := n2_; have GE130 := n3_; clear n0_ n1_ n2_ n3_; clear hb hbox hg) | ((with_reducible refine gate_dst (N := 2) rfl ?_); refine box_event ?hg (N := 2) ?hd (cs := #[.slice none 0 0, .slice none 0 0]) (t := 39) ?hr ?_; (case hd => rfl); (case hg => rfl); (case hr => first | (go_simp; done) | (go_simp; rfl)); intro gb131 hg w4 hbox hb; have n0_ := zX (zm (g := gb130) (o := .cells #[.slice A0_0 l0_0.length c0_0, .slice A0_1 l0_1.length c0_1] 27 (0, 0)) (by (with_reducible repeat (first | refine zL ?_ _ | refine zM ?_ | refine zJ ?_ _)); exact BK130.out) hb); have n1_ := zX (zT (by repeat (first | (with_reducible first | exact HB.out | apply zF | apply zE | apply zG | refine zK ?_ GE130.out) | exact HB.out)) hb); have n2_ := zX (hbox); have n3_ := zX ((by rw [hg]; exact (zY (by repeat (first | (with_reducible first | exact HB.out | apply zF | apply zE | apply zG | refine zK ?_ GE130.out) | exact HB.out))) : w.heap.size ≤ gb131)); have n4_ := zX ((by rw [hg]; exact (zY (by repeat (first | (with_reducible first | exact HB.out | apply zF | apply zE | apply zG | refine zK ?_ GE130.out) | exact HB.out))) : w.heap.size ≤ gb131)); have n5_ := zX ((by rw [hg]; exact Nat.ne_of_lt (blk_lt (g := gb130) (o := .cells #[.slice A0_0 l0_0.length c0_0, .slice A0_1 l0_1.length c0_1] 27 (0, 0)) (by (with_reducible repeat (first | refine zL ?_ _ | refine zM ?_ | refine zJ ?_ _)); exact BK130.out)) : gb130 ≠ gb131)); have n6_ := zX ((by rw [hg]; exact Nat.ne_of_gt (blk_lt (g := gb130) (o := .cells #[.slice A0_0 l0_0.length c0_0, .slice A0_1 l0_1.length c0_1] 27 (0, 0)) (by (with_reducible repeat (first | refine zL ?_ _ | refine zM ?_ | refine zJ ?_ _)); exact BK130.out)) : gb131 ≠ gb130)); clear BK130; clear HB; have BK130 := n0_; have HB := n1_; have BK131 := n2_; have GW131 := n3_; have GE131 := n4_; have NB130_131 := n5_; have NB131_130 := n6_; clear n0_ n1_ n2_ n3_ n4_ n5_ n6_; clear hb hbox hg; have hnb5 := NB130_131.out; have hnc5 := NB131_130.out; have hcz6_0 : w4.cell? ⟨gb130, 0, none⟩ = some (.slice A0_0 l0_0.length c0_0) := (zH BK130.out 0).trans rfl; have hcz6_1 : w4.cell? ⟨gb130, 1, none⟩ = some (.slice A0_1 l0_1.length c0_1) := (zH BK130.out 1).trans rfl; have hfz6_0 := zI BK130.out 0; have hfz6_1 := zI BK130.out 1) | ((with_reducible refine gate_callee (f := 24) rfl ?_); refine goesL_ (some 7) rfl rfl Tryd.func24 (by kernel_rfl) rfl #[.slice A0_0 l0_0.length c0_0] rfl (by (try simp only [zS, zU, zV]); first | done | rfl | (simp only [zO, zN]; rfl)) ?_; (with_reducible refine (boscagelaw07_Few.calls k _ _ l0_0 t132 _ ?side1 ?side2 A2.out).mono ?_); (case side1 => repeat (first | exact (zZ HR0_0.out HB.out) | (with_reducible refine Kd.C_alloc ?_ _) | (with_reducible refine Kd.C_drewN ?_ _) | (with_reducible refine Kd.C_drew ?_))); (case side2 => exact HC0_0.out); rintro e w7 ⟨v133, rfl, ho0, hb⟩; refine ⟨_, rfl, ?_⟩; have n0_ := zX (Kd.R_lower ho0 (zY (by repeat (first | (with_reducible first | exact HB.out | apply zF | apply zE | apply zG | refine zK ?_ GE130.out | refine zK ?_ GE131.out) | exact HB.out)))); have n1_ := zX (zm (g := gb130) (o := .cells #[.slice A0_0 l0_0.length c0_0, .slice A0_1 l0_1.length c0_1] 27 (0, 0)) (by (with_reducible repeat (first | refine zL ?_ _ | refine zM ?_ | refine zJ ?_ _)); exact BK130.out) hb); have n2_ := zX (zm (g := gb131) (o := .cells #[.slice none 0 0, .slice none 0 0] 39 (0, 0)) (by (with_reducible repeat (first | refine zL ?_ _ | refine zM ?_ | refine zJ ?_ _)); exact BK131.out) hb); have n3_ := zX (zT (by repeat (first | (with_reducible first | exact HB.out | apply zF | apply zE | apply zG | refine zK ?_ GE130.out | refine zK ?_ GE131.out) | exact HB.out)) hb); clear BK130; clear BK131; clear HB; have HO134 := n0_; have BK130 := n1_; have BK131 := n2_; have HB := n3_; clear n0_ n1_ n2_ n3_; (try clear hb); (try clear hb2); (try clear hk); (try clear hi); (try clear ho0); obtain ⟨Ao8, co8, eo8⟩ := Kd.R_slice HO134.out; subst eo8) | ((with_reducible refine gate_dst (N := 3) rfl ?_); refine box_event ?hg (N := 3) ?hd (cs := #[.slice none 0 0, .slice none 0 0]) (t := 39) ?hr ?_; (case hd => rfl); (case hg => rfl); (case hr => first | (go_simp; done) | (go_simp; rfl)); intro gb135 hg w9 hbox hb; have n0_ := zX (Kd.R_below (by (with_reducible repeat (first | apply za | apply zg | apply zh)); exact HO134.out) hb); have n1_ := zX (zm (g := gb130) (o := .cells #[.slice A0_0 l0_0.length c0_0, .slice A0_1 l0_1.length c0_1] 27 (0, 0)) (by (with_reducible repeat (first | refine zL ?_ _ | refine zM ?_ | refine zJ ?_ _)); exact BK130.out) hb); have n2_ := zX (zm (g := gb131) (o := .cells #[.slice none 0 0, .slice none 0 0] 39 (0, 0)) (by (with_reducible repeat (first | refine zL ?_ _ | refine zM ?_ | refine zJ ?_ _)); exact BK131.out) hb); have n3_ := zX (zT (by repeat (first | (with_reducible first | exact HB.out | apply zF | apply zE | apply zG | refine zK ?_ GE130.out | refine zK ?_ GE131.out) | exact HB.out)) hb); have n4_ := zX (hbox); have n5_ := zX ((by rw [hg]; exact (zY (by repeat (first | (with_reducible first | exact HB.out | apply zF | apply zE | apply zG | refine zK ?_ GE130.out | refine zK ?_ GE131.out) | exact HB.out))) : w.heap.size ≤ gb135)); have n6_ := zX ((by rw [hg]; exact (zY (by repeat (first | (with_reducible first | exact HB.out | apply zF | apply zE | apply zG | refine zK ?_ GE130.out | refine zK ?_ GE131.out) | exact HB.out))) : w.heap.size ≤ gb135)); have n7_ := zX ((by rw [hg]; exact Nat.ne_of_lt (blk_lt (g := gb130) (o := .cells #[.slice A0_0 l0_0.length c0_0, .slice A0_1 l0_1.length c0_1] 27 (0, 0)) (by (with_reducible repeat (first | refine zL ?_ _ | refine zM ?_ | refine zJ ?_ _)); exact BK130.out)) : gb130 ≠ gb135)); have n8_ := zX ((by rw [hg]; exact Nat.ne_of_gt (blk_lt (g := gb130) (o := .cells #[.slice A0_0 l0_0.length c0_0, .slice A0_1 l0_1.length c0_1] 27 (0, 0)) (by (with_reducible repeat (first | refine zL ?_ _ | refine zM ?_ | refine zJ ?_ _)); exact BK130.out)) : gb135 ≠ gb130)); have n9_ := zX ((by rw [hg]; exact Nat.ne_of_lt (blk_lt (g := gb131) (o := .cells #[.slice none 0 0, .slice none 0 0] 39 (0, 0)) (by (with_reducible repeat (first | refine zL ?_ _ | refine zM ?_ | refine zJ ?_ _)); exact BK131.out)) : gb131 ≠ gb135)); have n10_ := zX ((by rw [hg]; exact Nat.ne_of_gt (blk_lt (g := gb131) (o := .cells #[.slice none 0 0, .slice none 0 0] 39 (0, 0)) (by (with_reducible repeat (first | refine zL ?_ _ | refine zM ?_ | refine zJ ?_ _)); exact BK131.out)) : gb135 ≠ gb131)); clear HO134; clear BK130; clear BK131; clear HB; have HO134 := n0_; have BK130 := n1_; have BK131 := n2_; have HB := n3_; have BK135 := n4_; have GW135 := n5_; have GE135 := n6_; have NB130_135 := n7_; have NB135_130 := n8_; have NB131_135 := n9_; have NB135_131 := n10_; clear n0_ n1_ n2_ n3_ n4_ n5_ n6_ n7_ n8_ n9_ n10_; clear hb hbox hg; have hnb10 := NB135_130.out; have hnc10 := NB130_135.out; have hnb11 := NB135_131.out; have hnc11 := NB131_135.out; have hcz12_0 : w9.cell? ⟨gb135, 0, none⟩ = some (.slice none 0 0) := (zH BK135.out 0).trans rfl; have hcz12_1 : w9.cell? ⟨gb135, 1, none⟩ = some (.slice none 0 0) := (zH BK135.out 1).trans rfl; have hfz12_0 := zI BK135.out 0; have hfz12_1 := zI BK135.out 1))
  go_loopg [4] k (fun kq v4 w' => ∃ (x4_1 : Int) (x136001_1 : List (S72)) (u136001 : Value), v4 = .int .i64 x4_1 ∧ Aside0 (boscagelaw31_Give.l0 kq x4_1 l0_0 l0_1 t132 x136001_1 = some (r1, r2)) ∧ Aside0 (kq ≤ k) ∧ Aside0 (Kd.R k65 65 w' w.heap.size (fun _ => True) (.slice Ao8 t132.length co8) t132) ∧ Aside0 (Kd.S k72 72 w' w.heap.size (fun k_ => some k_ ≠ ((.slice Ao8 t132.length co8) : Value).ownBlock) u136001 x136001_1) ∧ Aside0 (w'.heap[gb130]? = some (.cells #[(.slice A0_0 l0_0.length c0_0), (.slice A0_1 l0_1.length c0_1)] 27 (0, 0))) ∧ Aside0 (w'.heap[gb131]? = some (.cells #[(.slice none 0 0), (.slice none 0 0)] 39 (0, 0))) ∧ Aside0 (w'.heap[gb135]? = some (.cells #[(.slice Ao8 t132.length co8), u136001] 39 (0, 0))) ∧ Aside0 (Below w.heap.size w w'))
  case atStart => exact ⟨(0), (([] : List (S72))), (.slice none 0 0), (by first | rfl | (simp; done) | (simp [*]; done)), H', ⟨Nat.le_refl _⟩, ⟨by (with_reducible repeat (first | apply za | apply zg | apply zh)); exact Kd.R_mono (Kd.R_far (p := ⟨gb135, 1, none⟩) (Kd.R_far (p := ⟨gb135, 0, none⟩) (zk HO134.out BK135.out (by decide)) (fun _ hk => hk.2) (.slice Ao8 t132.length co8)) (fun _ hk => hk.2) (.slice none 0 0)) (fun _ hk => trivial)⟩, ⟨by first | exact Kd.S_nil _ _ _ _ _ | exact Kd.N_nil _ _ _ _ _ | exact Kd.V_nil _ _ _ _ _ | exact Kd.Q_nil _ _ _ _ _ | exact Kd.R_nil _ _ _ _ _⟩, ⟨by (with_reducible repeat (first | refine zL ?_ _ | refine zM ?_ | refine zJ ?_ _)); refine blk_far ?_ NB130_135.out _; (with_reducible repeat (first | refine zL ?_ _ | refine zM ?_ | refine zJ ?_ _)); refine blk_far ?_ NB130_135.out _; (with_reducible repeat (first | refine zL ?_ _ | refine zM ?_ | refine zJ ?_ _)); exact BK130.out⟩, ⟨by (with_reducible repeat (first | refine zL ?_ _ | refine zM ?_ | refine zJ ?_ _)); refine blk_far ?_ NB131_135.out _; (with_reducible repeat (first | refine zL ?_ _ | refine zM ?_ | refine zJ ?_ _)); refine blk_far ?_ NB131_135.out _; (with_reducible repeat (first | refine zL ?_ _ | refine zM ?_ | refine zJ ?_ _)); exact BK131.out⟩, ⟨by (with_reducible repeat (first | refine zL ?_ _ | refine zM ?_ | refine zJ ?_ _)); refine blk_put (cs := #[.slice Ao8 t132.length co8, .slice none 0 0]) ?_ 1 _ rfl; (with_reducible repeat (first | refine zL ?_ _ | refine zM ?_ | refine zJ ?_ _)); refine blk_put (cs := #[.slice none 0 0, .slice none 0 0]) ?_ 0 _ rfl; (with_reducible repeat (first | refine zL ?_ _ | refine zM ?_ | refine zJ ?_ _)); exact BK135.out⟩, ⟨by repeat (first | (with_reducible first | exact HB.out | apply zF | apply zE | apply zG | refine zK ?_ GE130.out | refine zK ?_ GE131.out | refine zK ?_ GE135.out) | exact HB.out)⟩⟩
  case round =>
    clear H'
    try clear c1
    try clear c2
    try clear p2
    try clear c5
    try clear c10
    try clear c11
    try clear hcz12_0
    try clear hcz12_1
    try clear hcz6_0
    try clear hcz6_1
    try clear hfz12_0
    try clear hfz12_1
    try clear hfz6_0
    try clear hfz6_1
    obtain ⟨x4_1, x136001_1, u136001, rfl, HA, HK1, HO_136000, HO_136001, BK130, BK131, BK135, HB⟩ := hrel
    cases gk with
    | zero => exact absurd HA.out (by simp [boscagelaw31_Give.l0])
    | succ k1 =>
      have H := HA.out
      clear HA
      simp only [boscagelaw31_Give.l0] at H
      by_cases c13 : x4_1 < (l0_1.length : Int)
      · rw [if_pos c13] at H
        have c13b0 : decide (x4_1 < (l0_1.length : Int)) = true := zW c13
        clear c13
        by_cases c14 : 0 ≤ x4_1
        · rw [if_pos c14] at H
          have c14b0 : decide (0 ≤ x4_1) = true := zW c14
          clear c14
          replace H := Option.bind_eq_some_iff.mp H
          obtain ⟨t138, A150, H⟩ := H
          replace H : (if x136001_1.length < 4398046511104 then (boscagelaw31_Give.l0 k1 (wrap64 (x4_1 + 1)) l0_0 l0_1 t132 (x136001_1 ++ [(⟨(rd_T61 l0_1 x4_1).f0, t138⟩ : S72)])) else (none)) = some (r1, r2) := H
          have A15 := zX A150
          clear A150
          by_cases c16 : x136001_1.length < 4398046511104
          · rw [if_pos c16] at H
            have LMc16 := zX c16
            clear c16
            obtain ⟨y141, hy141⟩ : ∃ y_ : List (S72), y_ = (x136001_1 ++ [(⟨(rd_T61 l0_1 x4_1).f0, t138⟩ : S72)]) := ⟨_, rfl⟩
            replace H : (boscagelaw31_Give.l0 k1 (wrap64 (x4_1 + 1)) l0_0 l0_1 t132 y141) = some (r1, r2) := by first | (rw [hy141]; with_reducible exact H) | (have H2_ := (Option.bind_some _ _).symm.trans H; rw [hy141]; with_reducible exact H2_) | (have H2_ := (Option.bind_some _ _).symm.trans H; with_reducible exact H2_) | with_reducible exact H | (rw [hy141]; exact H) | exact H
            have Ny141 := zX hy141
            clear hy141
            have H' := zX H
            clear H
            have hnb17 := NB130_131.out
            have hnc17 := NB131_130.out
            have hnb18 := NB130_135.out
            have hnc18 := NB135_130.out
            have hcz19_0 : wr.cell? ⟨gb130, 0, none⟩ = some (.slice A0_0 l0_0.length c0_0) := (zH BK130.out 0).trans rfl
            have hcz19_1 : wr.cell? ⟨gb130, 1, none⟩ = some (.slice A0_1 l0_1.length c0_1) := (zH BK130.out 1).trans rfl
            have hfz19_0 := zI BK130.out 0
            have hfz19_1 := zI BK130.out 1
            try go_wp2
            have n0_ := zX (zh HO_136000.out)
            have n1_ := zX (Kd.S_drew HO_136001.out)
            have n2_ := zX (zM BK130.out)
            have n3_ := zX (zM BK131.out)
            have n4_ := zX (zM BK135.out)
            have n5_ := zX (zG HB.out)
            clear HO_136000
            clear HO_136001
            clear BK130
            clear BK131
            clear BK135
            clear HB
            have HO_136000 := n0_
            have HO_136001 := n1_
            have BK130 := n2_
            have BK131 := n3_
            have BK135 := n4_
            have HB := n5_
            clear n0_ n1_ n2_ n3_ n4_ n5_
            have p136 : 0 ≤ (x4_1 : Int) := zP (by first | (with_reducible assumption) | assumption)
            have q136 : x4_1 < (l0_1.length : Int) := zP (by first | (with_reducible assumption) | assumption)
            obtain ⟨ad136, A136_1, c136_1, e136, hx136_0, hx136_1, hl136_1, hi136_1⟩ := at_T61 HR0_1.out x4_1 p136 q136
            have hw136_1 := hx136_1
            have hw136_0 := hx136_0
            cases e136
            replace hx136_0 := (HB.out.cell (zB w _ hx136_0)).trans hx136_0
            replace hx136_1 := (HB.out.cell (zB w _ hx136_1)).trans hx136_1
            have HR136_1 := zX hi136_1
            have HC136_1 := zX hl136_1
            clear hi136_1 hl136_1
            replace p136 := eq_true p136
            replace q136 := eq_true q136
            have p137 : 0 ≤ (x4_1 : Int) := zP (by first | (with_reducible assumption) | assumption)
            have q137 : x4_1 < (l0_1.length : Int) := zP (by first | (with_reducible assumption) | assumption)
            obtain ⟨ad137, A137_1, c137_1, e137, hx137_0, hx137_1, hl137_1, hi137_1⟩ := at_T61 HR0_1.out x4_1 p137 q137
            have hw137_1 := hx137_1
            have hw137_0 := hx137_0
            obtain rfl : ad136 = ad137 := (by injection e137)
            replace hx137_0 := (HB.out.cell (zB w _ hx137_0)).trans hx137_0
            replace hx137_1 := (HB.out.cell (zB w _ hx137_1)).trans hx137_1
            have HR137_1 := zX hi137_1
            have HC137_1 := zX hl137_1
            clear hi137_1 hl137_1
            replace p137 := eq_true p137
            replace q137 := eq_true q137
            have ea_ := zQ (hx136_1.symm.trans hx137_1)
            injection ea_ with ea_ en_ ec_
            subst ea_
            subst ec_
            clear en_
            refine start_ (n := 20) (S := fun w' => w'.cell? ⟨gb135, 0, none⟩ = some (.slice Ao8 t132.length co8) ∧ w'.cell? ⟨gb135, 1, none⟩ = some (u136001) ∧ w'.cell? ⟨gb130, 0, none⟩ = some (.slice A0_0 l0_0.length c0_0) ∧ w'.cell? ⟨gb130, 1, none⟩ = some (.slice (some ad136) l0_1.length c0_1) ∧ w'.cell? (ad136.add ((x4_1).toNat * 2)) = some (.int .i64 ((rd_T61 l0_1 x4_1).f0)) ∧ w'.cell? ⟨(ad136.add ((x4_1).toNat * 2)).block, (ad136.add ((x4_1).toNat * 2)).off + 1, none⟩ = some (.slice A136_1 ((rd_T61 l0_1 x4_1).f1).length c136_1) ∧ w'.cell? (ad136.add ((x4_1).toNat * 2)) = some (.int .i64 ((rd_T61 l0_1 x4_1).f0)) ∧ w'.cell? ⟨(ad136.add ((x4_1).toNat * 2)).block, (ad136.add ((x4_1).toNat * 2)).off + 1, none⟩ = some (.slice A136_1 ((rd_T61 l0_1 x4_1).f1).length c136_1)) (ds := [19]) #[false, false, false, false, false, false, false, false, false, false, false, false, false, false, false, false, false, false, false, false] (by kernel_rfl) rfl rfl ⟨(zH BK135.out 0).trans rfl, (zH BK135.out 1).trans rfl, (zH BK130.out 0).trans rfl, (zH BK130.out 1).trans rfl, ((HB.out.cell (zB w _ hw136_0)).trans hw136_0), ((HB.out.cell (zB w _ hw136_1)).trans hw136_1), ((HB.out.cell (zB w _ hw137_0)).trans hw137_0), ((HB.out.cell (zB w _ hw137_1)).trans hw137_1)⟩ (fun hHeld => ?_); refine with_tabW boscagelaw31_Give.tab5 boscagelaw31_Give.bits5 (fun HT_ HW_ => ?_)
            generalize wr.drew = w20 at HO_136000 HO_136001 BK130 BK131 BK135 HB HR136_1 HR137_1 hx136_0 hx136_1 hx137_0 hx137_1 hHeld ⊢
            refine pure_ (i := 0) (N := some 16) (v := ?_) (a' := ?_) #[true, false, false, false, false, false, false, false, false, false, false, false, false, false, false, false, false, false, false, false] rfl rfl (any_of HT_.out (by kernel_rfl)) (fun _ _ _ h => h) (Or.inl ⟨by rfl, ?_⟩) ?_ ?_
            rotate_left
            · intro w'
              go_simp
              with_reducible rfl
            rotate_left
            · simp only [Act.put, zA, zC, zD, i64_w, i32_w]
              rfl
            refine pure_ (i := 2) (N := some 18) (v := ?_) (a' := ?_) #[true, false, true, false, false, false, false, false, false, false, false, false, false, false, false, false, false, false, false, false] rfl rfl (any_of HT_.out (by kernel_rfl)) (fun _ _ _ h => h) (Or.inl ⟨by rfl, ?_⟩) ?_ ?_
            rotate_left
            · intro w'
              go_simp
              with_reducible rfl
            rotate_left
            · simp only [Act.put, zA, zC, zD, i64_w, i32_w]
              rfl
            refine pure_ (i := 4) (N := some 20) (v := ?_) (a' := ?_) #[true, false, true, false, true, false, false, false, false, false, false, false, false, false, false, false, false, false, false, false] rfl rfl (any_of HT_.out (by kernel_rfl)) (fun _ _ _ h => h) (Or.inl ⟨by rfl, ?_⟩) ?_ ?_
            rotate_left
            · intro w'
              go_simp
              with_reducible rfl
            rotate_left
            · simp only [Act.put, zA, zC, zD, i64_w, i32_w]
              rfl
            refine pure_ (i := 8) (N := some 24) (v := ?_) (a' := ?_) #[true, false, true, false, true, false, false, false, true, false, false, false, false, false, false, false, false, false, false, false] rfl rfl (any_of HT_.out (by kernel_rfl)) (fun _ _ _ h => h) (Or.inl ⟨by rfl, ?_⟩) ?_ ?_
            rotate_left
            · intro w'
              go_simp
              with_reducible rfl
            rotate_left
            · simp only [Act.put, zA, zC, zD, i64_w, i32_w]
              rfl
            refine pure_ (i := 10) (N := some 26) (v := ?_) (a' := ?_) #[true, false, true, false, true, false, false, false, true, false, true, false, false, false, false, false, false, false, false, false] rfl rfl (any_of HT_.out (by kernel_rfl)) (fun _ _ _ h => h) (Or.inl ⟨by rfl, ?_⟩) ?_ ?_
            rotate_left
            · intro w'
              go_simp
              with_reducible rfl
            rotate_left
            · simp only [Act.put, zA, zC, zD, i64_w, i32_w]
              rfl
            refine take_ (i := 1) (N := some 17) (v := ?_) (a' := ?_) #[true, true, true, false, true, false, false, false, true, false, true, false, false, false, false, false, false, false, false, false] rfl rfl (take_ofW HT_.out HW_.out (by kernel_rfl)) (fun _ _ _ h => h) (Or.inl ⟨by rfl, ?_⟩) hHeld ?_ ?_
            rotate_left
            · rintro w' ⟨s0, s1, s2, s3, s4, s5, s6, s7⟩
              go_simp
              with_reducible rfl
            rotate_left
            · simp only [Act.put, zA, zC, zD, i64_w, i32_w]
              rfl
            refine take_ (i := 3) (N := some 19) (v := ?_) (a' := ?_) #[true, true, true, true, true, false, false, false, true, false, true, false, false, false, false, false, false, false, false, false] rfl rfl (take_ofW HT_.out HW_.out (by kernel_rfl)) (fun _ _ _ h => h) (Or.inl ⟨by rfl, ?_⟩) hHeld ?_ ?_
            rotate_left
            · rintro w' ⟨s0, s1, s2, s3, s4, s5, s6, s7⟩
              go_simp
              with_reducible rfl
            rotate_left
            · simp only [Act.put, zA, zC, zD, i64_w, i32_w]
              rfl
            refine pure_ (i := 5) (N := some 21) (v := ?_) (a' := ?_) #[true, true, true, true, true, true, false, false, true, false, true, false, false, false, false, false, false, false, false, false] rfl rfl (any_of HT_.out (by kernel_rfl)) (fun _ _ _ h => h) (Or.inl ⟨by rfl, ?_⟩) ?_ ?_
            rotate_left
            · intro w'
              go_simp
              with_reducible rfl
            rotate_left
            · simp only [Act.put, zA, zC, zD, i64_w, i32_w]
              rfl
            refine pure_ (i := 6) (N := some 22) (v := ?_) (a' := ?_) #[true, true, true, true, true, true, true, false, true, false, true, false, false, false, false, false, false, false, false, false] rfl rfl (any_of HT_.out (by kernel_rfl)) (fun _ _ _ h => h) (Or.inl ⟨by rfl, ?_⟩) ?_ ?_
            rotate_left
            · intro w'
              go_simp
              with_reducible rfl
            rotate_left
            · simp only [Act.put, zA, zC, zD, i64_w, i32_w]
              rfl
            refine take_ (i := 7) (N := some 23) (v := ?_) (a' := ?_) #[true, true, true, true, true, true, true, true, true, false, true, false, false, false, false, false, false, false, false, false] rfl rfl (take_ofW HT_.out HW_.out (by kernel_rfl)) (fun _ _ _ h => h) (Or.inl ⟨by rfl, ?_⟩) hHeld ?_ ?_
            rotate_left
            · rintro w' ⟨s0, s1, s2, s3, s4, s5, s6, s7⟩
              go_simp
              with_reducible rfl
            rotate_left
            · simp only [Act.put, zA, zC, zD, i64_w, i32_w]
              rfl
            refine take_ (i := 9) (N := some 25) (v := ?_) (a' := ?_) #[true, true, true, true, true, true, true, true, true, true, true, false, false, false, false, false, false, false, false, false] rfl rfl (take_ofW HT_.out HW_.out (by kernel_rfl)) (fun _ _ _ h => h) (Or.inl ⟨by rfl, ?_⟩) hHeld ?_ ?_
            rotate_left
            · rintro w' ⟨s0, s1, s2, s3, s4, s5, s6, s7⟩
              go_simp
              with_reducible rfl
            rotate_left
            · simp only [Act.put, zA, zC, zD, i64_w, i32_w]
              rfl
            refine pure_ (i := 11) (N := some 27) (v := ?_) (a' := ?_) #[true, true, true, true, true, true, true, true, true, true, true, true, false, false, false, false, false, false, false, false] rfl rfl (any_of HT_.out (by kernel_rfl)) (fun _ _ _ h => h) (Or.inl ⟨by rfl, ?_⟩) ?_ ?_
            rotate_left
            · intro w'
              go_simp
              with_reducible rfl
            rotate_left
            · simp only [Act.put, zA, zC, zD, i64_w, i32_w]
              rfl
            refine pure_ (i := 12) (N := some 28) (v := ?_) (a' := ?_) #[true, true, true, true, true, true, true, true, true, true, true, true, true, false, false, false, false, false, false, false] rfl rfl (any_of HT_.out (by kernel_rfl)) (fun _ _ _ h => h) (Or.inl ⟨by rfl, ?_⟩) ?_ ?_
            rotate_left
            · intro w'
              go_simp
              with_reducible rfl
            rotate_left
            · simp only [Act.put, zA, zC, zD, i64_w, i32_w]
              rfl
            refine take_ (i := 13) (N := some 29) (v := ?_) (a' := ?_) #[true, true, true, true, true, true, true, true, true, true, true, true, true, true, false, false, false, false, false, false] rfl rfl (take_ofW HT_.out HW_.out (by kernel_rfl)) (fun _ _ _ h => h) (Or.inl ⟨by rfl, ?_⟩) hHeld ?_ ?_
            rotate_left
            · rintro w' ⟨s0, s1, s2, s3, s4, s5, s6, s7⟩
              go_simp
              with_reducible rfl
            rotate_left
            · simp only [Act.put, zA, zC, zD, i64_w, i32_w]
              rfl
            refine one_ (i := 14) (N := some 30) #[true, true, true, true, true, true, true, true, true, true, true, true, true, true, true, false, false, false, false, false] rfl rfl (one_of HT_.out (by kernel_rfl)) (by decide) (fun K hK => ?_)
            refine goes_ Tryd.func24 (by kernel_rfl) rfl #[.slice A136_1 ((rd_T61 l0_1 x4_1).f1).length c136_1] (by rfl) rfl rfl (by (try simp only [zS, zU, zV]); first | done | rfl | (simp only [zO, zN]; rfl)) ?_
            with_reducible refine (boscagelaw07_Few.calls k1 _ _ ((rd_T61 l0_1 x4_1).f1) t138 _ ?side1 ?side2 A15.out).mono ?_
            (case side1 => repeat (first | exact (zZ HR137_1.out HB.out) | (with_reducible refine Kd.C_alloc ?_ _) | (with_reducible refine Kd.C_drewN ?_ _) | (with_reducible refine Kd.C_drew ?_)))
            (case side2 => exact HC137_1.out)
            rintro e w21 ⟨v139, rfl, ho0, hb⟩
            refine ⟨_, rfl, ?_⟩
            have n0_ := zX (Kd.R_elder' (by (with_reducible repeat (first | apply za | apply zg | apply zh)); exact HO_136000.out) (Kd.R_base ho0) hb)
            have n1_ := zX (Kd.S_elder' (by (with_reducible repeat (first | apply Kd.S_alloc | apply Kd.S_drewN | apply Kd.S_drew)); exact HO_136001.out) (Kd.R_base ho0) hb)
            have n2_ := zX (Kd.R_lower (Kd.R_new' ho0 (Kd.R_lt (by (with_reducible repeat (first | apply za | apply zg | apply zh)); exact HO_136000.out))) (zY (by repeat (first | (with_reducible first | exact HB.out | apply zF | apply zE | apply zG | refine zK ?_ GE130.out | refine zK ?_ GE131.out | refine zK ?_ GE135.out) | exact HB.out))))
            have n3_ := zX (zm (g := gb130) (o := .cells #[.slice A0_0 l0_0.length c0_0, .slice (some ad136) l0_1.length c0_1] 27 (0, 0)) (by (with_reducible repeat (first | refine zL ?_ _ | refine zM ?_ | refine zJ ?_ _)); exact BK130.out) hb)
            have n4_ := zX (zm (g := gb131) (o := .cells #[.slice none 0 0, .slice none 0 0] 39 (0, 0)) (by (with_reducible repeat (first | refine zL ?_ _ | refine zM ?_ | refine zJ ?_ _)); exact BK131.out) hb)
            have n5_ := zX (zm (g := gb135) (o := .cells #[.slice Ao8 t132.length co8, u136001] 39 (0, 0)) (by (with_reducible repeat (first | refine zL ?_ _ | refine zM ?_ | refine zJ ?_ _)); exact BK135.out) hb)
            have n6_ := zX (zT (by repeat (first | (with_reducible first | exact HB.out | apply zF | apply zE | apply zG | refine zK ?_ GE130.out | refine zK ?_ GE131.out | refine zK ?_ GE135.out) | exact HB.out)) hb)
            clear HO_136000
            clear HO_136001
            clear BK130
            clear BK131
            clear BK135
            clear HB
            have HO_136000 := n0_
            have HO_136001 := n1_
            have HO140 := n2_
            have BK130 := n3_
            have BK131 := n4_
            have BK135 := n5_
            have HB := n6_
            clear n0_ n1_ n2_ n3_ n4_ n5_ n6_
            (try clear hb)
            (try clear hb2)
            (try clear hk)
            (try clear hi)
            (try clear ho0)
            obtain ⟨Ao22, co22, eo22⟩ := Kd.R_slice HO140.out
            (first | subst eo22 | (injection eo22 with f1_ f2_ f3_; have f4_ := f1_.symm; have f5_ := f3_.symm; clear f1_ f2_ f3_; subst f4_; subst f5_))
            refine hK.out _ _ ⟨(zH BK135.out 0).trans rfl, (zH BK135.out 1).trans rfl, (zH BK130.out 0).trans rfl, (zH BK130.out 1).trans rfl, ((HB.out.cell (zB w _ hw136_0)).trans hw136_0), ((HB.out.cell (zB w _ hw136_1)).trans hw136_1), ((HB.out.cell (zB w _ hw137_0)).trans hw137_0), ((HB.out.cell (zB w _ hw137_1)).trans hw137_1)⟩ (fun hHeld => ?_)
            clear hK K
            refine norm_ (a' := ?_) ?_ ?_
            rotate_left
            · show Act.put _ (some 30) _ = _
              simp only [Act.put, zA, zC, zD, i64_w, i32_w]
              rfl
            refine pure_ (i := 15) (N := some 31) (v := ?_) (a' := ?_) #[true, true, true, true, true, true, true, true, true, true, true, true, true, true, true, true, false, false, false, false] rfl rfl (any_of HT_.out (by kernel_rfl)) (fun _ _ _ h => h) (Or.inl ⟨by rfl, ?_⟩) ?_ ?_
            rotate_left
            · intro w'
              go_simp
              with_reducible rfl
            rotate_left
            · simp only [Act.put, zA, zC, zD, i64_w, i32_w]
              rfl
            refine one_ (i := 16) (N := some 32) #[true, true, true, true, true, true, true, true, true, true, true, true, true, true, true, true, true, false, false, false] rfl rfl (one_of HT_.out (by kernel_rfl)) (by decide) (fun K hK => ?_)
            refine value_ (w1 := ?_) (v := ?_) (by rfl) rfl ?_ ?_
            rotate_left 2
            · go_simp
              constructor
              · rfl
              · rfl
            refine hK.out _ _ ⟨(zH (zJ BK135.out _) 0).trans rfl, (zH (zJ BK135.out _) 1).trans rfl, (zH (zJ BK130.out _) 0).trans rfl, (zH (zJ BK130.out _) 1).trans rfl, (World.cell?_alloc_lt _ _ _ (zB _ _ (((HB.out.cell (zB w _ hw136_0)).trans hw136_0)))).trans (((HB.out.cell (zB w _ hw136_0)).trans hw136_0)), (World.cell?_alloc_lt _ _ _ (zB _ _ (((HB.out.cell (zB w _ hw136_1)).trans hw136_1)))).trans (((HB.out.cell (zB w _ hw136_1)).trans hw136_1)), (World.cell?_alloc_lt _ _ _ (zB _ _ (((HB.out.cell (zB w _ hw137_0)).trans hw137_0)))).trans (((HB.out.cell (zB w _ hw137_0)).trans hw137_0)), (World.cell?_alloc_lt _ _ _ (zB _ _ (((HB.out.cell (zB w _ hw137_1)).trans hw137_1)))).trans (((HB.out.cell (zB w _ hw137_1)).trans hw137_1))⟩ (fun hHeld => ?_)
            clear hK K
            refine norm_ (a' := ?_) ?_ ?_
            rotate_left
            · show Act.put _ (some 32) _ = _
              simp only [Act.put, zA, zC, zD, i64_w, i32_w]
              rfl
            refine one_ (i := 17) (N := some 33) #[true, true, true, true, true, true, true, true, true, true, true, true, true, true, true, true, true, true, false, false] rfl rfl (one_of HT_.out (by kernel_rfl)) (by decide) (fun K hK => ?_)
            refine Kd.S_append_step k72 (w0 := w) w.heap.size (by rfl) (.tmp 17) (.tmp 32) 37 72 (.agg #[(.int .i64 0), (.slice none 0 0)]) 32 rfl Tryd.underlying37 info72 rfl (by decide) (by omega) u136001 x136001_1 (⟨(rd_T61 l0_1 x4_1).f0, t138⟩ : S72) [.int .i64 ((rd_T61 l0_1 x4_1).f0), .slice Ao22 t138.length co22] (fun k_ => some k_ ≠ (.slice Ao8 t132.length co8 : Value).ownBlock) (fun k_ => some k_ = (.slice Ao22 t138.length co22 : Value).ownBlock) rfl rfl ?aP (fun k_ hk_ => ((Kd.R_mono (ok' := fun k_ => ((fun k_ => some k_ ≠ (.slice Ao8 t132.length co8 : Value).ownBlock)) k_ ∧ some k_ ≠ (u136001 : Value).ownBlock) (zn (HO140.out) (Kd.S_typed HO_136001.out) (by decide)) (fun k_ hk => ⟨hk.1.2, hk.2⟩))).1 k_ hk_.symm) ?aF ?aO ?aB ?aS ?aL ?_
            (case aP => exact k72_mkM _ _ _ (⟨(rd_T61 l0_1 x4_1).f0, t138⟩ : S72) (Kd.R_mono (Kd.R_tight rfl (Kd.R_mono (ok' := fun k_ => ((fun k_ => some k_ ≠ (.slice Ao8 t132.length co8 : Value).ownBlock)) k_ ∧ some k_ ≠ (u136001 : Value).ownBlock) (zn (HO140.out) (Kd.S_typed HO_136001.out) (by decide)) (fun k_ hk => ⟨hk.1.2, hk.2⟩))) (fun _ h_ => h_)))
            (case aB => exact (by repeat (first | (with_reducible first | exact HB.out | apply zF | apply zE | apply zG | refine zK ?_ GE130.out | refine zK ?_ GE131.out | refine zK ?_ GE135.out) | exact HB.out)))
            (case aF => exact (fun k_ hk => Kd.fresh' (Kd.R_lt (by (with_reducible repeat (first | apply za | apply zg | apply zh)); exact HO_136000.out)) k_ hk))
            (case aO => exact (by (with_reducible repeat (first | apply Kd.S_alloc | apply Kd.S_drewN | apply Kd.S_drew)); exact Kd.S_mono HO_136001.out (fun k_ hk => ⟨hk.1, fun e_ => hk.2 e_⟩)))
            (case aS => exact (zY (by repeat (first | (with_reducible first | exact HB.out | apply zF | apply zE | apply zG | refine zK ?_ GE130.out | refine zK ?_ GE131.out | refine zK ?_ GE135.out) | exact HB.out))))
            (case aL => have := LMc16.out; omega)
            intro v142 w23 ho hb hg hat
            rw [← Ny141.out] at ho
            have n0_ := zX (Kd.R_over' (by (with_reducible repeat (first | apply za | apply zg | apply zh)); exact HO_136000.out) (Kd.S_typed (by (with_reducible repeat (first | apply Kd.S_alloc | apply Kd.S_drewN | apply Kd.S_drew)); exact HO_136001.out)) (by decide) hg)
            have n1_ := zX (blk_grown (g := gb130) (o := .cells #[.slice A0_0 l0_0.length c0_0, .slice (some ad136) l0_1.length c0_1] 27 (0, 0)) (by (with_reducible repeat (first | refine zL ?_ _ | refine zM ?_ | refine zJ ?_ _)); exact BK130.out) hg (Kd.S_ne HO_136001.out BK130.out (by decide)))
            have n2_ := zX (blk_grown (g := gb131) (o := .cells #[.slice none 0 0, .slice none 0 0] 39 (0, 0)) (by (with_reducible repeat (first | refine zL ?_ _ | refine zM ?_ | refine zJ ?_ _)); exact BK131.out) hg (Kd.S_ne HO_136001.out BK131.out (by decide)))
            have n3_ := zX (blk_grown (g := gb135) (o := .cells #[.slice Ao8 t132.length co8, u136001] 39 (0, 0)) (by (with_reducible repeat (first | refine zL ?_ _ | refine zM ?_ | refine zJ ?_ _)); exact BK135.out) hg (Kd.S_ne HO_136001.out BK135.out (by decide)))
            have n4_ := zX (hb)
            have n5_ := zX (ho)
            clear HO_136000
            clear BK130
            clear BK131
            clear BK135
            clear HB
            clear HO_136001
            clear HO140
            have HO_136000 := n0_
            have BK130 := n1_
            have BK131 := n2_
            have BK135 := n3_
            have HB := n4_
            have HO143 := n5_
            clear n0_ n1_ n2_ n3_ n4_ n5_
            clear ho hb hg hat
            obtain ⟨Ao24, co24, eo24⟩ := Kd.S_slice HO143.out
            (first | subst eo24 | (injection eo24 with f1_ f2_ f3_; have f4_ := f1_.symm; have f5_ := f3_.symm; clear f1_ f2_ f3_; subst f4_; subst f5_))
            refine hK.out _ _ ⟨(zH BK135.out 0).trans rfl, (zH BK135.out 1).trans rfl, (zH BK130.out 0).trans rfl, (zH BK130.out 1).trans rfl, ((HB.out.cell (zB w _ hw136_0)).trans hw136_0), ((HB.out.cell (zB w _ hw136_1)).trans hw136_1), ((HB.out.cell (zB w _ hw137_0)).trans hw137_0), ((HB.out.cell (zB w _ hw137_1)).trans hw137_1)⟩ (fun hHeld => ?_)
            clear hK K
            refine norm_ (a' := ?_) ?_ ?_
            rotate_left
            · show Act.put _ (some 33) _ = _
              simp only [Act.put, zA, zC, zD, i64_w, i32_w]
              rfl
            refine pure_ (i := 18) (N := some 34) (v := ?_) (a' := ?_) #[true, true, true, true, true, true, true, true, true, true, true, true, true, true, true, true, true, true, true, false] rfl rfl (any_of HT_.out (by kernel_rfl)) (fun _ _ _ h => h) (Or.inl ⟨by rfl, ?_⟩) ?_ ?_
            rotate_left
            · intro w'
              go_simp
              with_reducible rfl
            rotate_left
            · simp only [Act.put, zA, zC, zD, i64_w, i32_w]
              rfl
            refine last_ (i := 19) (N := none) #[true, true, true, true, true, true, true, true, true, true, true, true, true, true, true, true, true, true, true, true] rfl rfl (one_of HT_.out (by kernel_rfl)) (by decide) (fun K hK => ?_)
            have hs25 : w23.cell? ⟨gb135, 1, none⟩ = some (u136001) := (zH BK135.out 1).trans rfl
            have hfs25 := zI BK135.out 1
            have hns25_0 := NB130_135.out
            have hns25_1 := NB131_135.out
            have hms25_0 := NB135_130.out
            have hms25_1 := NB135_131.out
            refine skip_ (w1 := ?_) (by rfl) rfl ?_ ?_
            rotate_left
            · go_simp
              rfl
            refine hK.out _ _ ?_
            clear hK K
            refine done_ (done_of HT_.out (by kernel_rfl)) ?_
            try go_wp2
            go_roundg k1
            case measure => have := HK1.out; omega
            case rel => exact ⟨(wrap64 (x4_1 + 1)), (y141), (.slice Ao24 y141.length co24), (by first | rfl | (simp; done) | (simp [*]; done)), H', ⟨by have := HK1.out; omega⟩, ⟨by (with_reducible repeat (first | apply za | apply zg | apply zh)); exact Kd.R_mono (Kd.R_far (p := ⟨gb135, 1, none⟩) (zk HO_136000.out BK135.out (by decide)) (fun _ hk => hk.2) (.slice Ao24 y141.length co24)) (fun _ hk => trivial)⟩, ⟨by (with_reducible repeat (first | apply Kd.S_alloc | apply Kd.S_drewN | apply Kd.S_drew)); exact Kd.S_mono (Kd.S_far (p := ⟨gb135, 1, none⟩) (Kd.S_types HO143.out BK135.out (by decide)) (fun _ hk => hk.2) (.slice Ao24 y141.length co24)) (fun _ hk => hk.1)⟩, ⟨by (with_reducible repeat (first | refine zL ?_ _ | refine zM ?_ | refine zJ ?_ _)); refine blk_far ?_ NB130_135.out _; (with_reducible repeat (first | refine zL ?_ _ | refine zM ?_ | refine zJ ?_ _)); exact BK130.out⟩, ⟨by (with_reducible repeat (first | refine zL ?_ _ | refine zM ?_ | refine zJ ?_ _)); refine blk_far ?_ NB131_135.out _; (with_reducible repeat (first | refine zL ?_ _ | refine zM ?_ | refine zJ ?_ _)); exact BK131.out⟩, ⟨by (with_reducible repeat (first | refine zL ?_ _ | refine zM ?_ | refine zJ ?_ _)); refine blk_put (cs := #[.slice Ao8 t132.length co8, u136001]) ?_ 1 _ rfl; (with_reducible repeat (first | refine zL ?_ _ | refine zM ?_ | refine zJ ?_ _)); exact BK135.out⟩, ⟨by repeat (first | (with_reducible first | exact HB.out | apply zF | apply zE | apply zG | refine zK ?_ GE130.out | refine zK ?_ GE131.out | refine zK ?_ GE135.out) | exact HB.out)⟩⟩
          · rw [if_neg c16] at H
            exact absurd H (by simp)
        · rw [if_neg c14] at H
          exact absurd H (by simp)
      · rw [if_neg c13] at H
        have c13b0 : decide (x4_1 < (l0_1.length : Int)) = false := decide_eq_false c13
        clear c13
        simp only [Option.some.injEq, Prod.mk.injEq] at H
        obtain ⟨rfl, rfl⟩ := H
        have hnb26 := NB130_131.out
        have hnc26 := NB131_130.out
        have hnb27 := NB130_135.out
        have hnc27 := NB135_130.out
        have hcz28_0 : wr.cell? ⟨gb130, 0, none⟩ = some (.slice A0_0 l0_0.length c0_0) := (zH BK130.out 0).trans rfl
        have hcz28_1 : wr.cell? ⟨gb130, 1, none⟩ = some (.slice A0_1 l0_1.length c0_1) := (zH BK130.out 1).trans rfl
        have hfz28_0 := zI BK130.out 0
        have hfz28_1 := zI BK130.out 1
        have hnb29 := NB135_131.out
        have hnc29 := NB131_135.out
        have hcz30_0 : wr.cell? ⟨gb135, 0, none⟩ = some (.slice Ao8 t132.length co8) := (zH BK135.out 0).trans rfl
        have hcz30_1 : wr.cell? ⟨gb135, 1, none⟩ = some (u136001) := (zH BK135.out 1).trans rfl
        have hfz30_0 := zI BK135.out 0
        have hfz30_1 := zI BK135.out 1
        have hcz31_0 : wr.cell? ⟨gb131, 0, none⟩ = some (.slice none 0 0) := (zH BK131.out 0).trans rfl
        have hcz31_1 : wr.cell? ⟨gb131, 1, none⟩ = some (.slice none 0 0) := (zH BK131.out 1).trans rfl
        have hfz31_0 := zI BK131.out 0
        have hfz31_1 := zI BK131.out 1
        obtain ⟨Ao32, co32, eo32⟩ := Kd.S_slice HO_136001.out
        subst eo32
        go_wp2
        refine bodyPost_ret (results_cell_row rfl _ _ gb131 39 #[.slice Ao8 t132.length co8, .slice Ao32 x136001_1.length co32] (0, 0) _ rfl (by (with_reducible repeat (first | refine zL ?_ _ | refine zM ?_ | refine zJ ?_ _)); refine blk_put (cs := #[.slice Ao8 t132.length co8, .slice none 0 0]) ?_ 1 _ rfl; (with_reducible repeat (first | refine zL ?_ _ | refine zM ?_ | refine zJ ?_ _)); refine blk_put (cs := #[.slice none 0 0, .slice none 0 0]) ?_ 0 _ rfl; (with_reducible repeat (first | refine zL ?_ _ | refine zM ?_ | refine zJ ?_ _)); exact BK131.out) Tryd.underlying39 rfl (by kernel_rfl)) rfl ?_
        exact ⟨_, _, by first | rfl | (simp [errW_none, errW_some] <;> rfl) | (simp [*, errW_none, errW_some] <;> rfl), by (with_reducible repeat (first | apply za | apply zg | apply zh)); exact Kd.R_mono (Kd.R_far (p := ⟨gb131, 1, none⟩) (Kd.R_far (p := ⟨gb131, 0, none⟩) (zk HO_136000.out BK131.out (by decide)) (fun _ hk => hk.2) (.slice Ao8 t132.length co8)) (fun _ hk => hk.2) (.slice Ao32 x136001_1.length co32)) (fun _ hk => trivial), by (with_reducible repeat (first | apply Kd.S_alloc | apply Kd.S_drewN | apply Kd.S_drew)); exact Kd.S_mono (Kd.S_far (p := ⟨gb131, 1, none⟩) (Kd.S_far (p := ⟨gb131, 0, none⟩) (Kd.S_types HO_136001.out BK131.out (by decide)) (fun _ hk => hk.2) (.slice Ao8 t132.length co8)) (fun _ hk => hk.2) (.slice Ao32 x136001_1.length co32)) (fun _ hk => hk.1), by repeat (first | (with_reducible first | exact HB.out | apply zF | apply zE | apply zG | refine zK ?_ GE130.out | refine zK ?_ GE131.out | refine zK ?_ GE135.out) | exact HB.out)⟩

/-! ### call_within: function 78 -/
def call_within.f (a0 : Int) (a1 : Int) (a2 : Int) : Option (Bool) := if a0 ≥ a1 then (some (decide (a0 ≤ a2))) else (some false)
set_option maxHeartbeats 8000000 in
set_option maxRecDepth 100000 in
theorem call_within.calls (a0 : Int) (a1 : Int) (a2 : Int) (r : Bool) (w : World) (h : call_within.f a0 a1 a2 = some r) :
    Calls Tryd.prog 78 #[.int .i64 a0, .int .i64 a1, .int .i64 a2] w fun e w' => e = .returned (.bool r) ∧ Drawn0 w w' := by
  have H : (if a0 ≥ a1 then (some (decide (a0 ≤ a2))) else (some false)) = some r := h
  clear h
  by_cases c4 : a0 ≥ a1
  · rw [if_pos c4] at H
    have c4b0 : decide (a1 ≤ a0) = true := zW c4
    clear c4
    obtain rfl := zQ H
    go_enter Tryd.func78, Tryd.ntmps78
    go_wp2
    go_ret
    exact ⟨by first | rfl | (simp; done) | (simp [*]; done), by repeat (first | exact Drawn0.refl _ | apply Drawn0.step)⟩
  · rw [if_neg c4] at H
    have c4b0 : decide (a1 ≤ a0) = false := decide_eq_false c4
    clear c4
    obtain rfl := zQ H
    go_enter Tryd.func78, Tryd.ntmps78
    go_wp2
    go_ret
    exact ⟨by first | rfl | (simp; done) | (simp [*]; done), by repeat (first | exact Drawn0.refl _ | apply Drawn0.step)⟩

/-! ### call_May: function 54 -/
def call_May.j0 : Nat → Int → Int → Int → Int → Int → Int → Int → Option (Int)
  | 0, _, _, _, _, _, _, _ => none
  | k + 1, x3, x4, x145000, x145001, x145002, x145003, x145004 => (call_within.f x145000 1 3).bind fun t145 => (if t145 = true then ((call_within.f x145001 x3 1000).bind fun t146 => (if t146 = true then ((call_within.f x145002 1 64).bind fun t147 => (if t147 = true then ((call_within.f x145003 0 16).bind fun t148 => (if t148 = true then ((call_within.f x145004 x4 64).bind fun t149 => (if t149 = true then (some 0) else (some 2))) else (some 2))) else (some 2))) else (some 2))) else (some 11))
def call_May.f (k : Nat) (a0_0 : Int) (a0_1 : Int) (a0_2 : Int) (a0_3 : Int) (a0_4 : Int) : Option (Int) := if a0_0 = 3 then (call_May.j0 k 2 1 a0_0 a0_1 a0_2 a0_3 a0_4) else (call_May.j0 k 0 0 a0_0 a0_1 a0_2 a0_3 a0_4)
set_option maxHeartbeats 8000000 in
set_option maxRecDepth 100000 in
theorem call_May.calls (k : Nat) (a0_0 : Int) (a0_1 : Int) (a0_2 : Int) (a0_3 : Int) (a0_4 : Int) (r : Int) (w : World) (h : call_May.f k a0_0 a0_1 a0_2 a0_3 a0_4 = some r) :
    Calls Tryd.prog 54 #[.agg #[.int .i64 a0_0, .int .i64 a0_1, .int .i64 a0_2, .int .i64 a0_3, .int .i64 a0_4]] w fun e w' => e = .returned (.int .i64 r) ∧ Below w.heap.size w w' := by
  have hu23 := Tryd.underlying23
  have HB := zX (zi w.heap.size w)
  have H : (if a0_0 = 3 then (call_May.j0 k 2 1 a0_0 a0_1 a0_2 a0_3 a0_4) else (call_May.j0 k 0 0 a0_0 a0_1 a0_2 a0_3 a0_4)) = some r := h
  clear h
  have HC2 := zX H
  clear H
  go_enter Tryd.func54, Tryd.ntmps54
  go_upto_if 7 with (first | ((with_reducible refine gate_dst (N := 1) rfl ?_); refine box_event ?hg (N := 1) ?hd (cs := #[.int .i64 a0_0, .int .i64 a0_1, .int .i64 a0_2, .int .i64 a0_3, .int .i64 a0_4]) (t := 23) ?hr ?_; (case hd => rfl); (case hg => rfl); (case hr => first | (go_simp; done) | (go_simp; rfl)); intro gb144 hg w3 hbox hb; have n0_ := zX (zT (by repeat (first | (with_reducible first | exact HB.out | apply zF | apply zE | apply zG) | exact HB.out)) hb); have n1_ := zX (hbox); have n2_ := zX ((by rw [hg]; exact (zY (by repeat (first | (with_reducible first | exact HB.out | apply zF | apply zE | apply zG) | exact HB.out))) : w.heap.size ≤ gb144)); have n3_ := zX ((by rw [hg]; exact (zY (by repeat (first | (with_reducible first | exact HB.out | apply zF | apply zE | apply zG) | exact HB.out))) : w.heap.size ≤ gb144)); clear HB; have HB := n0_; have BK144 := n1_; have GW144 := n2_; have GE144 := n3_; clear n0_ n1_ n2_ n3_; clear hb hbox hg; have hcz4_0 : w3.cell? ⟨gb144, 0, none⟩ = some (.int .i64 a0_0) := (zH BK144.out 0).trans rfl; have hcz4_1 : w3.cell? ⟨gb144, 1, none⟩ = some (.int .i64 a0_1) := (zH BK144.out 1).trans rfl; have hcz4_2 : w3.cell? ⟨gb144, 2, none⟩ = some (.int .i64 a0_2) := (zH BK144.out 2).trans rfl; have hcz4_3 : w3.cell? ⟨gb144, 3, none⟩ = some (.int .i64 a0_3) := (zH BK144.out 3).trans rfl; have hcz4_4 : w3.cell? ⟨gb144, 4, none⟩ = some (.int .i64 a0_4) := (zH BK144.out 4).trans rfl; have hfz4_0 := zI BK144.out 0; have hfz4_1 := zI BK144.out 1; have hfz4_2 := zI BK144.out 2; have hfz4_3 := zI BK144.out 3; have hfz4_4 := zI BK144.out 4))
  (try simp only [Act.put, zA, zC, zD])
  go_cut [3, 4] (fun v3 v4 wc => ∃ (kq : Nat) (x3_1 : Int) (x4_1 : Int), v3 = .int .i64 x3_1 ∧ v4 = .int .i64 x4_1 ∧ Aside0 (call_May.j0 kq x3_1 x4_1 a0_0 a0_1 a0_2 a0_3 a0_4 = some r) ∧ Aside0 (kq ≤ k) ∧ Aside0 (wc.heap[gb144]? = some (.cells #[.int .i64 a0_0, .int .i64 a0_1, .int .i64 a0_2, .int .i64 a0_3, .int .i64 a0_4] 23 (0, 0))) ∧ Aside0 (Below w.heap.size w wc))
  case first =>
    have H := HC2.out
    clear HC2
    by_cases c5 : a0_0 = 3
    · rw [if_pos c5] at H
      have c5b0 : (a0_0 == 3) = true := beq_iff_eq.mpr c5
      have c5b1 : (a0_0 != 3) = false := bne_eq_false_iff_eq.mpr c5
      clear c5
      (first | rw [c5b0] | (simp only [i64_w, i32_w]; rw [c5b0]) | skip)
      have H' := zX H
      clear H
      go_wp2
      go_meet
      case rel => exact ⟨_, (2), (1), (by first | rfl | (simp; done) | (simp [*]; done)), (by first | rfl | (simp; done) | (simp [*]; done)), H', ⟨by first | omega | exact Nat.le_refl _⟩, ⟨by (with_reducible repeat (first | refine zL ?_ _ | refine zM ?_ | refine zJ ?_ _)); exact BK144.out⟩, ⟨by repeat (first | (with_reducible first | exact HB.out | apply zF | apply zE | apply zG | refine zK ?_ GE144.out) | exact HB.out)⟩⟩
    · rw [if_neg c5] at H
      have c5b0 : (a0_0 == 3) = false := beq_eq_false_iff_ne.mpr c5
      have c5b1 : (a0_0 != 3) = true := bne_iff_ne.mpr c5
      (first | rw [c5b0] | (simp only [i64_w, i32_w]; rw [c5b0]) | skip)
      have H' := zX H
      clear H
      go_wp2
      go_meet
      case rel => exact ⟨_, (0), (0), (by first | rfl | (simp; done) | (simp [*]; done)), (by first | rfl | (simp; done) | (simp [*]; done)), H', ⟨by first | omega | exact Nat.le_refl _⟩, ⟨by (with_reducible repeat (first | refine zL ?_ _ | refine zM ?_ | refine zJ ?_ _)); exact BK144.out⟩, ⟨by repeat (first | (with_reducible first | exact HB.out | apply zF | apply zE | apply zG | refine zK ?_ GE144.out) | exact HB.out)⟩⟩
  case rest =>
    clear HC2
    try clear p2
    try clear c5
    try clear c5b0
    try clear c5b1
    try clear hcz4_0
    try clear hcz4_1
    try clear hcz4_2
    try clear hcz4_3
    try clear hcz4_4
    try clear hfz4_0
    try clear hfz4_1
    try clear hfz4_2
    try clear hfz4_3
    try clear hfz4_4
    obtain ⟨kq, x3_1, x4_1, rfl, rfl, HA, HJ1, BK144, HB⟩ := hcut
    cases kq with
    | zero => exact absurd HA.out (by simp [call_May.j0])
    | succ kj1 =>
      have H := HA.out
      clear HA
      simp only [call_May.j0] at H
      replace H := Option.bind_eq_some_iff.mp H
      obtain ⟨t145, A60, H⟩ := H
      replace H : (if t145 = true then ((call_within.f a0_1 x3_1 1000).bind fun t146 => (if t146 = true then ((call_within.f a0_2 1 64).bind fun t147 => (if t147 = true then ((call_within.f a0_3 0 16).bind fun t148 => (if t148 = true then ((call_within.f a0_4 x4_1 64).bind fun t149 => (if t149 = true then (some 0) else (some 2))) else (some 2))) else (some 2))) else (some 2))) else (some 11)) = some r := H
      have A6 := zX A60
      clear A60
      by_cases c7 : t145 = true
      · subst c7
        have H1 : ((call_within.f a0_1 x3_1 1000).bind fun t146 => (if t146 = true then ((call_within.f a0_2 1 64).bind fun t147 => (if t147 = true then ((call_within.f a0_3 0 16).bind fun t148 => (if t148 = true then ((call_within.f a0_4 x4_1 64).bind fun t149 => (if t149 = true then (some 0) else (some 2))) else (some 2))) else (some 2))) else (some 2))) = some r := by rw [if_pos rfl] at H; exact H
        clear H
        have H := H1
        clear H1
        replace H := Option.bind_eq_some_iff.mp H
        obtain ⟨t146, A80, H⟩ := H
        replace H : (if t146 = true then ((call_within.f a0_2 1 64).bind fun t147 => (if t147 = true then ((call_within.f a0_3 0 16).bind fun t148 => (if t148 = true then ((call_within.f a0_4 x4_1 64).bind fun t149 => (if t149 = true then (some 0) else (some 2))) else (some 2))) else (some 2))) else (some 2)) = some r := H
        have A8 := zX A80
        clear A80
        by_cases c9 : t146 = true
        · subst c9
          have H1 : ((call_within.f a0_2 1 64).bind fun t147 => (if t147 = true then ((call_within.f a0_3 0 16).bind fun t148 => (if t148 = true then ((call_within.f a0_4 x4_1 64).bind fun t149 => (if t149 = true then (some 0) else (some 2))) else (some 2))) else (some 2))) = some r := by rw [if_pos rfl] at H; exact H
          clear H
          have H := H1
          clear H1
          replace H := Option.bind_eq_some_iff.mp H
          obtain ⟨t147, A100, H⟩ := H
          replace H : (if t147 = true then ((call_within.f a0_3 0 16).bind fun t148 => (if t148 = true then ((call_within.f a0_4 x4_1 64).bind fun t149 => (if t149 = true then (some 0) else (some 2))) else (some 2))) else (some 2)) = some r := H
          have A10 := zX A100
          clear A100
          by_cases c11 : t147 = true
          · subst c11
            have H1 : ((call_within.f a0_3 0 16).bind fun t148 => (if t148 = true then ((call_within.f a0_4 x4_1 64).bind fun t149 => (if t149 = true then (some 0) else (some 2))) else (some 2))) = some r := by rw [if_pos rfl] at H; exact H
            clear H
            have H := H1
            clear H1
            replace H := Option.bind_eq_some_iff.mp H
            obtain ⟨t148, A120, H⟩ := H
            replace H : (if t148 = true then ((call_within.f a0_4 x4_1 64).bind fun t149 => (if t149 = true then (some 0) else (some 2))) else (some 2)) = some r := H
            have A12 := zX A120
            clear A120
            by_cases c13 : t148 = true
            · subst c13
              have H1 : ((call_within.f a0_4 x4_1 64).bind fun t149 => (if t149 = true then (some 0) else (some 2))) = some r := by rw [if_pos rfl] at H; exact H
              clear H
              have H := H1
              clear H1
              replace H := Option.bind_eq_some_iff.mp H
              obtain ⟨t149, A140, H⟩ := H
              replace H : (if t149 = true then (some 0) else (some 2)) = some r := H
              have A14 := zX A140
              clear A140
              by_cases c15 : t149 = true
              · subst c15
                have H1 : (some 0) = some r := by rw [if_pos rfl] at H; exact H
                clear H
                have H := H1
                clear H1
                obtain rfl := zQ H
                have hcz16_0 : wc.cell? ⟨gb144, 0, none⟩ = some (.int .i64 a0_0) := (zH BK144.out 0).trans rfl
                have hcz16_1 : wc.cell? ⟨gb144, 1, none⟩ = some (.int .i64 a0_1) := (zH BK144.out 1).trans rfl
                have hcz16_2 : wc.cell? ⟨gb144, 2, none⟩ = some (.int .i64 a0_2) := (zH BK144.out 2).trans rfl
                have hcz16_3 : wc.cell? ⟨gb144, 3, none⟩ = some (.int .i64 a0_3) := (zH BK144.out 3).trans rfl
                have hcz16_4 : wc.cell? ⟨gb144, 4, none⟩ = some (.int .i64 a0_4) := (zH BK144.out 4).trans rfl
                have hfz16_0 := zI BK144.out 0
                have hfz16_1 := zI BK144.out 1
                have hfz16_2 := zI BK144.out 2
                have hfz16_3 := zI BK144.out 3
                have hfz16_4 := zI BK144.out 4
                go_wp2_with (first | ((with_reducible refine gate_callee (f := 78) rfl ?_); refine goesL_ (some 11) rfl rfl Tryd.func78 (by kernel_rfl) rfl #[.int .i64 a0_0, .int .i64 1, .int .i64 3] rfl (by (try simp only [zS, zU, zV]); first | done | rfl | (simp only [zO, zN]; rfl)) ?_; (with_reducible refine (call_within.calls a0_0 1 3 true _ A6.out).mono ?_); rintro e w' ⟨rfl, ⟨nd, rfl⟩⟩; refine ⟨_, rfl, ?_⟩) | ((with_reducible refine gate_callee (f := 78) rfl ?_); refine goesL_ (some 17) rfl rfl Tryd.func78 (by kernel_rfl) rfl #[.int .i64 a0_1, .int .i64 x3_1, .int .i64 1000] rfl (by (try simp only [zS, zU, zV]); first | done | rfl | (simp only [zO, zN]; rfl)) ?_; (with_reducible refine (call_within.calls a0_1 x3_1 1000 true _ A8.out).mono ?_); rintro e w' ⟨rfl, ⟨nd, rfl⟩⟩; refine ⟨_, rfl, ?_⟩) | ((with_reducible refine gate_callee (f := 78) rfl ?_); refine goesL_ (some 21) rfl rfl Tryd.func78 (by kernel_rfl) rfl #[.int .i64 a0_2, .int .i64 1, .int .i64 64] rfl (by (try simp only [zS, zU, zV]); first | done | rfl | (simp only [zO, zN]; rfl)) ?_; (with_reducible refine (call_within.calls a0_2 1 64 true _ A10.out).mono ?_); rintro e w' ⟨rfl, ⟨nd, rfl⟩⟩; refine ⟨_, rfl, ?_⟩) | ((with_reducible refine gate_callee (f := 78) rfl ?_); refine goesL_ (some 25) rfl rfl Tryd.func78 (by kernel_rfl) rfl #[.int .i64 a0_3, .int .i64 0, .int .i64 16] rfl (by (try simp only [zS, zU, zV]); first | done | rfl | (simp only [zO, zN]; rfl)) ?_; (with_reducible refine (call_within.calls a0_3 0 16 true _ A12.out).mono ?_); rintro e w' ⟨rfl, ⟨nd, rfl⟩⟩; refine ⟨_, rfl, ?_⟩) | ((with_reducible refine gate_callee (f := 78) rfl ?_); refine goesL_ (some 30) rfl rfl Tryd.func78 (by kernel_rfl) rfl #[.int .i64 a0_4, .int .i64 x4_1, .int .i64 64] rfl (by (try simp only [zS, zU, zV]); first | done | rfl | (simp only [zO, zN]; rfl)) ?_; (with_reducible refine (call_within.calls a0_4 x4_1 64 true _ A14.out).mono ?_); rintro e w' ⟨rfl, ⟨nd, rfl⟩⟩; refine ⟨_, rfl, ?_⟩))
                go_ret
                exact ⟨by first | rfl | (simp [errW_none, errW_some] <;> rfl) | (simp [*, errW_none, errW_some] <;> rfl), by repeat (first | (with_reducible first | exact HB.out | apply zF | apply zE | apply zG | refine zK ?_ GE144.out) | exact HB.out)⟩
              · replace c15 := Bool.eq_false_iff.mpr c15
                subst c15
                have H1 : (some 2) = some r := by rw [if_neg (show ¬ (false = true) by decide)] at H; exact H
                clear H
                have H := H1
                clear H1
                obtain rfl := zQ H
                have hcz17_0 : wc.cell? ⟨gb144, 0, none⟩ = some (.int .i64 a0_0) := (zH BK144.out 0).trans rfl
                have hcz17_1 : wc.cell? ⟨gb144, 1, none⟩ = some (.int .i64 a0_1) := (zH BK144.out 1).trans rfl
                have hcz17_2 : wc.cell? ⟨gb144, 2, none⟩ = some (.int .i64 a0_2) := (zH BK144.out 2).trans rfl
                have hcz17_3 : wc.cell? ⟨gb144, 3, none⟩ = some (.int .i64 a0_3) := (zH BK144.out 3).trans rfl
                have hcz17_4 : wc.cell? ⟨gb144, 4, none⟩ = some (.int .i64 a0_4) := (zH BK144.out 4).trans rfl
                have hfz17_0 := zI BK144.out 0
                have hfz17_1 := zI BK144.out 1
                have hfz17_2 := zI BK144.out 2
                have hfz17_3 := zI BK144.out 3
                have hfz17_4 := zI BK144.out 4
                go_wp2_with (first | ((with_reducible refine gate_callee (f := 78) rfl ?_); refine goesL_ (some 11) rfl rfl Tryd.func78 (by kernel_rfl) rfl #[.int .i64 a0_0, .int .i64 1, .int .i64 3] rfl (by (try simp only [zS, zU, zV]); first | done | rfl | (simp only [zO, zN]; rfl)) ?_; (with_reducible refine (call_within.calls a0_0 1 3 true _ A6.out).mono ?_); rintro e w' ⟨rfl, ⟨nd, rfl⟩⟩; refine ⟨_, rfl, ?_⟩) | ((with_reducible refine gate_callee (f := 78) rfl ?_); refine goesL_ (some 17) rfl rfl Tryd.func78 (by kernel_rfl) rfl #[.int .i64 a0_1, .int .i64 x3_1, .int .i64 1000] rfl (by (try simp only [zS, zU, zV]); first | done | rfl | (simp only [zO, zN]; rfl)) ?_; (with_reducible refine (call_within.calls a0_1 x3_1 1000 true _ A8.out).mono ?_); rintro e w' ⟨rfl, ⟨nd, rfl⟩⟩; refine ⟨_, rfl, ?_⟩) | ((with_reducible refine gate_callee (f := 78) rfl ?_); refine goesL_ (some 21) rfl rfl Tryd.func78 (by kernel_rfl) rfl #[.int .i64 a0_2, .int .i64 1, .int .i64 64] rfl (by (try simp only [zS, zU, zV]); first | done | rfl | (simp only [zO, zN]; rfl)) ?_; (with_reducible refine (call_within.calls a0_2 1 64 true _ A10.out).mono ?_); rintro e w' ⟨rfl, ⟨nd, rfl⟩⟩; refine ⟨_, rfl, ?_⟩) | ((with_reducible refine gate_callee (f := 78) rfl ?_); refine goesL_ (some 25) rfl rfl Tryd.func78 (by kernel_rfl) rfl #[.int .i64 a0_3, .int .i64 0, .int .i64 16] rfl (by (try simp only [zS, zU, zV]); first | done | rfl | (simp only [zO, zN]; rfl)) ?_; (with_reducible refine (call_within.calls a0_3 0 16 true _ A12.out).mono ?_); rintro e w' ⟨rfl, ⟨nd, rfl⟩⟩; refine ⟨_, rfl, ?_⟩) | ((with_reducible refine gate_callee (f := 78) rfl ?_); refine goesL_ (some 30) rfl rfl Tryd.func78 (by kernel_rfl) rfl #[.int .i64 a0_4, .int .i64 x4_1, .int .i64 64] rfl (by (try simp only [zS, zU, zV]); first | done | rfl | (simp only [zO, zN]; rfl)) ?_; (with_reducible refine (call_within.calls a0_4 x4_1 64 false _ A14.out).mono ?_); rintro e w' ⟨rfl, ⟨nd, rfl⟩⟩; refine ⟨_, rfl, ?_⟩))
                go_ret
                exact ⟨by first | rfl | (simp [errW_none, errW_some] <;> rfl) | (simp [*, errW_none, errW_some] <;> rfl), by repeat (first | (with_reducible first | exact HB.out | apply zF | apply zE | apply zG | refine zK ?_ GE144.out) | exact HB.out)⟩
            · replace c13 := Bool.eq_false_iff.mpr c13
              subst c13
              have H1 : (some 2) = some r := by rw [if_neg (show ¬ (false = true) by decide)] at H; exact H
              clear H
              have H := H1
              clear H1
              obtain rfl := zQ H
              have hcz18_0 : wc.cell? ⟨gb144, 0, none⟩ = some (.int .i64 a0_0) := (zH BK144.out 0).trans rfl
              have hcz18_1 : wc.cell? ⟨gb144, 1, none⟩ = some (.int .i64 a0_1) := (zH BK144.out 1).trans rfl
              have hcz18_2 : wc.cell? ⟨gb144, 2, none⟩ = some (.int .i64 a0_2) := (zH BK144.out 2).trans rfl
              have hcz18_3 : wc.cell? ⟨gb144, 3, none⟩ = some (.int .i64 a0_3) := (zH BK144.out 3).trans rfl
              have hcz18_4 : wc.cell? ⟨gb144, 4, none⟩ = some (.int .i64 a0_4) := (zH BK144.out 4).trans rfl
              have hfz18_0 := zI BK144.out 0
              have hfz18_1 := zI BK144.out 1
              have hfz18_2 := zI BK144.out 2
              have hfz18_3 := zI BK144.out 3
              have hfz18_4 := zI BK144.out 4
              go_wp2_with (first | ((with_reducible refine gate_callee (f := 78) rfl ?_); refine goesL_ (some 11) rfl rfl Tryd.func78 (by kernel_rfl) rfl #[.int .i64 a0_0, .int .i64 1, .int .i64 3] rfl (by (try simp only [zS, zU, zV]); first | done | rfl | (simp only [zO, zN]; rfl)) ?_; (with_reducible refine (call_within.calls a0_0 1 3 true _ A6.out).mono ?_); rintro e w' ⟨rfl, ⟨nd, rfl⟩⟩; refine ⟨_, rfl, ?_⟩) | ((with_reducible refine gate_callee (f := 78) rfl ?_); refine goesL_ (some 17) rfl rfl Tryd.func78 (by kernel_rfl) rfl #[.int .i64 a0_1, .int .i64 x3_1, .int .i64 1000] rfl (by (try simp only [zS, zU, zV]); first | done | rfl | (simp only [zO, zN]; rfl)) ?_; (with_reducible refine (call_within.calls a0_1 x3_1 1000 true _ A8.out).mono ?_); rintro e w' ⟨rfl, ⟨nd, rfl⟩⟩; refine ⟨_, rfl, ?_⟩) | ((with_reducible refine gate_callee (f := 78) rfl ?_); refine goesL_ (some 21) rfl rfl Tryd.func78 (by kernel_rfl) rfl #[.int .i64 a0_2, .int .i64 1, .int .i64 64] rfl (by (try simp only [zS, zU, zV]); first | done | rfl | (simp only [zO, zN]; rfl)) ?_; (with_reducible refine (call_within.calls a0_2 1 64 true _ A10.out).mono ?_); rintro e w' ⟨rfl, ⟨nd, rfl⟩⟩; refine ⟨_, rfl, ?_⟩) | ((with_reducible refine gate_callee (f := 78) rfl ?_); refine goesL_ (some 25) rfl rfl Tryd.func78 (by kernel_rfl) rfl #[.int .i64 a0_3, .int .i64 0, .int .i64 16] rfl (by (try simp only [zS, zU, zV]); first | done | rfl | (simp only [zO, zN]; rfl)) ?_; (with_reducible refine (call_within.calls a0_3 0 16 false _ A12.out).mono ?_); rintro e w' ⟨rfl, ⟨nd, rfl⟩⟩; refine ⟨_, rfl, ?_⟩))
              go_ret
              exact ⟨by first | rfl | (simp [errW_none, errW_some] <;> rfl) | (simp [*, errW_none, errW_some] <;> rfl), by repeat (first | (with_reducible first | exact HB.out | apply zF | apply zE | apply zG | refine zK ?_ GE144.out) | exact HB.out)⟩
          · replace c11 := Bool.eq_false_iff.mpr c11
            subst c11
            have H1 : (some 2) = some r := by rw [if_neg (show ¬ (false = true) by decide)] at H; exact H
            clear H
            have H := H1
            clear H1
            obtain rfl := zQ H
            have hcz19_0 : wc.cell? ⟨gb144, 0, none⟩ = some (.int .i64 a0_0) := (zH BK144.out 0).trans rfl
            have hcz19_1 : wc.cell? ⟨gb144, 1, none⟩ = some (.int .i64 a0_1) := (zH BK144.out 1).trans rfl
            have hcz19_2 : wc.cell? ⟨gb144, 2, none⟩ = some (.int .i64 a0_2) := (zH BK144.out 2).trans rfl
            have hcz19_3 : wc.cell? ⟨gb144, 3, none⟩ = some (.int .i64 a0_3) := (zH BK144.out 3).trans rfl
            have hcz19_4 : wc.cell? ⟨gb144, 4, none⟩ = some (.int .i64 a0_4) := (zH BK144.out 4).trans rfl
            have hfz19_0 := zI BK144.out 0
            have hfz19_1 := zI BK144.out 1
            have hfz19_2 := zI BK144.out 2
            have hfz19_3 := zI BK144.out 3
            have hfz19_4 := zI BK144.out 4
            go_wp2_with (first | ((with_reducible refine gate_callee (f := 78) rfl ?_); refine goesL_ (some 11) rfl rfl Tryd.func78 (by kernel_rfl) rfl #[.int .i64 a0_0, .int .i64 1, .int .i64 3] rfl (by (try simp only [zS, zU, zV]); first | done | rfl | (simp only [zO, zN]; rfl)) ?_; (with_reducible refine (call_within.calls a0_0 1 3 true _ A6.out).mono ?_); rintro e w' ⟨rfl, ⟨nd, rfl⟩⟩; refine ⟨_, rfl, ?_⟩) | ((with_reducible refine gate_callee (f := 78) rfl ?_); refine goesL_ (some 17) rfl rfl Tryd.func78 (by kernel_rfl) rfl #[.int .i64 a0_1, .int .i64 x3_1, .int .i64 1000] rfl (by (try simp only [zS, zU, zV]); first | done | rfl | (simp only [zO, zN]; rfl)) ?_; (with_reducible refine (call_within.calls a0_1 x3_1 1000 true _ A8.out).mono ?_); rintro e w' ⟨rfl, ⟨nd, rfl⟩⟩; refine ⟨_, rfl, ?_⟩) | ((with_reducible refine gate_callee (f := 78) rfl ?_); refine goesL_ (some 21) rfl rfl Tryd.func78 (by kernel_rfl) rfl #[.int .i64 a0_2, .int .i64 1, .int .i64 64] rfl (by (try simp only [zS, zU, zV]); first | done | rfl | (simp only [zO, zN]; rfl)) ?_; (with_reducible refine (call_within.calls a0_2 1 64 false _ A10.out).mono ?_); rintro e w' ⟨rfl, ⟨nd, rfl⟩⟩; refine ⟨_, rfl, ?_⟩))
            go_ret
            exact ⟨by first | rfl | (simp [errW_none, errW_some] <;> rfl) | (simp [*, errW_none, errW_some] <;> rfl), by repeat (first | (with_reducible first | exact HB.out | apply zF | apply zE | apply zG | refine zK ?_ GE144.out) | exact HB.out)⟩
        · replace c9 := Bool.eq_false_iff.mpr c9
          subst c9
          have H1 : (some 2) = some r := by rw [if_neg (show ¬ (false = true) by decide)] at H; exact H
          clear H
          have H := H1
          clear H1
          obtain rfl := zQ H
          have hcz20_0 : wc.cell? ⟨gb144, 0, none⟩ = some (.int .i64 a0_0) := (zH BK144.out 0).trans rfl
          have hcz20_1 : wc.cell? ⟨gb144, 1, none⟩ = some (.int .i64 a0_1) := (zH BK144.out 1).trans rfl
          have hcz20_2 : wc.cell? ⟨gb144, 2, none⟩ = some (.int .i64 a0_2) := (zH BK144.out 2).trans rfl
          have hcz20_3 : wc.cell? ⟨gb144, 3, none⟩ = some (.int .i64 a0_3) := (zH BK144.out 3).trans rfl
          have hcz20_4 : wc.cell? ⟨gb144, 4, none⟩ = some (.int .i64 a0_4) := (zH BK144.out 4).trans rfl
          have hfz20_0 := zI BK144.out 0
          have hfz20_1 := zI BK144.out 1
          have hfz20_2 := zI BK144.out 2
          have hfz20_3 := zI BK144.out 3
          have hfz20_4 := zI BK144.out 4
          go_wp2_with (first | ((with_reducible refine gate_callee (f := 78) rfl ?_); refine goesL_ (some 11) rfl rfl Tryd.func78 (by kernel_rfl) rfl #[.int .i64 a0_0, .int .i64 1, .int .i64 3] rfl (by (try simp only [zS, zU, zV]); first | done | rfl | (simp only [zO, zN]; rfl)) ?_; (with_reducible refine (call_within.calls a0_0 1 3 true _ A6.out).mono ?_); rintro e w' ⟨rfl, ⟨nd, rfl⟩⟩; refine ⟨_, rfl, ?_⟩) | ((with_reducible refine gate_callee (f := 78) rfl ?_); refine goesL_ (some 17) rfl rfl Tryd.func78 (by kernel_rfl) rfl #[.int .i64 a0_1, .int .i64 x3_1, .int .i64 1000] rfl (by (try simp only [zS, zU, zV]); first | done | rfl | (simp only [zO, zN]; rfl)) ?_; (with_reducible refine (call_within.calls a0_1 x3_1 1000 false _ A8.out).mono ?_); rintro e w' ⟨rfl, ⟨nd, rfl⟩⟩; refine ⟨_, rfl, ?_⟩))
          go_ret
          exact ⟨by first | rfl | (simp [errW_none, errW_some] <;> rfl) | (simp [*, errW_none, errW_some] <;> rfl), by repeat (first | (with_reducible first | exact HB.out | apply zF | apply zE | apply zG | refine zK ?_ GE144.out) | exact HB.out)⟩
      · replace c7 := Bool.eq_false_iff.mpr c7
        subst c7
        have H1 : (some 11) = some r := by rw [if_neg (show ¬ (false = true) by decide)] at H; exact H
        clear H
        have H := H1
        clear H1
        obtain rfl := zQ H
        have hcz21_0 : wc.cell? ⟨gb144, 0, none⟩ = some (.int .i64 a0_0) := (zH BK144.out 0).trans rfl
        have hcz21_1 : wc.cell? ⟨gb144, 1, none⟩ = some (.int .i64 a0_1) := (zH BK144.out 1).trans rfl
        have hcz21_2 : wc.cell? ⟨gb144, 2, none⟩ = some (.int .i64 a0_2) := (zH BK144.out 2).trans rfl
        have hcz21_3 : wc.cell? ⟨gb144, 3, none⟩ = some (.int .i64 a0_3) := (zH BK144.out 3).trans rfl
        have hcz21_4 : wc.cell? ⟨gb144, 4, none⟩ = some (.int .i64 a0_4) := (zH BK144.out 4).trans rfl
        have hfz21_0 := zI BK144.out 0
        have hfz21_1 := zI BK144.out 1
        have hfz21_2 := zI BK144.out 2
        have hfz21_3 := zI BK144.out 3
        have hfz21_4 := zI BK144.out 4
        go_wp2_with (first | ((with_reducible refine gate_callee (f := 78) rfl ?_); refine goesL_ (some 11) rfl rfl Tryd.func78 (by kernel_rfl) rfl #[.int .i64 a0_0, .int .i64 1, .int .i64 3] rfl (by (try simp only [zS, zU, zV]); first | done | rfl | (simp only [zO, zN]; rfl)) ?_; (with_reducible refine (call_within.calls a0_0 1 3 false _ A6.out).mono ?_); rintro e w' ⟨rfl, ⟨nd, rfl⟩⟩; refine ⟨_, rfl, ?_⟩))
        go_ret
        exact ⟨by first | rfl | (simp [errW_none, errW_some] <;> rfl) | (simp [*, errW_none, errW_some] <;> rfl), by repeat (first | (with_reducible first | exact HB.out | apply zF | apply zE | apply zG | refine zK ?_ GE144.out) | exact HB.out)⟩

/-! ### call_is: function 59 -/
def call_is.f (a0 : Int) : Option (Bool) := if a0 ≥ 1 then (some (decide (a0 ≤ 13))) else (some false)
set_option maxHeartbeats 8000000 in
set_option maxRecDepth 100000 in
theorem call_is.calls (a0 : Int) (r : Bool) (w : World) (h : call_is.f a0 = some r) :
    Calls Tryd.prog 59 #[.int .i64 a0] w fun e w' => e = .returned (.bool r) ∧ Drawn0 w w' := by
  have H : (if a0 ≥ 1 then (some (decide (a0 ≤ 13))) else (some false)) = some r := h
  clear h
  by_cases c2 : a0 ≥ 1
  · rw [if_pos c2] at H
    have c2b0 : decide (1 ≤ a0) = true := zW c2
    clear c2
    obtain rfl := zQ H
    go_enter Tryd.func59, Tryd.ntmps59
    go_wp2
    go_ret
    exact ⟨by first | rfl | (simp; done) | (simp [*]; done), by repeat (first | exact Drawn0.refl _ | apply Drawn0.step)⟩
  · rw [if_neg c2] at H
    have c2b0 : decide (1 ≤ a0) = false := decide_eq_false c2
    clear c2
    obtain rfl := zQ H
    go_enter Tryd.func59, Tryd.ntmps59
    go_wp2
    go_ret
    exact ⟨by first | rfl | (simp; done) | (simp [*]; done), by repeat (first | exact Drawn0.refl _ | apply Drawn0.step)⟩

end Go.Proofs.YthnococjdeafhaaDoor.PModelKeeps
