-- printed by a program of the session (wip/hyb/mkprint.py)
import Derived.Test.YthnococjdeafhaaDoorPModelKeepsx0
import Derived.Test.YthnococjdeafhaaDoorPModelKeepsx3
namespace Go.Proofs.YthnococjdeafhaaDoor.PModelKeeps
open Go.RowKit Go.Proofs.YthnococjdeafhaaDoorW.PrintWords Go.Proofs.YthnococjdeafhaaDoorW.PrintLast Go.Proofs.YthnococjdeafhaaDoorW.PrintMore
attribute [local go_sem] max2_int min2_int max_two min_two max_three min_three max_four min_four   -- for this text's walks alone
set_option linter.unusedVariables false
set_option linter.unusedSimpArgs false

/-! ### boscagelaw31_Few: function 7 -/
def boscagelaw31_Few.l0 : Nat → Int → List (S65) → List (S61) → List (S65) → List (S61) → Option ((List (S65)) × (List (S61)))
  | 0, _, _, _, _, _ => none
  | k + 1, x4, x112000, x112001, x117000, x117001 => if x4 < (x112001.length : Int) then (if x4 < 6 then (if 0 ≤ x4 then ((boscagelaw07_Few.f k ((rd_T61 x112001 x4).f1)).bind fun t119 => (if x117001.length < 4398046511104 then (boscagelaw31_Few.l0 k (wrap64 (x4 + 1)) x112000 x112001 x117000 (x117001 ++ [(⟨(rd_T61 x112001 x4).f0, t119⟩ : S61)])) else (none))) else (none)) else (some (x117000, x117001))) else (some (x117000, x117001))
def boscagelaw31_Few.f (k : Nat) (l0_0 : List (S65)) (l0_1 : List (S61)) : Option ((List (S65)) × (List (S61))) := (boscagelaw07_Few.f k l0_0).bind fun t113 => (boscagelaw31_Few.l0 k 0 l0_0 l0_1 t113 ([] : List (S61)))
def boscagelaw31_Few.T5 : Bool × List (List Nat × List Nat) := (true, [([], []), ([0], [0]), ([], []), ([2], [2]), ([], []), ([3, 4], [3, 4]), ([5], [5]), ([6], [6]), ([], []), ([8], [8]), ([], []), ([9, 10], [9, 10]), ([11], [11]), ([12], [12]), ([13], [13]), ([7, 14], [7, 14]), ([15], [15]), ([1, 16, 14], [1, 16]), ([0, 1, 2, 3, 4, 5, 6, 7, 8, 9, 10, 11, 12, 13, 14, 15, 16, 17], []), ([18, 17, 17, 0, 1, 2, 3, 4, 5, 6, 7, 8, 9, 10, 11, 12, 13, 14, 15, 16, 17], [17, 18])])
def boscagelaw31_Few.B5 : List Nat := [0, 1, 0, 4, 0, 28, 60, 124, 0, 256, 0, 1792, 3840, 7936, 16128, 32764, 65532, 131071, 262143, 524287]
theorem boscagelaw31_Few.tab5 : rtab .any (opsOf Tryd.f7 5) = boscagelaw31_Few.T5 := by kernel_rfl
theorem boscagelaw31_Few.bits5 : waitsOk boscagelaw31_Few.T5.2 boscagelaw31_Few.B5 = true := by kernel_rfl
set_option maxHeartbeats 8000000 in
set_option maxRecDepth 100000 in
theorem boscagelaw31_Few.calls (k : Nat) (A0_0 : Option Addr) (c0_0 : Nat) (l0_0 : List (S65)) (A0_1 : Option Addr) (c0_1 : Nat) (l0_1 : List (S61)) (r1 : List (S65)) (r2 : List (S61)) (w : World) (hr0_0 : Kd.C k65 w A0_0 l0_0.length l0_0) (hc0_0 : l0_0.length ≤ c0_0) (hr0_1 : Kd.C k61 w A0_1 l0_1.length l0_1) (hc0_1 : l0_1.length ≤ c0_1) (h : boscagelaw31_Few.f k l0_0 l0_1 = some (r1, r2)) :
    Calls Tryd.prog 7 #[.agg #[.slice A0_0 l0_0.length c0_0, .slice A0_1 l0_1.length c0_1]] w fun e w' => ∃ v0_ v1_ : Value, e = .returned (.agg #[v0_, v1_]) ∧ Kd.R k65 65 w' w.heap.size (fun _ => True) v0_ r1 ∧ Kd.S k61 61 w' w.heap.size (fun k_ => some k_ ≠ (v0_ : Value).ownBlock) v1_ r2 ∧ Below w.heap.size w w' := by
  have hu27 := Tryd.underlying27
  have hu61 := Tryd.underlying61
  have HR0_0 := zX hr0_0
  have HC0_0 := zX hc0_0
  clear hr0_0 hc0_0
  have HR0_1 := zX hr0_1
  have HC0_1 := zX hc0_1
  clear hr0_1 hc0_1
  have HB := zX (zi w.heap.size w)
  have H : ((boscagelaw07_Few.f k l0_0).bind fun t113 => (boscagelaw31_Few.l0 k 0 l0_0 l0_1 t113 ([] : List (S61)))) = some (r1, r2) := h
  clear h
  replace H := Option.bind_eq_some_iff.mp H
  obtain ⟨t113, A20, H⟩ := H
  replace H : (boscagelaw31_Few.l0 k 0 l0_0 l0_1 t113 ([] : List (S61))) = some (r1, r2) := H
  have A2 := zX A20
  clear A20
  have H' := zX H
  clear H
  go_enter Tryd.func7, Tryd.ntmps7
  go_wp2_with (first | ((with_reducible refine gate_dst (N := 1) rfl ?_); refine box_event ?hg (N := 1) ?hd (cs := #[.slice A0_0 l0_0.length c0_0, .slice A0_1 l0_1.length c0_1]) (t := 27) ?hr ?_; (case hd => rfl); (case hg => rfl); (case hr => first | (go_simp; done) | (go_simp; rfl)); intro gb111 hg w3 hbox hb; have n0_ := zX (zT (by repeat (first | (with_reducible first | exact HB.out | apply zF | apply zE | apply zG) | exact HB.out)) hb); have n1_ := zX (hbox); have n2_ := zX ((by rw [hg]; exact (zY (by repeat (first | (with_reducible first | exact HB.out | apply zF | apply zE | apply zG) | exact HB.out))) : w.heap.size ≤ gb111)); have n3_ := zX ((by rw [hg]; exact (zY (by repeat (first | (with_reducible first | exact HB.out | apply zF | apply zE | apply zG) | exact HB.out))) : w.heap.size ≤ gb111)); clear HB; have HB := n0_; have BK111 := n1_; have GW111 := n2_; have GE111 := n3_; clear n0_ n1_ n2_ n3_; clear hb hbox hg) | ((with_reducible refine gate_dst (N := 2) rfl ?_); refine box_event ?hg (N := 2) ?hd (cs := #[.slice none 0 0, .slice none 0 0]) (t := 27) ?hr ?_; (case hd => rfl); (case hg => rfl); (case hr => first | (go_simp; done) | (go_simp; rfl)); intro gb112 hg w4 hbox hb; have n0_ := zX (zm (g := gb111) (o := .cells #[.slice A0_0 l0_0.length c0_0, .slice A0_1 l0_1.length c0_1] 27 (0, 0)) (by (with_reducible repeat (first | refine zL ?_ _ | refine zM ?_ | refine zJ ?_ _)); exact BK111.out) hb); have n1_ := zX (zT (by repeat (first | (with_reducible first | exact HB.out | apply zF | apply zE | apply zG | refine zK ?_ GE111.out) | exact HB.out)) hb); have n2_ := zX (hbox); have n3_ := zX ((by rw [hg]; exact (zY (by repeat (first | (with_reducible first | exact HB.out | apply zF | apply zE | apply zG | refine zK ?_ GE111.out) | exact HB.out))) : w.heap.size ≤ gb112)); have n4_ := zX ((by rw [hg]; exact (zY (by repeat (first | (with_reducible first | exact HB.out | apply zF | apply zE | apply zG | refine zK ?_ GE111.out) | exact HB.out))) : w.heap.size ≤ gb112)); have n5_ := zX ((by rw [hg]; exact Nat.ne_of_lt (blk_lt (g := gb111) (o := .cells #[.slice A0_0 l0_0.length c0_0, .slice A0_1 l0_1.length c0_1] 27 (0, 0)) (by (with_reducible repeat (first | refine zL ?_ _ | refine zM ?_ | refine zJ ?_ _)); exact BK111.out)) : gb111 ≠ gb112)); have n6_ := zX ((by rw [hg]; exact Nat.ne_of_gt (blk_lt (g := gb111) (o := .cells #[.slice A0_0 l0_0.length c0_0, .slice A0_1 l0_1.length c0_1] 27 (0, 0)) (by (with_reducible repeat (first | refine zL ?_ _ | refine zM ?_ | refine zJ ?_ _)); exact BK111.out)) : gb112 ≠ gb111)); clear BK111; clear HB; have BK111 := n0_; have HB := n1_; have BK112 := n2_; have GW112 := n3_; have GE112 := n4_; have NB111_112 := n5_; have NB112_111 := n6_; clear n0_ n1_ n2_ n3_ n4_ n5_ n6_; clear hb hbox hg; have hnb5 := NB111_112.out; have hnc5 := NB112_111.out; have hcz6_0 : w4.cell? ⟨gb111, 0, none⟩ = some (.slice A0_0 l0_0.length c0_0) := (zH BK111.out 0).trans rfl; have hcz6_1 : w4.cell? ⟨gb111, 1, none⟩ = some (.slice A0_1 l0_1.length c0_1) := (zH BK111.out 1).trans rfl; have hfz6_0 := zI BK111.out 0; have hfz6_1 := zI BK111.out 1) | ((with_reducible refine gate_callee (f := 24) rfl ?_); refine goesL_ (some 7) rfl rfl Tryd.func24 (by kernel_rfl) rfl #[.slice A0_0 l0_0.length c0_0] rfl (by (try simp only [zS, zU, zV]); first | done | rfl | (simp only [zO, zN]; rfl)) ?_; (with_reducible refine (boscagelaw07_Few.calls k _ _ l0_0 t113 _ ?side1 ?side2 A2.out).mono ?_); (case side1 => repeat (first | exact (zZ HR0_0.out HB.out) | (with_reducible refine Kd.C_alloc ?_ _) | (with_reducible refine Kd.C_drewN ?_ _) | (with_reducible refine Kd.C_drew ?_))); (case side2 => exact HC0_0.out); rintro e w7 ⟨v114, rfl, ho0, hb⟩; refine ⟨_, rfl, ?_⟩; have n0_ := zX (Kd.R_lower ho0 (zY (by repeat (first | (with_reducible first | exact HB.out | apply zF | apply zE | apply zG | refine zK ?_ GE111.out | refine zK ?_ GE112.out) | exact HB.out)))); have n1_ := zX (zm (g := gb111) (o := .cells #[.slice A0_0 l0_0.length c0_0, .slice A0_1 l0_1.length c0_1] 27 (0, 0)) (by (with_reducible repeat (first | refine zL ?_ _ | refine zM ?_ | refine zJ ?_ _)); exact BK111.out) hb); have n2_ := zX (zm (g := gb112) (o := .cells #[.slice none 0 0, .slice none 0 0] 27 (0, 0)) (by (with_reducible repeat (first | refine zL ?_ _ | refine zM ?_ | refine zJ ?_ _)); exact BK112.out) hb); have n3_ := zX (zT (by repeat (first | (with_reducible first | exact HB.out | apply zF | apply zE | apply zG | refine zK ?_ GE111.out | refine zK ?_ GE112.out) | exact HB.out)) hb); clear BK111; clear BK112; clear HB; have HO115 := n0_; have BK111 := n1_; have BK112 := n2_; have HB := n3_; clear n0_ n1_ n2_ n3_; (try clear hb); (try clear hb2); (try clear hk); (try clear hi); (try clear ho0); obtain ⟨Ao8, co8, eo8⟩ := Kd.R_slice HO115.out; subst eo8) | ((with_reducible refine gate_dst (N := 3) rfl ?_); refine box_event ?hg (N := 3) ?hd (cs := #[.slice none 0 0, .slice none 0 0]) (t := 27) ?hr ?_; (case hd => rfl); (case hg => rfl); (case hr => first | (go_simp; done) | (go_simp; rfl)); intro gb116 hg w9 hbox hb; have n0_ := zX (Kd.R_below (by (with_reducible repeat (first | apply za | apply zg | apply zh)); exact HO115.out) hb); have n1_ := zX (zm (g := gb111) (o := .cells #[.slice A0_0 l0_0.length c0_0, .slice A0_1 l0_1.length c0_1] 27 (0, 0)) (by (with_reducible repeat (first | refine zL ?_ _ | refine zM ?_ | refine zJ ?_ _)); exact BK111.out) hb); have n2_ := zX (zm (g := gb112) (o := .cells #[.slice none 0 0, .slice none 0 0] 27 (0, 0)) (by (with_reducible repeat (first | refine zL ?_ _ | refine zM ?_ | refine zJ ?_ _)); exact BK112.out) hb); have n3_ := zX (zT (by repeat (first | (with_reducible first | exact HB.out | apply zF | apply zE | apply zG | refine zK ?_ GE111.out | refine zK ?_ GE112.out) | exact HB.out)) hb); have n4_ := zX (hbox); have n5_ := zX ((by rw [hg]; exact (zY (by repeat (first | (with_reducible first | exact HB.out | apply zF | apply zE | apply zG | refine zK ?_ GE111.out | refine zK ?_ GE112.out) | exact HB.out))) : w.heap.size ≤ gb116)); have n6_ := zX ((by rw [hg]; exact (zY (by repeat (first | (with_reducible first | exact HB.out | apply zF | apply zE | apply zG | refine zK ?_ GE111.out | refine zK ?_ GE112.out) | exact HB.out))) : w.heap.size ≤ gb116)); have n7_ := zX ((by rw [hg]; exact Nat.ne_of_lt (blk_lt (g := gb111) (o := .cells #[.slice A0_0 l0_0.length c0_0, .slice A0_1 l0_1.length c0_1] 27 (0, 0)) (by (with_reducible repeat (first | refine zL ?_ _ | refine zM ?_ | refine zJ ?_ _)); exact BK111.out)) : gb111 ≠ gb116)); have n8_ := zX ((by rw [hg]; exact Nat.ne_of_gt (blk_lt (g := gb111) (o := .cells #[.slice A0_0 l0_0.length c0_0, .slice A0_1 l0_1.length c0_1] 27 (0, 0)) (by (with_reducible repeat (first | refine zL ?_ _ | refine zM ?_ | refine zJ ?_ _)); exact BK111.out)) : gb116 ≠ gb111)); have n9_ := zX ((by rw [hg]; exact Nat.ne_of_lt (blk_lt (g := gb112) (o := .cells #[.slice none 0 0, .slice none 0 0] 27 (0, 0)) (by (with_reducible repeat (first | refine zL ?_ _ | refine zM ?_ | refine zJ ?_ _)); exact BK112.out)) : gb112 ≠ gb116)); have n10_ := zX ((by rw [hg]; exact Nat.ne_of_gt (blk_lt (g := gb112) (o := .cells #[.slice none 0 0, .slice none 0 0] 27 (0, 0)) (by (with_reducible repeat (first | refine zL ?_ _ | refine zM ?_ | refine zJ ?_ _)); exact BK112.out)) : gb116 ≠ gb112)); clear HO115; clear BK111; clear BK112; clear HB; have HO115 := n0_; have BK111 := n1_; have BK112 := n2_; have HB := n3_; have BK116 := n4_; have GW116 := n5_; have GE116 := n6_; have NB111_116 := n7_; have NB116_111 := n8_; have NB112_116 := n9_; have NB116_112 := n10_; clear n0_ n1_ n2_ n3_ n4_ n5_ n6_ n7_ n8_ n9_ n10_; clear hb hbox hg; have hnb10 := NB116_111.out; have hnc10 := NB111_116.out; have hnb11 := NB116_112.out; have hnc11 := NB112_116.out; have hcz12_0 : w9.cell? ⟨gb116, 0, none⟩ = some (.slice none 0 0) := (zH BK116.out 0).trans rfl; have hcz12_1 : w9.cell? ⟨gb116, 1, none⟩ = some (.slice none 0 0) := (zH BK116.out 1).trans rfl; have hfz12_0 := zI BK116.out 0; have hfz12_1 := zI BK116.out 1))
  go_loopg [4] k (fun kq v4 w' => ∃ (x4_1 : Int) (x117001_1 : List (S61)) (u117001 : Value), v4 = .int .i64 x4_1 ∧ Aside0 (boscagelaw31_Few.l0 kq x4_1 l0_0 l0_1 t113 x117001_1 = some (r1, r2)) ∧ Aside0 (kq ≤ k) ∧ Aside0 (Kd.R k65 65 w' w.heap.size (fun _ => True) (.slice Ao8 t113.length co8) t113) ∧ Aside0 (Kd.S k61 61 w' w.heap.size (fun k_ => some k_ ≠ ((.slice Ao8 t113.length co8) : Value).ownBlock) u117001 x117001_1) ∧ Aside0 (w'.heap[gb111]? = some (.cells #[(.slice A0_0 l0_0.length c0_0), (.slice A0_1 l0_1.length c0_1)] 27 (0, 0))) ∧ Aside0 (w'.heap[gb112]? = some (.cells #[(.slice none 0 0), (.slice none 0 0)] 27 (0, 0))) ∧ Aside0 (w'.heap[gb116]? = some (.cells #[(.slice Ao8 t113.length co8), u117001] 27 (0, 0))) ∧ Aside0 (Below w.heap.size w w'))
  case atStart => exact ⟨(0), (([] : List (S61))), (.slice none 0 0), (by first | rfl | (simp; done) | (simp [*]; done)), H', ⟨Nat.le_refl _⟩, ⟨by (with_reducible repeat (first | apply za | apply zg | apply zh)); exact Kd.R_mono (Kd.R_far (p := ⟨gb116, 1, none⟩) (Kd.R_far (p := ⟨gb116, 0, none⟩) (zk HO115.out BK116.out (by decide)) (fun _ hk => hk.2) (.slice Ao8 t113.length co8)) (fun _ hk => hk.2) (.slice none 0 0)) (fun _ hk => trivial)⟩, ⟨by first | exact Kd.S_nil _ _ _ _ _ | exact Kd.N_nil _ _ _ _ _ | exact Kd.V_nil _ _ _ _ _ | exact Kd.Q_nil _ _ _ _ _ | exact Kd.R_nil _ _ _ _ _⟩, ⟨by (with_reducible repeat (first | refine zL ?_ _ | refine zM ?_ | refine zJ ?_ _)); refine blk_far ?_ NB111_116.out _; (with_reducible repeat (first | refine zL ?_ _ | refine zM ?_ | refine zJ ?_ _)); refine blk_far ?_ NB111_116.out _; (with_reducible repeat (first | refine zL ?_ _ | refine zM ?_ | refine zJ ?_ _)); exact BK111.out⟩, ⟨by (with_reducible repeat (first | refine zL ?_ _ | refine zM ?_ | refine zJ ?_ _)); refine blk_far ?_ NB112_116.out _; (with_reducible repeat (first | refine zL ?_ _ | refine zM ?_ | refine zJ ?_ _)); refine blk_far ?_ NB112_116.out _; (with_reducible repeat (first | refine zL ?_ _ | refine zM ?_ | refine zJ ?_ _)); exact BK112.out⟩, ⟨by (with_reducible repeat (first | refine zL ?_ _ | refine zM ?_ | refine zJ ?_ _)); refine blk_put (cs := #[.slice Ao8 t113.length co8, .slice none 0 0]) ?_ 1 _ rfl; (with_reducible repeat (first | refine zL ?_ _ | refine zM ?_ | refine zJ ?_ _)); refine blk_put (cs := #[.slice none 0 0, .slice none 0 0]) ?_ 0 _ rfl; (with_reducible repeat (first | refine zL ?_ _ | refine zM ?_ | refine zJ ?_ _)); exact BK116.out⟩, ⟨by repeat (first | (with_reducible first | exact HB.out | apply zF | apply zE | apply zG | refine zK ?_ GE111.out | refine zK ?_ GE112.out | refine zK ?_ GE116.out) | exact HB.out)⟩⟩
  case round =>
    clear H'
    try clear c1
    try clear c2
    try clear p2
    try clear c5
    try clear c7
    try clear c10
    try clear c11
    try clear hcz12_0
    try clear hcz12_1
    try clear hcz6_0
    try clear hcz6_1
    try clear hfz12_0
    try clear hfz12_1
    try clear hfz6_0
    try clear hfz6_1
    obtain ⟨x4_1, x117001_1, u117001, rfl, HA, HK1, HO_117000, HO_117001, BK111, BK112, BK116, HB⟩ := hrel
    cases gk with
    | zero => exact absurd HA.out (by simp [boscagelaw31_Few.l0])
    | succ k1 =>
      have H := HA.out
      clear HA
      simp only [boscagelaw31_Few.l0] at H
      by_cases c13 : x4_1 < (l0_1.length : Int)
      · rw [if_pos c13] at H
        have c13b0 : decide (x4_1 < (l0_1.length : Int)) = true := zW c13
        clear c13
        by_cases c14 : x4_1 < 6
        · rw [if_pos c14] at H
          have c14b0 : decide (x4_1 < 6) = true := zW c14
          clear c14
          by_cases c15 : 0 ≤ x4_1
          · rw [if_pos c15] at H
            have c15b0 : decide (0 ≤ x4_1) = true := zW c15
            clear c15
            replace H := Option.bind_eq_some_iff.mp H
            obtain ⟨t119, A160, H⟩ := H
            replace H : (if x117001_1.length < 4398046511104 then (boscagelaw31_Few.l0 k1 (wrap64 (x4_1 + 1)) l0_0 l0_1 t113 (x117001_1 ++ [(⟨(rd_T61 l0_1 x4_1).f0, t119⟩ : S61)])) else (none)) = some (r1, r2) := H
            have A16 := zX A160
            clear A160
            by_cases c17 : x117001_1.length < 4398046511104
            · rw [if_pos c17] at H
              have LMc17 := zX c17
              clear c17
              obtain ⟨y122, hy122⟩ : ∃ y_ : List (S61), y_ = (x117001_1 ++ [(⟨(rd_T61 l0_1 x4_1).f0, t119⟩ : S61)]) := ⟨_, rfl⟩
              replace H : (boscagelaw31_Few.l0 k1 (wrap64 (x4_1 + 1)) l0_0 l0_1 t113 y122) = some (r1, r2) := by first | (rw [hy122]; with_reducible exact H) | (have H2_ := (Option.bind_some _ _).symm.trans H; rw [hy122]; with_reducible exact H2_) | (have H2_ := (Option.bind_some _ _).symm.trans H; with_reducible exact H2_) | with_reducible exact H | (rw [hy122]; exact H) | exact H
              have Ny122 := zX hy122
              clear hy122
              have H' := zX H
              clear H
              have hnb18 := NB111_112.out
              have hnc18 := NB112_111.out
              have hnb19 := NB111_116.out
              have hnc19 := NB116_111.out
              have hcz20_0 : wr.cell? ⟨gb111, 0, none⟩ = some (.slice A0_0 l0_0.length c0_0) := (zH BK111.out 0).trans rfl
              have hcz20_1 : wr.cell? ⟨gb111, 1, none⟩ = some (.slice A0_1 l0_1.length c0_1) := (zH BK111.out 1).trans rfl
              have hfz20_0 := zI BK111.out 0
              have hfz20_1 := zI BK111.out 1
              try go_wp2
              have n0_ := zX (zh HO_117000.out)
              have n1_ := zX (Kd.S_drew HO_117001.out)
              have n2_ := zX (zM BK111.out)
              have n3_ := zX (zM BK112.out)
              have n4_ := zX (zM BK116.out)
              have n5_ := zX (zG HB.out)
              clear HO_117000
              clear HO_117001
              clear BK111
              clear BK112
              clear BK116
              clear HB
              have HO_117000 := n0_
              have HO_117001 := n1_
              have BK111 := n2_
              have BK112 := n3_
              have BK116 := n4_
              have HB := n5_
              clear n0_ n1_ n2_ n3_ n4_ n5_
              have p117 : 0 ≤ (x4_1 : Int) := zP (by first | (with_reducible assumption) | assumption)
              have q117 : x4_1 < (l0_1.length : Int) := zP (by first | (with_reducible assumption) | assumption)
              obtain ⟨ad117, A117_1, c117_1, e117, hx117_0, hx117_1, hl117_1, hi117_1⟩ := at_T61 HR0_1.out x4_1 p117 q117
              have hw117_1 := hx117_1
              have hw117_0 := hx117_0
              cases e117
              replace hx117_0 := (HB.out.cell (zB w _ hx117_0)).trans hx117_0
              replace hx117_1 := (HB.out.cell (zB w _ hx117_1)).trans hx117_1
              have HR117_1 := zX hi117_1
              have HC117_1 := zX hl117_1
              clear hi117_1 hl117_1
              replace p117 := eq_true p117
              replace q117 := eq_true q117
              have p118 : 0 ≤ (x4_1 : Int) := zP (by first | (with_reducible assumption) | assumption)
              have q118 : x4_1 < (l0_1.length : Int) := zP (by first | (with_reducible assumption) | assumption)
              obtain ⟨ad118, A118_1, c118_1, e118, hx118_0, hx118_1, hl118_1, hi118_1⟩ := at_T61 HR0_1.out x4_1 p118 q118
              have hw118_1 := hx118_1
              have hw118_0 := hx118_0
              obtain rfl : ad117 = ad118 := (by injection e118)
              replace hx118_0 := (HB.out.cell (zB w _ hx118_0)).trans hx118_0
              replace hx118_1 := (HB.out.cell (zB w _ hx118_1)).trans hx118_1
              have HR118_1 := zX hi118_1
              have HC118_1 := zX hl118_1
              clear hi118_1 hl118_1
              replace p118 := eq_true p118
              replace q118 := eq_true q118
              have ea_ := zQ (hx117_1.symm.trans hx118_1)
              injection ea_ with ea_ en_ ec_
              subst ea_
              subst ec_
              clear en_
              refine start_ (n := 20) (S := fun w' => w'.cell? ⟨gb116, 0, none⟩ = some (.slice Ao8 t113.length co8) ∧ w'.cell? ⟨gb116, 1, none⟩ = some (u117001) ∧ w'.cell? ⟨gb111, 0, none⟩ = some (.slice A0_0 l0_0.length c0_0) ∧ w'.cell? ⟨gb111, 1, none⟩ = some (.slice (some ad117) l0_1.length c0_1) ∧ w'.cell? (ad117.add ((x4_1).toNat * 2)) = some (.int .i64 ((rd_T61 l0_1 x4_1).f0)) ∧ w'.cell? ⟨(ad117.add ((x4_1).toNat * 2)).block, (ad117.add ((x4_1).toNat * 2)).off + 1, none⟩ = some (.slice A117_1 ((rd_T61 l0_1 x4_1).f1).length c117_1) ∧ w'.cell? (ad117.add ((x4_1).toNat * 2)) = some (.int .i64 ((rd_T61 l0_1 x4_1).f0)) ∧ w'.cell? ⟨(ad117.add ((x4_1).toNat * 2)).block, (ad117.add ((x4_1).toNat * 2)).off + 1, none⟩ = some (.slice A117_1 ((rd_T61 l0_1 x4_1).f1).length c117_1)) (ds := [19]) #[false, false, false, false, false, false, false, false, false, false, false, false, false, false, false, false, false, false, false, false] (by kernel_rfl) rfl rfl ⟨(zH BK116.out 0).trans rfl, (zH BK116.out 1).trans rfl, (zH BK111.out 0).trans rfl, (zH BK111.out 1).trans rfl, ((HB.out.cell (zB w _ hw117_0)).trans hw117_0), ((HB.out.cell (zB w _ hw117_1)).trans hw117_1), ((HB.out.cell (zB w _ hw118_0)).trans hw118_0), ((HB.out.cell (zB w _ hw118_1)).trans hw118_1)⟩ (fun hHeld => ?_); refine with_tabW boscagelaw31_Few.tab5 boscagelaw31_Few.bits5 (fun HT_ HW_ => ?_)
              generalize wr.drew = w21 at HO_117000 HO_117001 BK111 BK112 BK116 HB HR117_1 HR118_1 hx117_0 hx117_1 hx118_0 hx118_1 hHeld ⊢
              refine pure_ (i := 0) (N := some 20) (v := ?_) (a' := ?_) #[true, false, false, false, false, false, false, false, false, false, false, false, false, false, false, false, false, false, false, false] rfl rfl (any_of HT_.out (by kernel_rfl)) (fun _ _ _ h => h) (Or.inl ⟨by rfl, ?_⟩) ?_ ?_
              rotate_left
              · intro w'
                go_simp
                with_reducible rfl
              rotate_left
              · simp only [Act.put, zA, zC, zD, i64_w, i32_w]
                rfl
              refine pure_ (i := 2) (N := some 22) (v := ?_) (a' := ?_) #[true, false, true, false, false, false, false, false, false, false, false, false, false, false, false, false, false, false, false, false] rfl rfl (any_of HT_.out (by kernel_rfl)) (fun _ _ _ h => h) (Or.inl ⟨by rfl, ?_⟩) ?_ ?_
              rotate_left
              · intro w'
                go_simp
                with_reducible rfl
              rotate_left
              · simp only [Act.put, zA, zC, zD, i64_w, i32_w]
                rfl
              refine pure_ (i := 4) (N := some 24) (v := ?_) (a' := ?_) #[true, false, true, false, true, false, false, false, false, false, false, false, false, false, false, false, false, false, false, false] rfl rfl (any_of HT_.out (by kernel_rfl)) (fun _ _ _ h => h) (Or.inl ⟨by rfl, ?_⟩) ?_ ?_
              rotate_left
              · intro w'
                go_simp
                with_reducible rfl
              rotate_left
              · simp only [Act.put, zA, zC, zD, i64_w, i32_w]
                rfl
              refine pure_ (i := 8) (N := some 28) (v := ?_) (a' := ?_) #[true, false, true, false, true, false, false, false, true, false, false, false, false, false, false, false, false, false, false, false] rfl rfl (any_of HT_.out (by kernel_rfl)) (fun _ _ _ h => h) (Or.inl ⟨by rfl, ?_⟩) ?_ ?_
              rotate_left
              · intro w'
                go_simp
                with_reducible rfl
              rotate_left
              · simp only [Act.put, zA, zC, zD, i64_w, i32_w]
                rfl
              refine pure_ (i := 10) (N := some 30) (v := ?_) (a' := ?_) #[true, false, true, false, true, false, false, false, true, false, true, false, false, false, false, false, false, false, false, false] rfl rfl (any_of HT_.out (by kernel_rfl)) (fun _ _ _ h => h) (Or.inl ⟨by rfl, ?_⟩) ?_ ?_
              rotate_left
              · intro w'
                go_simp
                with_reducible rfl
              rotate_left
              · simp only [Act.put, zA, zC, zD, i64_w, i32_w]
                rfl
              refine take_ (i := 1) (N := some 21) (v := ?_) (a' := ?_) #[true, true, true, false, true, false, false, false, true, false, true, false, false, false, false, false, false, false, false, false] rfl rfl (take_ofW HT_.out HW_.out (by kernel_rfl)) (fun _ _ _ h => h) (Or.inl ⟨by rfl, ?_⟩) hHeld ?_ ?_
              rotate_left
              · rintro w' ⟨s0, s1, s2, s3, s4, s5, s6, s7⟩
                go_simp
                with_reducible rfl
              rotate_left
              · simp only [Act.put, zA, zC, zD, i64_w, i32_w]
                rfl
              refine take_ (i := 3) (N := some 23) (v := ?_) (a' := ?_) #[true, true, true, true, true, false, false, false, true, false, true, false, false, false, false, false, false, false, false, false] rfl rfl (take_ofW HT_.out HW_.out (by kernel_rfl)) (fun _ _ _ h => h) (Or.inl ⟨by rfl, ?_⟩) hHeld ?_ ?_
              rotate_left
              · rintro w' ⟨s0, s1, s2, s3, s4, s5, s6, s7⟩
                go_simp
                with_reducible rfl
              rotate_left
              · simp only [Act.put, zA, zC, zD, i64_w, i32_w]
                rfl
              refine pure_ (i := 5) (N := some 25) (v := ?_) (a' := ?_) #[true, true, true, true, true, true, false, false, true, false, true, false, false, false, false, false, false, false, false, false] rfl rfl (any_of HT_.out (by kernel_rfl)) (fun _ _ _ h => h) (Or.inl ⟨by rfl, ?_⟩) ?_ ?_
              rotate_left
              · intro w'
                go_simp
                with_reducible rfl
              rotate_left
              · simp only [Act.put, zA, zC, zD, i64_w, i32_w]
                rfl
              refine pure_ (i := 6) (N := some 26) (v := ?_) (a' := ?_) #[true, true, true, true, true, true, true, false, true, false, true, false, false, false, false, false, false, false, false, false] rfl rfl (any_of HT_.out (by kernel_rfl)) (fun _ _ _ h => h) (Or.inl ⟨by rfl, ?_⟩) ?_ ?_
              rotate_left
              · intro w'
                go_simp
                with_reducible rfl
              rotate_left
              · simp only [Act.put, zA, zC, zD, i64_w, i32_w]
                rfl
              refine take_ (i := 7) (N := some 27) (v := ?_) (a' := ?_) #[true, true, true, true, true, true, true, true, true, false, true, false, false, false, false, false, false, false, false, false] rfl rfl (take_ofW HT_.out HW_.out (by kernel_rfl)) (fun _ _ _ h => h) (Or.inl ⟨by rfl, ?_⟩) hHeld ?_ ?_
              rotate_left
              · rintro w' ⟨s0, s1, s2, s3, s4, s5, s6, s7⟩
                go_simp
                with_reducible rfl
              rotate_left
              · simp only [Act.put, zA, zC, zD, i64_w, i32_w]
                rfl
              refine take_ (i := 9) (N := some 29) (v := ?_) (a' := ?_) #[true, true, true, true, true, true, true, true, true, true, true, false, false, false, false, false, false, false, false, false] rfl rfl (take_ofW HT_.out HW_.out (by kernel_rfl)) (fun _ _ _ h => h) (Or.inl ⟨by rfl, ?_⟩) hHeld ?_ ?_
              rotate_left
              · rintro w' ⟨s0, s1, s2, s3, s4, s5, s6, s7⟩
                go_simp
                with_reducible rfl
              rotate_left
              · simp only [Act.put, zA, zC, zD, i64_w, i32_w]
                rfl
              refine pure_ (i := 11) (N := some 31) (v := ?_) (a' := ?_) #[true, true, true, true, true, true, true, true, true, true, true, true, false, false, false, false, false, false, false, false] rfl rfl (any_of HT_.out (by kernel_rfl)) (fun _ _ _ h => h) (Or.inl ⟨by rfl, ?_⟩) ?_ ?_
              rotate_left
              · intro w'
                go_simp
                with_reducible rfl
              rotate_left
              · simp only [Act.put, zA, zC, zD, i64_w, i32_w]
                rfl
              refine pure_ (i := 12) (N := some 32) (v := ?_) (a' := ?_) #[true, true, true, true, true, true, true, true, true, true, true, true, true, false, false, false, false, false, false, false] rfl rfl (any_of HT_.out (by kernel_rfl)) (fun _ _ _ h => h) (Or.inl ⟨by rfl, ?_⟩) ?_ ?_
              rotate_left
              · intro w'
                go_simp
                with_reducible rfl
              rotate_left
              · simp only [Act.put, zA, zC, zD, i64_w, i32_w]
                rfl
              refine take_ (i := 13) (N := some 33) (v := ?_) (a' := ?_) #[true, true, true, true, true, true, true, true, true, true, true, true, true, true, false, false, false, false, false, false] rfl rfl (take_ofW HT_.out HW_.out (by kernel_rfl)) (fun _ _ _ h => h) (Or.inl ⟨by rfl, ?_⟩) hHeld ?_ ?_
              rotate_left
              · rintro w' ⟨s0, s1, s2, s3, s4, s5, s6, s7⟩
                go_simp
                with_reducible rfl
              rotate_left
              · simp only [Act.put, zA, zC, zD, i64_w, i32_w]
                rfl
              refine one_ (i := 14) (N := some 34) #[true, true, true, true, true, true, true, true, true, true, true, true, true, true, true, false, false, false, false, false] rfl rfl (one_of HT_.out (by kernel_rfl)) (by decide) (fun K hK => ?_)
              refine goes_ Tryd.func24 (by kernel_rfl) rfl #[.slice A117_1 ((rd_T61 l0_1 x4_1).f1).length c117_1] (by rfl) rfl rfl (by (try simp only [zS, zU, zV]); first | done | rfl | (simp only [zO, zN]; rfl)) ?_
              with_reducible refine (boscagelaw07_Few.calls k1 _ _ ((rd_T61 l0_1 x4_1).f1) t119 _ ?side1 ?side2 A16.out).mono ?_
              (case side1 => repeat (first | exact (zZ HR118_1.out HB.out) | (with_reducible refine Kd.C_alloc ?_ _) | (with_reducible refine Kd.C_drewN ?_ _) | (with_reducible refine Kd.C_drew ?_)))
              (case side2 => exact HC118_1.out)
              rintro e w22 ⟨v120, rfl, ho0, hb⟩
              refine ⟨_, rfl, ?_⟩
              have n0_ := zX (Kd.R_elder' (by (with_reducible repeat (first | apply za | apply zg | apply zh)); exact HO_117000.out) (Kd.R_base ho0) hb)
              have n1_ := zX (Kd.S_elder' (by (with_reducible repeat (first | apply Kd.S_alloc | apply Kd.S_drewN | apply Kd.S_drew)); exact HO_117001.out) (Kd.R_base ho0) hb)
              have n2_ := zX (Kd.R_lower (Kd.R_new' ho0 (Kd.R_lt (by (with_reducible repeat (first | apply za | apply zg | apply zh)); exact HO_117000.out))) (zY (by repeat (first | (with_reducible first | exact HB.out | apply zF | apply zE | apply zG | refine zK ?_ GE111.out | refine zK ?_ GE112.out | refine zK ?_ GE116.out) | exact HB.out))))
              have n3_ := zX (zm (g := gb111) (o := .cells #[.slice A0_0 l0_0.length c0_0, .slice (some ad117) l0_1.length c0_1] 27 (0, 0)) (by (with_reducible repeat (first | refine zL ?_ _ | refine zM ?_ | refine zJ ?_ _)); exact BK111.out) hb)
              have n4_ := zX (zm (g := gb112) (o := .cells #[.slice none 0 0, .slice none 0 0] 27 (0, 0)) (by (with_reducible repeat (first | refine zL ?_ _ | refine zM ?_ | refine zJ ?_ _)); exact BK112.out) hb)
              have n5_ := zX (zm (g := gb116) (o := .cells #[.slice Ao8 t113.length co8, u117001] 27 (0, 0)) (by (with_reducible repeat (first | refine zL ?_ _ | refine zM ?_ | refine zJ ?_ _)); exact BK116.out) hb)
              have n6_ := zX (zT (by repeat (first | (with_reducible first | exact HB.out | apply zF | apply zE | apply zG | refine zK ?_ GE111.out | refine zK ?_ GE112.out | refine zK ?_ GE116.out) | exact HB.out)) hb)
              clear HO_117000
              clear HO_117001
              clear BK111
              clear BK112
              clear BK116
              clear HB
              have HO_117000 := n0_
              have HO_117001 := n1_
              have HO121 := n2_
              have BK111 := n3_
              have BK112 := n4_
              have BK116 := n5_
              have HB := n6_
              clear n0_ n1_ n2_ n3_ n4_ n5_ n6_
              (try clear hb)
              (try clear hb2)
              (try clear hk)
              (try clear hi)
              (try clear ho0)
              obtain ⟨Ao23, co23, eo23⟩ := Kd.R_slice HO121.out
              (first | subst eo23 | (injection eo23 with f1_ f2_ f3_; have f4_ := f1_.symm; have f5_ := f3_.symm; clear f1_ f2_ f3_; subst f4_; subst f5_))
              refine hK.out _ _ ⟨(zH BK116.out 0).trans rfl, (zH BK116.out 1).trans rfl, (zH BK111.out 0).trans rfl, (zH BK111.out 1).trans rfl, ((HB.out.cell (zB w _ hw117_0)).trans hw117_0), ((HB.out.cell (zB w _ hw117_1)).trans hw117_1), ((HB.out.cell (zB w _ hw118_0)).trans hw118_0), ((HB.out.cell (zB w _ hw118_1)).trans hw118_1)⟩ (fun hHeld => ?_)
              clear hK K
              refine norm_ (a' := ?_) ?_ ?_
              rotate_left
              · show Act.put _ (some 34) _ = _
                simp only [Act.put, zA, zC, zD, i64_w, i32_w]
                rfl
              refine pure_ (i := 15) (N := some 35) (v := ?_) (a' := ?_) #[true, true, true, true, true, true, true, true, true, true, true, true, true, true, true, true, false, false, false, false] rfl rfl (any_of HT_.out (by kernel_rfl)) (fun _ _ _ h => h) (Or.inl ⟨by rfl, ?_⟩) ?_ ?_
              rotate_left
              · intro w'
                go_simp
                with_reducible rfl
              rotate_left
              · simp only [Act.put, zA, zC, zD, i64_w, i32_w]
                rfl
              refine one_ (i := 16) (N := some 36) #[true, true, true, true, true, true, true, true, true, true, true, true, true, true, true, true, true, false, false, false] rfl rfl (one_of HT_.out (by kernel_rfl)) (by decide) (fun K hK => ?_)
              refine value_ (w1 := ?_) (v := ?_) (by rfl) rfl ?_ ?_
              rotate_left 2
              · go_simp
                constructor
                · rfl
                · rfl
              refine hK.out _ _ ⟨(zH (zJ BK116.out _) 0).trans rfl, (zH (zJ BK116.out _) 1).trans rfl, (zH (zJ BK111.out _) 0).trans rfl, (zH (zJ BK111.out _) 1).trans rfl, (World.cell?_alloc_lt _ _ _ (zB _ _ (((HB.out.cell (zB w _ hw117_0)).trans hw117_0)))).trans (((HB.out.cell (zB w _ hw117_0)).trans hw117_0)), (World.cell?_alloc_lt _ _ _ (zB _ _ (((HB.out.cell (zB w _ hw117_1)).trans hw117_1)))).trans (((HB.out.cell (zB w _ hw117_1)).trans hw117_1)), (World.cell?_alloc_lt _ _ _ (zB _ _ (((HB.out.cell (zB w _ hw118_0)).trans hw118_0)))).trans (((HB.out.cell (zB w _ hw118_0)).trans hw118_0)), (World.cell?_alloc_lt _ _ _ (zB _ _ (((HB.out.cell (zB w _ hw118_1)).trans hw118_1)))).trans (((HB.out.cell (zB w _ hw118_1)).trans hw118_1))⟩ (fun hHeld => ?_)
              clear hK K
              refine norm_ (a' := ?_) ?_ ?_
              rotate_left
              · show Act.put _ (some 36) _ = _
                simp only [Act.put, zA, zC, zD, i64_w, i32_w]
                rfl
              refine one_ (i := 17) (N := some 37) #[true, true, true, true, true, true, true, true, true, true, true, true, true, true, true, true, true, true, false, false] rfl rfl (one_of HT_.out (by kernel_rfl)) (by decide) (fun K hK => ?_)
              refine Kd.S_append_step k61 (w0 := w) w.heap.size (by rfl) (.tmp 21) (.tmp 36) 25 61 (.agg #[(.int .i64 0), (.slice none 0 0)]) 32 rfl Tryd.underlying25 info61 rfl (by decide) (by omega) u117001 x117001_1 (⟨(rd_T61 l0_1 x4_1).f0, t119⟩ : S61) [.int .i64 ((rd_T61 l0_1 x4_1).f0), .slice Ao23 t119.length co23] (fun k_ => some k_ ≠ (.slice Ao8 t113.length co8 : Value).ownBlock) (fun k_ => some k_ = (.slice Ao23 t119.length co23 : Value).ownBlock) rfl rfl ?aP (fun k_ hk_ => ((Kd.R_mono (ok' := fun k_ => ((fun k_ => some k_ ≠ (.slice Ao8 t113.length co8 : Value).ownBlock)) k_ ∧ some k_ ≠ (u117001 : Value).ownBlock) (zn (HO121.out) (Kd.S_typed HO_117001.out) (by decide)) (fun k_ hk => ⟨hk.1.2, hk.2⟩))).1 k_ hk_.symm) ?aF ?aO ?aB ?aS ?aL ?_
              (case aP => exact k61_mkM _ _ _ (⟨(rd_T61 l0_1 x4_1).f0, t119⟩ : S61) (Kd.R_mono (Kd.R_tight rfl (Kd.R_mono (ok' := fun k_ => ((fun k_ => some k_ ≠ (.slice Ao8 t113.length co8 : Value).ownBlock)) k_ ∧ some k_ ≠ (u117001 : Value).ownBlock) (zn (HO121.out) (Kd.S_typed HO_117001.out) (by decide)) (fun k_ hk => ⟨hk.1.2, hk.2⟩))) (fun _ h_ => h_)))
              (case aB => exact (by repeat (first | (with_reducible first | exact HB.out | apply zF | apply zE | apply zG | refine zK ?_ GE111.out | refine zK ?_ GE112.out | refine zK ?_ GE116.out) | exact HB.out)))
              (case aF => exact (fun k_ hk => Kd.fresh' (Kd.R_lt (by (with_reducible repeat (first | apply za | apply zg | apply zh)); exact HO_117000.out)) k_ hk))
              (case aO => exact (by (with_reducible repeat (first | apply Kd.S_alloc | apply Kd.S_drewN | apply Kd.S_drew)); exact Kd.S_mono HO_117001.out (fun k_ hk => ⟨hk.1, fun e_ => hk.2 e_⟩)))
              (case aS => exact (zY (by repeat (first | (with_reducible first | exact HB.out | apply zF | apply zE | apply zG | refine zK ?_ GE111.out | refine zK ?_ GE112.out | refine zK ?_ GE116.out) | exact HB.out))))
              (case aL => have := LMc17.out; omega)
              intro v123 w24 ho hb hg hat
              rw [← Ny122.out] at ho
              have n0_ := zX (Kd.R_over' (by (with_reducible repeat (first | apply za | apply zg | apply zh)); exact HO_117000.out) (Kd.S_typed (by (with_reducible repeat (first | apply Kd.S_alloc | apply Kd.S_drewN | apply Kd.S_drew)); exact HO_117001.out)) (by decide) hg)
              have n1_ := zX (blk_grown (g := gb111) (o := .cells #[.slice A0_0 l0_0.length c0_0, .slice (some ad117) l0_1.length c0_1] 27 (0, 0)) (by (with_reducible repeat (first | refine zL ?_ _ | refine zM ?_ | refine zJ ?_ _)); exact BK111.out) hg (Kd.S_ne HO_117001.out BK111.out (by decide)))
              have n2_ := zX (blk_grown (g := gb112) (o := .cells #[.slice none 0 0, .slice none 0 0] 27 (0, 0)) (by (with_reducible repeat (first | refine zL ?_ _ | refine zM ?_ | refine zJ ?_ _)); exact BK112.out) hg (Kd.S_ne HO_117001.out BK112.out (by decide)))
              have n3_ := zX (blk_grown (g := gb116) (o := .cells #[.slice Ao8 t113.length co8, u117001] 27 (0, 0)) (by (with_reducible repeat (first | refine zL ?_ _ | refine zM ?_ | refine zJ ?_ _)); exact BK116.out) hg (Kd.S_ne HO_117001.out BK116.out (by decide)))
              have n4_ := zX (hb)
              have n5_ := zX (ho)
              clear HO_117000
              clear BK111
              clear BK112
              clear BK116
              clear HB
              clear HO_117001
              clear HO121
              have HO_117000 := n0_
              have BK111 := n1_
              have BK112 := n2_
              have BK116 := n3_
              have HB := n4_
              have HO124 := n5_
              clear n0_ n1_ n2_ n3_ n4_ n5_
              clear ho hb hg hat
              obtain ⟨Ao25, co25, eo25⟩ := Kd.S_slice HO124.out
              (first | subst eo25 | (injection eo25 with f1_ f2_ f3_; have f4_ := f1_.symm; have f5_ := f3_.symm; clear f1_ f2_ f3_; subst f4_; subst f5_))
              refine hK.out _ _ ⟨(zH BK116.out 0).trans rfl, (zH BK116.out 1).trans rfl, (zH BK111.out 0).trans rfl, (zH BK111.out 1).trans rfl, ((HB.out.cell (zB w _ hw117_0)).trans hw117_0), ((HB.out.cell (zB w _ hw117_1)).trans hw117_1), ((HB.out.cell (zB w _ hw118_0)).trans hw118_0), ((HB.out.cell (zB w _ hw118_1)).trans hw118_1)⟩ (fun hHeld => ?_)
              clear hK K
              refine norm_ (a' := ?_) ?_ ?_
              rotate_left
              · show Act.put _ (some 37) _ = _
                simp only [Act.put, zA, zC, zD, i64_w, i32_w]
                rfl
              refine pure_ (i := 18) (N := some 38) (v := ?_) (a' := ?_) #[true, true, true, true, true, true, true, true, true, true, true, true, true, true, true, true, true, true, true, false] rfl rfl (any_of HT_.out (by kernel_rfl)) (fun _ _ _ h => h) (Or.inl ⟨by rfl, ?_⟩) ?_ ?_
              rotate_left
              · intro w'
                go_simp
                with_reducible rfl
              rotate_left
              · simp only [Act.put, zA, zC, zD, i64_w, i32_w]
                rfl
              refine last_ (i := 19) (N := none) #[true, true, true, true, true, true, true, true, true, true, true, true, true, true, true, true, true, true, true, true] rfl rfl (one_of HT_.out (by kernel_rfl)) (by decide) (fun K hK => ?_)
              have hs26 : w24.cell? ⟨gb116, 1, none⟩ = some (u117001) := (zH BK116.out 1).trans rfl
              have hfs26 := zI BK116.out 1
              have hns26_0 := NB111_116.out
              have hns26_1 := NB112_116.out
              have hms26_0 := NB116_111.out
              have hms26_1 := NB116_112.out
              refine skip_ (w1 := ?_) (by rfl) rfl ?_ ?_
              rotate_left
              · go_simp
                rfl
              refine hK.out _ _ ?_
              clear hK K
              refine done_ (done_of HT_.out (by kernel_rfl)) ?_
              try go_wp2
              go_roundg k1
              case measure => have := HK1.out; omega
              case rel => exact ⟨(wrap64 (x4_1 + 1)), (y122), (.slice Ao25 y122.length co25), (by first | rfl | (simp; done) | (simp [*]; done)), H', ⟨by have := HK1.out; omega⟩, ⟨by (with_reducible repeat (first | apply za | apply zg | apply zh)); exact Kd.R_mono (Kd.R_far (p := ⟨gb116, 1, none⟩) (zk HO_117000.out BK116.out (by decide)) (fun _ hk => hk.2) (.slice Ao25 y122.length co25)) (fun _ hk => trivial)⟩, ⟨by (with_reducible repeat (first | apply Kd.S_alloc | apply Kd.S_drewN | apply Kd.S_drew)); exact Kd.S_mono (Kd.S_far (p := ⟨gb116, 1, none⟩) (Kd.S_types HO124.out BK116.out (by decide)) (fun _ hk => hk.2) (.slice Ao25 y122.length co25)) (fun _ hk => hk.1)⟩, ⟨by (with_reducible repeat (first | refine zL ?_ _ | refine zM ?_ | refine zJ ?_ _)); refine blk_far ?_ NB111_116.out _; (with_reducible repeat (first | refine zL ?_ _ | refine zM ?_ | refine zJ ?_ _)); exact BK111.out⟩, ⟨by (with_reducible repeat (first | refine zL ?_ _ | refine zM ?_ | refine zJ ?_ _)); refine blk_far ?_ NB112_116.out _; (with_reducible repeat (first | refine zL ?_ _ | refine zM ?_ | refine zJ ?_ _)); exact BK112.out⟩, ⟨by (with_reducible repeat (first | refine zL ?_ _ | refine zM ?_ | refine zJ ?_ _)); refine blk_put (cs := #[.slice Ao8 t113.length co8, u117001]) ?_ 1 _ rfl; (with_reducible repeat (first | refine zL ?_ _ | refine zM ?_ | refine zJ ?_ _)); exact BK116.out⟩, ⟨by repeat (first | (with_reducible first | exact HB.out | apply zF | apply zE | apply zG | refine zK ?_ GE111.out | refine zK ?_ GE112.out | refine zK ?_ GE116.out) | exact HB.out)⟩⟩
            · rw [if_neg c17] at H
              exact absurd H (by simp)
          · rw [if_neg c15] at H
            exact absurd H (by simp)
        · rw [if_neg c14] at H
          have c14b0 : decide (x4_1 < 6) = false := decide_eq_false c14
          clear c14
          simp only [Option.some.injEq, Prod.mk.injEq] at H
          obtain ⟨rfl, rfl⟩ := H
          have hnb27 := NB111_112.out
          have hnc27 := NB112_111.out
          have hnb28 := NB111_116.out
          have hnc28 := NB116_111.out
          have hcz29_0 : wr.cell? ⟨gb111, 0, none⟩ = some (.slice A0_0 l0_0.length c0_0) := (zH BK111.out 0).trans rfl
          have hcz29_1 : wr.cell? ⟨gb111, 1, none⟩ = some (.slice A0_1 l0_1.length c0_1) := (zH BK111.out 1).trans rfl
          have hfz29_0 := zI BK111.out 0
          have hfz29_1 := zI BK111.out 1
          have hnb30 := NB116_112.out
          have hnc30 := NB112_116.out
          have hcz31_0 : wr.cell? ⟨gb116, 0, none⟩ = some (.slice Ao8 t113.length co8) := (zH BK116.out 0).trans rfl
          have hcz31_1 : wr.cell? ⟨gb116, 1, none⟩ = some (u117001) := (zH BK116.out 1).trans rfl
          have hfz31_0 := zI BK116.out 0
          have hfz31_1 := zI BK116.out 1
          have hcz32_0 : wr.cell? ⟨gb112, 0, none⟩ = some (.slice none 0 0) := (zH BK112.out 0).trans rfl
          have hcz32_1 : wr.cell? ⟨gb112, 1, none⟩ = some (.slice none 0 0) := (zH BK112.out 1).trans rfl
          have hfz32_0 := zI BK112.out 0
          have hfz32_1 := zI BK112.out 1
          obtain ⟨Ao33, co33, eo33⟩ := Kd.S_slice HO_117001.out
          subst eo33
          go_wp2
          refine bodyPost_ret (results_cell_row rfl _ _ gb112 27 #[.slice Ao8 t113.length co8, .slice Ao33 x117001_1.length co33] (0, 0) _ rfl (by (with_reducible repeat (first | refine zL ?_ _ | refine zM ?_ | refine zJ ?_ _)); refine blk_put (cs := #[.slice Ao8 t113.length co8, .slice none 0 0]) ?_ 1 _ rfl; (with_reducible repeat (first | refine zL ?_ _ | refine zM ?_ | refine zJ ?_ _)); refine blk_put (cs := #[.slice none 0 0, .slice none 0 0]) ?_ 0 _ rfl; (with_reducible repeat (first | refine zL ?_ _ | refine zM ?_ | refine zJ ?_ _)); exact BK112.out) Tryd.underlying27 rfl (by kernel_rfl)) rfl ?_
          exact ⟨_, _, by first | rfl | (simp [errW_none, errW_some] <;> rfl) | (simp [*, errW_none, errW_some] <;> rfl), by (with_reducible repeat (first | apply za | apply zg | apply zh)); exact Kd.R_mono (Kd.R_far (p := ⟨gb112, 1, none⟩) (Kd.R_far (p := ⟨gb112, 0, none⟩) (zk HO_117000.out BK112.out (by decide)) (fun _ hk => hk.2) (.slice Ao8 t113.length co8)) (fun _ hk => hk.2) (.slice Ao33 x117001_1.length co33)) (fun _ hk => trivial), by (with_reducible repeat (first | apply Kd.S_alloc | apply Kd.S_drewN | apply Kd.S_drew)); exact Kd.S_mono (Kd.S_far (p := ⟨gb112, 1, none⟩) (Kd.S_far (p := ⟨gb112, 0, none⟩) (Kd.S_types HO_117001.out BK112.out (by decide)) (fun _ hk => hk.2) (.slice Ao8 t113.length co8)) (fun _ hk => hk.2) (.slice Ao33 x117001_1.length co33)) (fun _ hk => hk.1), by repeat (first | (with_reducible first | exact HB.out | apply zF | apply zE | apply zG | refine zK ?_ GE111.out | refine zK ?_ GE112.out | refine zK ?_ GE116.out) | exact HB.out)⟩
      · rw [if_neg c13] at H
        have c13b0 : decide (x4_1 < (l0_1.length : Int)) = false := decide_eq_false c13
        clear c13
        simp only [Option.some.injEq, Prod.mk.injEq] at H
        obtain ⟨rfl, rfl⟩ := H
        have hnb34 := NB111_112.out
        have hnc34 := NB112_111.out
        have hnb35 := NB111_116.out
        have hnc35 := NB116_111.out
        have hcz36_0 : wr.cell? ⟨gb111, 0, none⟩ = some (.slice A0_0 l0_0.length c0_0) := (zH BK111.out 0).trans rfl
        have hcz36_1 : wr.cell? ⟨gb111, 1, none⟩ = some (.slice A0_1 l0_1.length c0_1) := (zH BK111.out 1).trans rfl
        have hfz36_0 := zI BK111.out 0
        have hfz36_1 := zI BK111.out 1
        have hnb37 := NB116_112.out
        have hnc37 := NB112_116.out
        have hcz38_0 : wr.cell? ⟨gb116, 0, none⟩ = some (.slice Ao8 t113.length co8) := (zH BK116.out 0).trans rfl
        have hcz38_1 : wr.cell? ⟨gb116, 1, none⟩ = some (u117001) := (zH BK116.out 1).trans rfl
        have hfz38_0 := zI BK116.out 0
        have hfz38_1 := zI BK116.out 1
        have hcz39_0 : wr.cell? ⟨gb112, 0, none⟩ = some (.slice none 0 0) := (zH BK112.out 0).trans rfl
        have hcz39_1 : wr.cell? ⟨gb112, 1, none⟩ = some (.slice none 0 0) := (zH BK112.out 1).trans rfl
        have hfz39_0 := zI BK112.out 0
        have hfz39_1 := zI BK112.out 1
        obtain ⟨Ao40, co40, eo40⟩ := Kd.S_slice HO_117001.out
        subst eo40
        go_wp2
        refine bodyPost_ret (results_cell_row rfl _ _ gb112 27 #[.slice Ao8 t113.length co8, .slice Ao40 x117001_1.length co40] (0, 0) _ rfl (by (with_reducible repeat (first | refine zL ?_ _ | refine zM ?_ | refine zJ ?_ _)); refine blk_put (cs := #[.slice Ao8 t113.length co8, .slice none 0 0]) ?_ 1 _ rfl; (with_reducible repeat (first | refine zL ?_ _ | refine zM ?_ | refine zJ ?_ _)); refine blk_put (cs := #[.slice none 0 0, .slice none 0 0]) ?_ 0 _ rfl; (with_reducible repeat (first | refine zL ?_ _ | refine zM ?_ | refine zJ ?_ _)); exact BK112.out) Tryd.underlying27 rfl (by kernel_rfl)) rfl ?_
        exact ⟨_, _, by first | rfl | (simp [errW_none, errW_some] <;> rfl) | (simp [*, errW_none, errW_some] <;> rfl), by (with_reducible repeat (first | apply za | apply zg | apply zh)); exact Kd.R_mono (Kd.R_far (p := ⟨gb112, 1, none⟩) (Kd.R_far (p := ⟨gb112, 0, none⟩) (zk HO_117000.out BK112.out (by decide)) (fun _ hk => hk.2) (.slice Ao8 t113.length co8)) (fun _ hk => hk.2) (.slice Ao40 x117001_1.length co40)) (fun _ hk => trivial), by (with_reducible repeat (first | apply Kd.S_alloc | apply Kd.S_drewN | apply Kd.S_drew)); exact Kd.S_mono (Kd.S_far (p := ⟨gb112, 1, none⟩) (Kd.S_far (p := ⟨gb112, 0, none⟩) (Kd.S_types HO_117001.out BK112.out (by decide)) (fun _ hk => hk.2) (.slice Ao8 t113.length co8)) (fun _ hk => hk.2) (.slice Ao40 x117001_1.length co40)) (fun _ hk => hk.1), by repeat (first | (with_reducible first | exact HB.out | apply zF | apply zE | apply zG | refine zK ?_ GE111.out | refine zK ?_ GE112.out | refine zK ?_ GE116.out) | exact HB.out)⟩

/-! ### boscagelaw31_short: function 8 -/
def boscagelaw31_short.f (a0_0 : Int) (a0_1 : ByteArray) (a0_2 : ByteArray) (a0_3 : ByteArray) (a0_4 : Int) : Option (Int × ByteArray × ByteArray × ByteArray × Int) := (boscagebase_Cut.f a0_1 40).bind fun t127 => ((boscagebase_Cut.f a0_2 40).bind fun t128 => ((boscagebase_Cut.f a0_3 40).bind fun t129 => (some (a0_0, t127, t128, t129, a0_4))))
def boscagelaw31_short.T1 : Bool × List (List Nat × List Nat) := (true, [([], []), ([0], [0]), ([1], [1]), ([], []), ([3], [3]), ([4, 2], [4]), ([], []), ([6], [6]), ([7, 5], [7]), ([0, 1, 2, 3, 4, 6, 7], []), ([9, 2, 8, 0, 1, 2, 3, 4, 6, 7], [2, 9]), ([0, 1, 2, 3, 4, 5, 6, 7, 9, 10], []), ([11, 5, 10, 0, 1, 2, 3, 4, 5, 6, 7, 9, 10], [5, 11]), ([0, 1, 2, 3, 4, 5, 6, 7, 8, 9, 10, 11, 12], []), ([13, 8, 12, 0, 1, 2, 3, 4, 5, 6, 7, 8, 9, 10, 11, 12], [8, 13])])
def boscagelaw31_short.B1 : List Nat := [0, 1, 3, 0, 8, 31, 0, 64, 255, 223, 1023, 2047, 4095, 8191, 16383]
theorem boscagelaw31_short.tab1 : rtab .any (opsOf Tryd.f8 1) = boscagelaw31_short.T1 := by kernel_rfl
theorem boscagelaw31_short.bits1 : waitsOk boscagelaw31_short.T1.2 boscagelaw31_short.B1 = true := by kernel_rfl
set_option maxHeartbeats 8000000 in
set_option maxRecDepth 100000 in
theorem boscagelaw31_short.calls (a0_0 : Int) (a0_1 : ByteArray) (a0_2 : ByteArray) (a0_3 : ByteArray) (a0_4 : Int) (r1 : Int) (r2 : ByteArray) (r3 : ByteArray) (r4 : ByteArray) (r5 : Int) (w : World) (h : boscagelaw31_short.f a0_0 a0_1 a0_2 a0_3 a0_4 = some (r1, r2, r3, r4, r5)) :
    Calls Tryd.prog 8 #[.agg #[.int .i64 a0_0, .string a0_1, .string a0_2, .string a0_3, .int .i64 a0_4]] w fun e w' => e = .returned (.agg #[.int .i64 r1, .string r2, .string r3, .string r4, .int .i64 r5]) ∧ Below w.heap.size w w' := by
  have hu29 := Tryd.underlying29
  have HB := zX (zi w.heap.size w)
  have H : ((boscagebase_Cut.f a0_1 40).bind fun t127 => ((boscagebase_Cut.f a0_2 40).bind fun t128 => ((boscagebase_Cut.f a0_3 40).bind fun t129 => (some (a0_0, t127, t128, t129, a0_4))))) = some (r1, r2, r3, r4, r5) := h
  clear h
  replace H := Option.bind_eq_some_iff.mp H
  obtain ⟨t127, A20, H⟩ := H
  replace H : ((boscagebase_Cut.f a0_2 40).bind fun t128 => ((boscagebase_Cut.f a0_3 40).bind fun t129 => (some (a0_0, t127, t128, t129, a0_4)))) = some (r1, r2, r3, r4, r5) := H
  have A2 := zX A20
  clear A20
  replace H := Option.bind_eq_some_iff.mp H
  obtain ⟨t128, A30, H⟩ := H
  replace H : ((boscagebase_Cut.f a0_3 40).bind fun t129 => (some (a0_0, t127, t128, t129, a0_4))) = some (r1, r2, r3, r4, r5) := H
  have A3 := zX A30
  clear A30
  replace H := Option.bind_eq_some_iff.mp H
  obtain ⟨t129, A40, H⟩ := H
  replace H : (some (a0_0, t127, t128, t129, a0_4)) = some (r1, r2, r3, r4, r5) := H
  have A4 := zX A40
  clear A40
  simp only [Option.some.injEq, Prod.mk.injEq] at H
  obtain ⟨rfl, rfl, rfl, rfl, rfl⟩ := H
  go_enter Tryd.func8, Tryd.ntmps8
  try go_wp2_with (first | ((with_reducible refine gate_dst (N := 1) rfl ?_); refine box_event ?hg (N := 1) ?hd (cs := #[.int .i64 a0_0, .string a0_1, .string a0_2, .string a0_3, .int .i64 a0_4]) (t := 29) ?hr ?_; (case hd => rfl); (case hg => rfl); (case hr => first | (go_simp; done) | (go_simp; rfl)); intro gb125 hg w5 hbox hb; have n0_ := zX (zT (by repeat (first | (with_reducible first | exact HB.out | apply zF | apply zE | apply zG) | exact HB.out)) hb); have n1_ := zX (hbox); have n2_ := zX ((by rw [hg]; exact (zY (by repeat (first | (with_reducible first | exact HB.out | apply zF | apply zE | apply zG) | exact HB.out))) : w.heap.size ≤ gb125)); have n3_ := zX ((by rw [hg]; exact (zY (by repeat (first | (with_reducible first | exact HB.out | apply zF | apply zE | apply zG) | exact HB.out))) : w.heap.size ≤ gb125)); clear HB; have HB := n0_; have BK125 := n1_; have GW125 := n2_; have GE125 := n3_; clear n0_ n1_ n2_ n3_; clear hb hbox hg) | ((with_reducible refine gate_dst (N := 2) rfl ?_); refine box_event ?hg (N := 2) ?hd (cs := #[.int .i64 0, .string (⟨#[]⟩ : ByteArray), .string (⟨#[]⟩ : ByteArray), .string (⟨#[]⟩ : ByteArray), .int .i64 0]) (t := 29) ?hr ?_; (case hd => rfl); (case hg => rfl); (case hr => first | (go_simp; done) | (go_simp; rfl)); intro gb126 hg w6 hbox hb; have n0_ := zX (zm (g := gb125) (o := .cells #[.int .i64 a0_0, .string a0_1, .string a0_2, .string a0_3, .int .i64 a0_4] 29 (0, 0)) (by (with_reducible repeat (first | refine zL ?_ _ | refine zM ?_ | refine zJ ?_ _)); exact BK125.out) hb); have n1_ := zX (zT (by repeat (first | (with_reducible first | exact HB.out | apply zF | apply zE | apply zG | refine zK ?_ GE125.out) | exact HB.out)) hb); have n2_ := zX (hbox); have n3_ := zX ((by rw [hg]; exact (zY (by repeat (first | (with_reducible first | exact HB.out | apply zF | apply zE | apply zG | refine zK ?_ GE125.out) | exact HB.out))) : w.heap.size ≤ gb126)); have n4_ := zX ((by rw [hg]; exact (zY (by repeat (first | (with_reducible first | exact HB.out | apply zF | apply zE | apply zG | refine zK ?_ GE125.out) | exact HB.out))) : w.heap.size ≤ gb126)); have n5_ := zX ((by rw [hg]; exact Nat.ne_of_lt (blk_lt (g := gb125) (o := .cells #[.int .i64 a0_0, .string a0_1, .string a0_2, .string a0_3, .int .i64 a0_4] 29 (0, 0)) (by (with_reducible repeat (first | refine zL ?_ _ | refine zM ?_ | refine zJ ?_ _)); exact BK125.out)) : gb125 ≠ gb126)); have n6_ := zX ((by rw [hg]; exact Nat.ne_of_gt (blk_lt (g := gb125) (o := .cells #[.int .i64 a0_0, .string a0_1, .string a0_2, .string a0_3, .int .i64 a0_4] 29 (0, 0)) (by (with_reducible repeat (first | refine zL ?_ _ | refine zM ?_ | refine zJ ?_ _)); exact BK125.out)) : gb126 ≠ gb125)); clear BK125; clear HB; have BK125 := n0_; have HB := n1_; have BK126 := n2_; have GW126 := n3_; have GE126 := n4_; have NB125_126 := n5_; have NB126_125 := n6_; clear n0_ n1_ n2_ n3_ n4_ n5_ n6_; clear hb hbox hg))
  have n0_ := zX (zM BK125.out)
  have n1_ := zX (zM BK126.out)
  have n2_ := zX (zG HB.out)
  clear BK125
  clear BK126
  clear HB
  have BK125 := n0_
  have BK126 := n1_
  have HB := n2_
  clear n0_ n1_ n2_
  refine start_ (n := 15) (S := fun w' => w'.cell? ⟨gb125, 0, none⟩ = some (.int .i64 a0_0) ∧ w'.cell? ⟨gb125, 1, none⟩ = some (.string a0_1) ∧ w'.cell? ⟨gb125, 2, none⟩ = some (.string a0_2) ∧ w'.cell? ⟨gb125, 3, none⟩ = some (.string a0_3) ∧ w'.cell? ⟨gb125, 4, none⟩ = some (.int .i64 a0_4)) (ds := [10, 12, 14]) #[false, false, false, false, false, false, false, false, false, false, false, false, false, false, false] (by kernel_rfl) rfl rfl ⟨(zH BK125.out 0).trans rfl, (zH BK125.out 1).trans rfl, (zH BK125.out 2).trans rfl, (zH BK125.out 3).trans rfl, (zH BK125.out 4).trans rfl⟩ (fun hHeld => ?_); refine with_tabW boscagelaw31_short.tab1 boscagelaw31_short.bits1 (fun HT_ HW_ => ?_)
  generalize w6.drew = w7 at BK125 BK126 HB hHeld ⊢
  refine pure_ (i := 0) (N := some 3) (v := ?_) (a' := ?_) #[true, false, false, false, false, false, false, false, false, false, false, false, false, false, false] rfl rfl (any_of HT_.out (by kernel_rfl)) (fun _ _ _ h => h) (Or.inl ⟨by rfl, ?_⟩) ?_ ?_
  rotate_left
  · intro w'
    go_simp
    with_reducible rfl
  rotate_left
  · simp only [Act.put, zA, zC, zD, i64_w, i32_w]
    rfl
  refine pure_ (i := 3) (N := some 6) (v := ?_) (a' := ?_) #[true, false, false, true, false, false, false, false, false, false, false, false, false, false, false] rfl rfl (any_of HT_.out (by kernel_rfl)) (fun _ _ _ h => h) (Or.inl ⟨by rfl, ?_⟩) ?_ ?_
  rotate_left
  · intro w'
    go_simp
    with_reducible rfl
  rotate_left
  · simp only [Act.put, zA, zC, zD, i64_w, i32_w]
    rfl
  refine pure_ (i := 6) (N := some 9) (v := ?_) (a' := ?_) #[true, false, false, true, false, false, true, false, false, false, false, false, false, false, false] rfl rfl (any_of HT_.out (by kernel_rfl)) (fun _ _ _ h => h) (Or.inl ⟨by rfl, ?_⟩) ?_ ?_
  rotate_left
  · intro w'
    go_simp
    with_reducible rfl
  rotate_left
  · simp only [Act.put, zA, zC, zD, i64_w, i32_w]
    rfl
  refine take_ (i := 1) (N := some 4) (v := ?_) (a' := ?_) #[true, true, false, true, false, false, true, false, false, false, false, false, false, false, false] rfl rfl (take_ofW HT_.out HW_.out (by kernel_rfl)) (fun _ _ _ h => h) (Or.inl ⟨by rfl, ?_⟩) hHeld ?_ ?_
  rotate_left
  · rintro w' ⟨s0, s1, s2, s3, s4⟩
    go_simp
    with_reducible rfl
  rotate_left
  · simp only [Act.put, zA, zC, zD, i64_w, i32_w]
    rfl
  refine take_ (i := 4) (N := some 7) (v := ?_) (a' := ?_) #[true, true, false, true, true, false, true, false, false, false, false, false, false, false, false] rfl rfl (take_ofW HT_.out HW_.out (by kernel_rfl)) (fun _ _ _ h => h) (Or.inl ⟨by rfl, ?_⟩) hHeld ?_ ?_
  rotate_left
  · rintro w' ⟨s0, s1, s2, s3, s4⟩
    go_simp
    with_reducible rfl
  rotate_left
  · simp only [Act.put, zA, zC, zD, i64_w, i32_w]
    rfl
  refine take_ (i := 7) (N := some 10) (v := ?_) (a' := ?_) #[true, true, false, true, true, false, true, true, false, false, false, false, false, false, false] rfl rfl (take_ofW HT_.out HW_.out (by kernel_rfl)) (fun _ _ _ h => h) (Or.inl ⟨by rfl, ?_⟩) hHeld ?_ ?_
  rotate_left
  · rintro w' ⟨s0, s1, s2, s3, s4⟩
    go_simp
    with_reducible rfl
  rotate_left
  · simp only [Act.put, zA, zC, zD, i64_w, i32_w]
    rfl
  refine one_ (i := 2) (N := some 5) #[true, true, true, true, true, false, true, true, false, false, false, false, false, false, false] rfl rfl (one_of HT_.out (by kernel_rfl)) (by decide) (fun K hK => ?_)
  refine goes_ Tryd.func19 (by kernel_rfl) rfl #[.string a0_1, .int .i64 40] (by rfl) rfl rfl (by (try simp only [zS, zU, zV]); first | done | rfl | (simp only [zO, zN]; rfl)) ?_
  with_reducible refine (boscagebase_Cut.calls a0_1 40 t127 _ A2.out).mono ?_
  rintro e w8 ⟨rfl, hb⟩
  refine ⟨_, rfl, ?_⟩
  have n0_ := zX (zm (g := gb125) (o := .cells #[.int .i64 a0_0, .string a0_1, .string a0_2, .string a0_3, .int .i64 a0_4] 29 (0, 0)) (by (with_reducible repeat (first | refine zL ?_ _ | refine zM ?_ | refine zJ ?_ _)); exact BK125.out) hb)
  have n1_ := zX (zm (g := gb126) (o := .cells #[.int .i64 0, .string (⟨#[]⟩ : ByteArray), .string (⟨#[]⟩ : ByteArray), .string (⟨#[]⟩ : ByteArray), .int .i64 0] 29 (0, 0)) (by (with_reducible repeat (first | refine zL ?_ _ | refine zM ?_ | refine zJ ?_ _)); exact BK126.out) hb)
  have n2_ := zX (zT (by repeat (first | (with_reducible first | exact HB.out | apply zF | apply zE | apply zG | refine zK ?_ GE125.out | refine zK ?_ GE126.out) | exact HB.out)) hb)
  clear BK125
  clear BK126
  clear HB
  have BK125 := n0_
  have BK126 := n1_
  have HB := n2_
  clear n0_ n1_ n2_
  (try clear hb)
  (try clear hb2)
  (try clear hk)
  (try clear hi)
  refine hK.out _ _ ⟨(zH BK125.out 0).trans rfl, (zH BK125.out 1).trans rfl, (zH BK125.out 2).trans rfl, (zH BK125.out 3).trans rfl, (zH BK125.out 4).trans rfl⟩ (fun hHeld => ?_)
  clear hK K
  refine norm_ (a' := ?_) ?_ ?_
  rotate_left
  · show Act.put _ (some 5) _ = _
    simp only [Act.put, zA, zC, zD, i64_w, i32_w]
    rfl
  refine pure_ (i := 9) (N := some 12) (v := ?_) (a' := ?_) #[true, true, true, true, true, false, true, true, false, true, false, false, false, false, false] rfl rfl (any_of HT_.out (by kernel_rfl)) (fun _ _ _ h => h) (Or.inl ⟨by rfl, ?_⟩) ?_ ?_
  rotate_left
  · intro w'
    go_simp
    with_reducible rfl
  rotate_left
  · simp only [Act.put, zA, zC, zD, i64_w, i32_w]
    rfl
  refine one_ (i := 5) (N := some 8) #[true, true, true, true, true, true, true, true, false, true, false, false, false, false, false] rfl rfl (one_of HT_.out (by kernel_rfl)) (by decide) (fun K hK => ?_)
  refine goes_ Tryd.func19 (by kernel_rfl) rfl #[.string a0_2, .int .i64 40] (by rfl) rfl rfl (by (try simp only [zS, zU, zV]); first | done | rfl | (simp only [zO, zN]; rfl)) ?_
  with_reducible refine (boscagebase_Cut.calls a0_2 40 t128 _ A3.out).mono ?_
  rintro e w9 ⟨rfl, hb⟩
  refine ⟨_, rfl, ?_⟩
  have n0_ := zX (zm (g := gb125) (o := .cells #[.int .i64 a0_0, .string a0_1, .string a0_2, .string a0_3, .int .i64 a0_4] 29 (0, 0)) (by (with_reducible repeat (first | refine zL ?_ _ | refine zM ?_ | refine zJ ?_ _)); exact BK125.out) hb)
  have n1_ := zX (zm (g := gb126) (o := .cells #[.int .i64 0, .string (⟨#[]⟩ : ByteArray), .string (⟨#[]⟩ : ByteArray), .string (⟨#[]⟩ : ByteArray), .int .i64 0] 29 (0, 0)) (by (with_reducible repeat (first | refine zL ?_ _ | refine zM ?_ | refine zJ ?_ _)); exact BK126.out) hb)
  have n2_ := zX (zT (by repeat (first | (with_reducible first | exact HB.out | apply zF | apply zE | apply zG | refine zK ?_ GE125.out | refine zK ?_ GE126.out) | exact HB.out)) hb)
  clear BK125
  clear BK126
  clear HB
  have BK125 := n0_
  have BK126 := n1_
  have HB := n2_
  clear n0_ n1_ n2_
  (try clear hb)
  (try clear hb2)
  (try clear hk)
  (try clear hi)
  refine hK.out _ _ ⟨(zH BK125.out 0).trans rfl, (zH BK125.out 1).trans rfl, (zH BK125.out 2).trans rfl, (zH BK125.out 3).trans rfl, (zH BK125.out 4).trans rfl⟩ (fun hHeld => ?_)
  clear hK K
  refine norm_ (a' := ?_) ?_ ?_
  rotate_left
  · show Act.put _ (some 8) _ = _
    simp only [Act.put, zA, zC, zD, i64_w, i32_w]
    rfl
  refine one_ (i := 8) (N := some 11) #[true, true, true, true, true, true, true, true, true, true, false, false, false, false, false] rfl rfl (one_of HT_.out (by kernel_rfl)) (by decide) (fun K hK => ?_)
  refine goes_ Tryd.func19 (by kernel_rfl) rfl #[.string a0_3, .int .i64 40] (by rfl) rfl rfl (by (try simp only [zS, zU, zV]); first | done | rfl | (simp only [zO, zN]; rfl)) ?_
  with_reducible refine (boscagebase_Cut.calls a0_3 40 t129 _ A4.out).mono ?_
  rintro e w10 ⟨rfl, hb⟩
  refine ⟨_, rfl, ?_⟩
  have n0_ := zX (zm (g := gb125) (o := .cells #[.int .i64 a0_0, .string a0_1, .string a0_2, .string a0_3, .int .i64 a0_4] 29 (0, 0)) (by (with_reducible repeat (first | refine zL ?_ _ | refine zM ?_ | refine zJ ?_ _)); exact BK125.out) hb)
  have n1_ := zX (zm (g := gb126) (o := .cells #[.int .i64 0, .string (⟨#[]⟩ : ByteArray), .string (⟨#[]⟩ : ByteArray), .string (⟨#[]⟩ : ByteArray), .int .i64 0] 29 (0, 0)) (by (with_reducible repeat (first | refine zL ?_ _ | refine zM ?_ | refine zJ ?_ _)); exact BK126.out) hb)
  have n2_ := zX (zT (by repeat (first | (with_reducible first | exact HB.out | apply zF | apply zE | apply zG | refine zK ?_ GE125.out | refine zK ?_ GE126.out) | exact HB.out)) hb)
  clear BK125
  clear BK126
  clear HB
  have BK125 := n0_
  have BK126 := n1_
  have HB := n2_
  clear n0_ n1_ n2_
  (try clear hb)
  (try clear hb2)
  (try clear hk)
  (try clear hi)
  refine hK.out _ _ ⟨(zH BK125.out 0).trans rfl, (zH BK125.out 1).trans rfl, (zH BK125.out 2).trans rfl, (zH BK125.out 3).trans rfl, (zH BK125.out 4).trans rfl⟩ (fun hHeld => ?_)
  clear hK K
  refine norm_ (a' := ?_) ?_ ?_
  rotate_left
  · show Act.put _ (some 11) _ = _
    simp only [Act.put, zA, zC, zD, i64_w, i32_w]
    rfl
  refine last_ (i := 10) (N := none) #[true, true, true, true, true, true, true, true, true, true, true, false, false, false, false] rfl rfl (one_of HT_.out (by kernel_rfl)) (by decide) (fun K hK => ?_)
  have hs11 : w10.cell? ⟨gb125, 1, none⟩ = some (.string a0_1) := (zH BK125.out 1).trans rfl
  have hfs11 := zI BK125.out 1
  have hns11_1 := NB126_125.out
  have hms11_1 := NB125_126.out
  refine skip_ (w1 := ?_) (by rfl) rfl ?_ ?_
  rotate_left
  · go_simp
    rfl
  refine hK.out _ _ ?_
  clear hK K
  refine pure_ (i := 11) (N := some 13) (v := ?_) (a' := ?_) #[true, true, true, true, true, true, true, true, true, true, true, true, false, false, false] rfl rfl (any_of HT_.out (by kernel_rfl)) (fun _ _ _ h => h) (Or.inl ⟨by rfl, ?_⟩) ?_ ?_
  rotate_left
  · intro w'
    go_simp
    with_reducible rfl
  rotate_left
  · simp only [Act.put, zA, zC, zD, i64_w, i32_w]
    rfl
  refine last_ (i := 12) (N := none) #[true, true, true, true, true, true, true, true, true, true, true, true, true, false, false] rfl rfl (one_of HT_.out (by kernel_rfl)) (by decide) (fun K hK => ?_)
  have hs12 : w10.cell? ⟨gb125, 2, none⟩ = some (.string a0_2) := (zH BK125.out 2).trans rfl
  have hfs12 := zI BK125.out 2
  have hns12_1 := NB126_125.out
  have hms12_1 := NB125_126.out
  refine skip_ (w1 := ?_) (by rfl) rfl ?_ ?_
  rotate_left
  · go_simp
    rfl
  refine hK.out _ _ ?_
  clear hK K
  refine pure_ (i := 13) (N := some 14) (v := ?_) (a' := ?_) #[true, true, true, true, true, true, true, true, true, true, true, true, true, true, false] rfl rfl (any_of HT_.out (by kernel_rfl)) (fun _ _ _ h => h) (Or.inl ⟨by rfl, ?_⟩) ?_ ?_
  rotate_left
  · intro w'
    go_simp
    with_reducible rfl
  rotate_left
  · simp only [Act.put, zA, zC, zD, i64_w, i32_w]
    rfl
  refine last_ (i := 14) (N := none) #[true, true, true, true, true, true, true, true, true, true, true, true, true, true, true] rfl rfl (one_of HT_.out (by kernel_rfl)) (by decide) (fun K hK => ?_)
  have hs13 : w10.cell? ⟨gb125, 3, none⟩ = some (.string a0_3) := (zH BK125.out 3).trans rfl
  have hfs13 := zI BK125.out 3
  have hns13_1 := NB126_125.out
  have hms13_1 := NB125_126.out
  refine skip_ (w1 := ?_) (by rfl) rfl ?_ ?_
  rotate_left
  · go_simp
    rfl
  refine hK.out _ _ ?_
  clear hK K
  refine done_ (done_of HT_.out (by kernel_rfl)) ?_
  have hnb14 := NB125_126.out
  have hnc14 := NB126_125.out
  have hcz15_0 : w10.cell? ⟨gb125, 0, none⟩ = some (.int .i64 a0_0) := (zH BK125.out 0).trans rfl
  have hcz15_1 : w10.cell? ⟨gb125, 1, none⟩ = some (.string a0_1) := (zH BK125.out 1).trans rfl
  have hcz15_2 : w10.cell? ⟨gb125, 2, none⟩ = some (.string a0_2) := (zH BK125.out 2).trans rfl
  have hcz15_3 : w10.cell? ⟨gb125, 3, none⟩ = some (.string a0_3) := (zH BK125.out 3).trans rfl
  have hcz15_4 : w10.cell? ⟨gb125, 4, none⟩ = some (.int .i64 a0_4) := (zH BK125.out 4).trans rfl
  have hfz15_0 := zI BK125.out 0
  have hfz15_1 := zI BK125.out 1
  have hfz15_2 := zI BK125.out 2
  have hfz15_3 := zI BK125.out 3
  have hfz15_4 := zI BK125.out 4
  have hcz16_0 : w10.cell? ⟨gb126, 0, none⟩ = some (.int .i64 0) := (zH BK126.out 0).trans rfl
  have hcz16_1 : w10.cell? ⟨gb126, 1, none⟩ = some (.string (⟨#[]⟩ : ByteArray)) := (zH BK126.out 1).trans rfl
  have hcz16_2 : w10.cell? ⟨gb126, 2, none⟩ = some (.string (⟨#[]⟩ : ByteArray)) := (zH BK126.out 2).trans rfl
  have hcz16_3 : w10.cell? ⟨gb126, 3, none⟩ = some (.string (⟨#[]⟩ : ByteArray)) := (zH BK126.out 3).trans rfl
  have hcz16_4 : w10.cell? ⟨gb126, 4, none⟩ = some (.int .i64 0) := (zH BK126.out 4).trans rfl
  have hfz16_0 := zI BK126.out 0
  have hfz16_1 := zI BK126.out 1
  have hfz16_2 := zI BK126.out 2
  have hfz16_3 := zI BK126.out 3
  have hfz16_4 := zI BK126.out 4
  try go_wp2
  refine bodyPost_ret (results_cell_row rfl _ _ gb126 29 #[.int .i64 a0_0, .string t127, .string t128, .string t129, .int .i64 a0_4] (0, 0) _ rfl (by (with_reducible repeat (first | refine zL ?_ _ | refine zM ?_ | refine zJ ?_ _)); refine blk_put (cs := #[.int .i64 a0_0, .string t127, .string t128, .string t129, .int .i64 0]) ?_ 4 _ rfl; (with_reducible repeat (first | refine zL ?_ _ | refine zM ?_ | refine zJ ?_ _)); refine blk_put (cs := #[.int .i64 a0_0, .string t127, .string t128, .string (⟨#[]⟩ : ByteArray), .int .i64 0]) ?_ 3 _ rfl; (with_reducible repeat (first | refine zL ?_ _ | refine zM ?_ | refine zJ ?_ _)); refine blk_put (cs := #[.int .i64 a0_0, .string t127, .string (⟨#[]⟩ : ByteArray), .string (⟨#[]⟩ : ByteArray), .int .i64 0]) ?_ 2 _ rfl; (with_reducible repeat (first | refine zL ?_ _ | refine zM ?_ | refine zJ ?_ _)); refine blk_put (cs := #[.int .i64 a0_0, .string (⟨#[]⟩ : ByteArray), .string (⟨#[]⟩ : ByteArray), .string (⟨#[]⟩ : ByteArray), .int .i64 0]) ?_ 1 _ rfl; (with_reducible repeat (first | refine zL ?_ _ | refine zM ?_ | refine zJ ?_ _)); refine blk_put (cs := #[.int .i64 0, .string (⟨#[]⟩ : ByteArray), .string (⟨#[]⟩ : ByteArray), .string (⟨#[]⟩ : ByteArray), .int .i64 0]) ?_ 0 _ rfl; (with_reducible repeat (first | refine zL ?_ _ | refine zM ?_ | refine zJ ?_ _)); refine blk_far ?_ NB126_125.out _; (with_reducible repeat (first | refine zL ?_ _ | refine zM ?_ | refine zJ ?_ _)); refine blk_far ?_ NB126_125.out _; (with_reducible repeat (first | refine zL ?_ _ | refine zM ?_ | refine zJ ?_ _)); refine blk_far ?_ NB126_125.out _; (with_reducible repeat (first | refine zL ?_ _ | refine zM ?_ | refine zJ ?_ _)); exact BK126.out) Tryd.underlying29 rfl (by kernel_rfl)) rfl ?_
  exact ⟨by first | rfl | (simp [errW_none, errW_some] <;> rfl) | (simp [*, errW_none, errW_some] <;> rfl), by repeat (first | (with_reducible first | exact HB.out | apply zF | apply zE | apply zG | refine zK ?_ GE125.out | refine zK ?_ GE126.out) | exact HB.out)⟩

end Go.Proofs.YthnococjdeafhaaDoor.PModelKeeps
