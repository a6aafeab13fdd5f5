-- printed by a program of the session (wip/hyb/mkprint.py)
import Derived.Test.YthnococjdeafhaaDoorPModelKeepsx0
namespace Go.Proofs.YthnococjdeafhaaDoor.PModelKeeps
open Go.RowKit Go.Proofs.YthnococjdeafhaaDoorW.PrintWords Go.Proofs.YthnococjdeafhaaDoorW.PrintLast Go.Proofs.YthnococjdeafhaaDoorW.PrintMore
attribute [local go_sem] max2_int min2_int max_two min_two max_three min_three max_four min_four   -- for this text's walks alone
set_option linter.unusedVariables false
set_option linter.unusedSimpArgs false

/-! ### boscagelaw31_Back: function 15 -/
def boscagelaw31_Back.l0 : Nat → Int → List (S65) → List (S72) → List (S65) → List (S61) → Option ((List (S65)) × (List (S61)))
  | 0, _, _, _, _, _ => none
  | k + 1, x4, x223000, x223001, x225000, x225001 => if x4 < (x223001.length : Int) then (if 0 ≤ x4 then (if x225001.length < 4398046511104 then (boscagelaw31_Back.l0 k (wrap64 (x4 + 1)) x223000 x223001 x225000 (x225001 ++ [(⟨(rd_T72 x223001 x4).f0, (rd_T72 x223001 x4).f1⟩ : S61)])) else (none)) else (none)) else (some (x225000, x225001))
def boscagelaw31_Back.f (k : Nat) (l0_0 : List (S65)) (l0_1 : List (S72)) : Option ((List (S65)) × (List (S61))) := boscagelaw31_Back.l0 k 0 l0_0 l0_1 l0_0 ([] : List (S61))
def boscagelaw31_Back.T5 : Bool × List (List Nat × List Nat) := (true, [([], []), ([0], [0]), ([], []), ([2], [2]), ([], []), ([3, 4], [3, 4]), ([5], [5]), ([6], [6]), ([], []), ([8], [8]), ([], []), ([9, 10], [9, 10]), ([11], [11]), ([12], [12]), ([7, 13], [7, 13]), ([14], [14]), ([1, 15], [1, 15]), ([0, 1, 2, 3, 4, 5, 6, 7, 8, 9, 10, 11, 12, 13, 14, 15, 16], []), ([17, 16, 16, 0, 1, 2, 3, 4, 5, 6, 7, 8, 9, 10, 11, 12, 13, 14, 15, 16], [16, 17])])
def boscagelaw31_Back.B5 : List Nat := [0, 1, 0, 4, 0, 28, 60, 124, 0, 256, 0, 1792, 3840, 7936, 16380, 32764, 65535, 131071, 262143]
theorem boscagelaw31_Back.tab5 : rtab .any (opsOf Tryd.f15 5) = boscagelaw31_Back.T5 := by kernel_rfl
theorem boscagelaw31_Back.bits5 : waitsOk boscagelaw31_Back.T5.2 boscagelaw31_Back.B5 = true := by kernel_rfl
set_option maxHeartbeats 8000000 in
set_option maxRecDepth 100000 in
theorem boscagelaw31_Back.calls (k : Nat) (P0_0_ : Nat → Prop) (A0_0 : Option Addr) (c0_0 : Nat) (l0_0 : List (S65)) (P0_1_ : Nat → Prop) (A0_1 : Option Addr) (c0_1 : Nat) (l0_1 : List (S72)) (r1 : List (S65)) (r2 : List (S61)) (w : World) (hs0_0 : Kd.V k65 65 w w.heap.size (fun k_ => P0_0_ k_) (.slice A0_0 l0_0.length c0_0) l0_0) (hs0_1 : Kd.V k72 72 w w.heap.size (fun k_ => P0_1_ k_) (.slice A0_1 l0_1.length c0_1) l0_1) (h : boscagelaw31_Back.f k l0_0 l0_1 = some (r1, r2)) :
    Calls Tryd.prog 15 #[.agg #[.slice A0_0 l0_0.length c0_0, .slice A0_1 l0_1.length c0_1]] w fun e w' => ∃ v0_ v1_ : Value, e = .returned (.agg #[v0_, v1_]) ∧ Kd.V k65 65 w' w.heap.size (fun k_ => ((P0_0_ k_ ∨ P0_1_ k_) ∨ w.heap.size ≤ k_) ∧ some k_ ≠ (v1_ : Value).ownBlock) v0_ r1 ∧ Kd.N k61 61 w' w.heap.size (fun k_ => ((P0_0_ k_ ∨ P0_1_ k_) ∨ w.heap.size ≤ k_)) v1_ r2 ∧ Below w.heap.size w w' := by
  have hu39 := Tryd.underlying39
  have hu27 := Tryd.underlying27
  have hu61 := Tryd.underlying61
  have HO0_0 := zX (show Kd.V k65 65 w w.heap.size (fun k_ => ((P0_0_ k_ ∨ P0_1_ k_) ∨ w.heap.size ≤ k_)) (.slice A0_0 l0_0.length c0_0) l0_0 from Kd.V_mono hs0_0 (fun k_ hk => .inl (.inl hk)))
  have HO0_1 := zX (show Kd.V k72 72 w w.heap.size (fun k_ => ((P0_0_ k_ ∨ P0_1_ k_) ∨ w.heap.size ≤ k_)) (.slice A0_1 l0_1.length c0_1) l0_1 from Kd.V_mono hs0_1 (fun k_ hk => .inl (.inr hk)))
  have HB := zX (zi w.heap.size w)
  have H : (boscagelaw31_Back.l0 k 0 l0_0 l0_1 l0_0 ([] : List (S61))) = some (r1, r2) := h
  clear h
  have H' := zX H
  clear H
  go_enter Tryd.func15, Tryd.ntmps15
  go_wp2_with (first | ((with_reducible refine gate_dst (N := 1) rfl ?_); refine box_event ?hg (N := 1) ?hd (cs := #[.slice A0_0 l0_0.length c0_0, .slice A0_1 l0_1.length c0_1]) (t := 39) ?hr ?_; (case hd => rfl); (case hg => rfl); (case hr => first | (go_simp; done) | (go_simp; rfl)); intro gb222 hg w2 hbox hb; have n0_ := zX (Kd.V_below (Kd.V_elderB (by (with_reducible repeat (first | apply zb | apply zc | apply zd)); exact HO0_0.out) gb222 (Nat.le_of_eq hg.symm)) hb); have n1_ := zX (Kd.V_below (Kd.V_elderB (by (with_reducible repeat (first | apply zb | apply zc | apply zd)); exact HO0_1.out) gb222 (Nat.le_of_eq hg.symm)) hb); have n2_ := zX (zT (by repeat (first | (with_reducible first | exact HB.out | apply zF | apply zE | apply zG) | exact HB.out)) hb); have n3_ := zX (hbox); have n4_ := zX ((by rw [hg]; exact (zY (by repeat (first | (with_reducible first | exact HB.out | apply zF | apply zE | apply zG) | exact HB.out))) : w.heap.size ≤ gb222)); have n5_ := zX ((by rw [hg]; exact (zY (by repeat (first | (with_reducible first | exact HB.out | apply zF | apply zE | apply zG) | exact HB.out))) : w.heap.size ≤ gb222)); clear HO0_0; clear HO0_1; clear HB; have HO0_0 := n0_; have HO0_1 := n1_; have HB := n2_; have BK222 := n3_; have GW222 := n4_; have GE222 := n5_; clear n0_ n1_ n2_ n3_ n4_ n5_; clear hb hbox hg) | ((with_reducible refine gate_dst (N := 2) rfl ?_); refine box_event ?hg (N := 2) ?hd (cs := #[.slice none 0 0, .slice none 0 0]) (t := 27) ?hr ?_; (case hd => rfl); (case hg => rfl); (case hr => first | (go_simp; done) | (go_simp; rfl)); intro gb223 hg w3 hbox hb; have n0_ := zX (Kd.V_below (Kd.V_elderB (by (with_reducible repeat (first | apply zb | apply zc | apply zd)); exact HO0_0.out) gb223 (Nat.le_of_eq hg.symm)) hb); have n1_ := zX (Kd.V_below (Kd.V_elderB (by (with_reducible repeat (first | apply zb | apply zc | apply zd)); exact HO0_1.out) gb223 (Nat.le_of_eq hg.symm)) hb); have n2_ := zX (zm (g := gb222) (o := .cells #[.slice A0_0 l0_0.length c0_0, .slice A0_1 l0_1.length c0_1] 39 (0, 0)) (by (with_reducible repeat (first | refine zL ?_ _ | refine zM ?_ | refine zJ ?_ _)); exact BK222.out) hb); have n3_ := zX (zT (by repeat (first | (with_reducible first | exact HB.out | apply zF | apply zE | apply zG | refine zK ?_ GE222.out) | exact HB.out)) hb); have n4_ := zX (hbox); have n5_ := zX ((by rw [hg]; exact (zY (by repeat (first | (with_reducible first | exact HB.out | apply zF | apply zE | apply zG | refine zK ?_ GE222.out) | exact HB.out))) : w.heap.size ≤ gb223)); have n6_ := zX ((by rw [hg]; exact (zY (by repeat (first | (with_reducible first | exact HB.out | apply zF | apply zE | apply zG | refine zK ?_ GE222.out) | exact HB.out))) : w.heap.size ≤ gb223)); have n7_ := zX ((by rw [hg]; exact Nat.ne_of_lt (blk_lt (g := gb222) (o := .cells #[.slice A0_0 l0_0.length c0_0, .slice A0_1 l0_1.length c0_1] 39 (0, 0)) (by (with_reducible repeat (first | refine zL ?_ _ | refine zM ?_ | refine zJ ?_ _)); exact BK222.out)) : gb222 ≠ gb223)); have n8_ := zX ((by rw [hg]; exact Nat.ne_of_gt (blk_lt (g := gb222) (o := .cells #[.slice A0_0 l0_0.length c0_0, .slice A0_1 l0_1.length c0_1] 39 (0, 0)) (by (with_reducible repeat (first | refine zL ?_ _ | refine zM ?_ | refine zJ ?_ _)); exact BK222.out)) : gb223 ≠ gb222)); clear HO0_0; clear HO0_1; clear BK222; clear HB; have HO0_0 := n0_; have HO0_1 := n1_; have BK222 := n2_; have HB := n3_; have BK223 := n4_; have GW223 := n5_; have GE223 := n6_; have NB222_223 := n7_; have NB223_222 := n8_; clear n0_ n1_ n2_ n3_ n4_ n5_ n6_ n7_ n8_; clear hb hbox hg; have hnb4 := NB222_223.out; have hnc4 := NB223_222.out; have hcz5_0 : w3.cell? ⟨gb222, 0, none⟩ = some (.slice A0_0 l0_0.length c0_0) := (zH BK222.out 0).trans rfl; have hcz5_1 : w3.cell? ⟨gb222, 1, none⟩ = some (.slice A0_1 l0_1.length c0_1) := (zH BK222.out 1).trans rfl; have hfz5_0 := zI BK222.out 0; have hfz5_1 := zI BK222.out 1) | ((with_reducible refine gate_dst (N := 3) rfl ?_); refine box_event ?hg (N := 3) ?hd (cs := #[.slice none 0 0, .slice none 0 0]) (t := 27) ?hr ?_; (case hd => rfl); (case hg => rfl); (case hr => first | (go_simp; done) | (go_simp; rfl)); intro gb224 hg w6 hbox hb; have n0_ := zX (Kd.V_below (Kd.V_elderB (by (with_reducible repeat (first | apply zb | apply zc | apply zd)); exact HO0_0.out) gb224 (Nat.le_of_eq hg.symm)) hb); have n1_ := zX (Kd.V_below (Kd.V_elderB (by (with_reducible repeat (first | apply zb | apply zc | apply zd)); exact HO0_1.out) gb224 (Nat.le_of_eq hg.symm)) hb); have n2_ := zX (zm (g := gb222) (o := .cells #[.slice A0_0 l0_0.length c0_0, .slice A0_1 l0_1.length c0_1] 39 (0, 0)) (by (with_reducible repeat (first | refine zL ?_ _ | refine zM ?_ | refine zJ ?_ _)); exact BK222.out) hb); have n3_ := zX (zm (g := gb223) (o := .cells #[.slice none 0 0, .slice none 0 0] 27 (0, 0)) (by (with_reducible repeat (first | refine zL ?_ _ | refine zM ?_ | refine zJ ?_ _)); exact BK223.out) hb); have n4_ := zX (zT (by repeat (first | (with_reducible first | exact HB.out | apply zF | apply zE | apply zG | refine zK ?_ GE222.out | refine zK ?_ GE223.out) | exact HB.out)) hb); have n5_ := zX (hbox); have n6_ := zX ((by rw [hg]; exact (zY (by repeat (first | (with_reducible first | exact HB.out | apply zF | apply zE | apply zG | refine zK ?_ GE222.out | refine zK ?_ GE223.out) | exact HB.out))) : w.heap.size ≤ gb224)); have n7_ := zX ((by rw [hg]; exact (zY (by repeat (first | (with_reducible first | exact HB.out | apply zF | apply zE | apply zG | refine zK ?_ GE222.out | refine zK ?_ GE223.out) | exact HB.out))) : w.heap.size ≤ gb224)); have n8_ := zX ((by rw [hg]; exact Nat.ne_of_lt (blk_lt (g := gb222) (o := .cells #[.slice A0_0 l0_0.length c0_0, .slice A0_1 l0_1.length c0_1] 39 (0, 0)) (by (with_reducible repeat (first | refine zL ?_ _ | refine zM ?_ | refine zJ ?_ _)); exact BK222.out)) : gb222 ≠ gb224)); have n9_ := zX ((by rw [hg]; exact Nat.ne_of_gt (blk_lt (g := gb222) (o := .cells #[.slice A0_0 l0_0.length c0_0, .slice A0_1 l0_1.length c0_1] 39 (0, 0)) (by (with_reducible repeat (first | refine zL ?_ _ | refine zM ?_ | refine zJ ?_ _)); exact BK222.out)) : gb224 ≠ gb222)); have n10_ := zX ((by rw [hg]; exact Nat.ne_of_lt (blk_lt (g := gb223) (o := .cells #[.slice none 0 0, .slice none 0 0] 27 (0, 0)) (by (with_reducible repeat (first | refine zL ?_ _ | refine zM ?_ | refine zJ ?_ _)); exact BK223.out)) : gb223 ≠ gb224)); have n11_ := zX ((by rw [hg]; exact Nat.ne_of_gt (blk_lt (g := gb223) (o := .cells #[.slice none 0 0, .slice none 0 0] 27 (0, 0)) (by (with_reducible repeat (first | refine zL ?_ _ | refine zM ?_ | refine zJ ?_ _)); exact BK223.out)) : gb224 ≠ gb223)); clear HO0_0; clear HO0_1; clear BK222; clear BK223; clear HB; have HO0_0 := n0_; have HO0_1 := n1_; have BK222 := n2_; have BK223 := n3_; have HB := n4_; have BK224 := n5_; have GW224 := n6_; have GE224 := n7_; have NB222_224 := n8_; have NB224_222 := n9_; have NB223_224 := n10_; have NB224_223 := n11_; clear n0_ n1_ n2_ n3_ n4_ n5_ n6_ n7_ n8_ n9_ n10_ n11_; clear hb hbox hg; have hnb7 := NB224_222.out; have hnc7 := NB222_224.out; have hnb8 := NB224_223.out; have hnc8 := NB223_224.out; have hcz9_0 : w6.cell? ⟨gb224, 0, none⟩ = some (.slice none 0 0) := (zH BK224.out 0).trans rfl; have hcz9_1 : w6.cell? ⟨gb224, 1, none⟩ = some (.slice none 0 0) := (zH BK224.out 1).trans rfl; have hfz9_0 := zI BK224.out 0; have hfz9_1 := zI BK224.out 1))
  go_loopg [4] k (fun kq v4 w' => ∃ (x4_1 : Int) (x225001_1 : List (S61)) (u225001 : Value), v4 = .int .i64 x4_1 ∧ Aside0 (boscagelaw31_Back.l0 kq x4_1 l0_0 l0_1 l0_0 x225001_1 = some (r1, r2)) ∧ Aside0 (kq ≤ k) ∧ Aside0 (Kd.V k65 65 w' w.heap.size (fun k_ => ((P0_0_ k_ ∨ P0_1_ k_) ∨ w.heap.size ≤ k_) ∧ some k_ ≠ (u225001 : Value).ownBlock ∧ k_ ≠ gb222 ∧ k_ ≠ gb223 ∧ k_ ≠ gb224) (.slice A0_0 l0_0.length c0_0) l0_0) ∧ Aside0 (Kd.V k72 72 w' w.heap.size (fun k_ => ((P0_0_ k_ ∨ P0_1_ k_) ∨ w.heap.size ≤ k_) ∧ some k_ ≠ (u225001 : Value).ownBlock ∧ k_ ≠ gb222 ∧ k_ ≠ gb223 ∧ k_ ≠ gb224) (.slice A0_1 l0_1.length c0_1) l0_1) ∧ Aside0 (Kd.V k65 65 w' w.heap.size (fun k_ => ((P0_0_ k_ ∨ P0_1_ k_) ∨ w.heap.size ≤ k_) ∧ some k_ ≠ (u225001 : Value).ownBlock ∧ k_ ≠ gb222 ∧ k_ ≠ gb223 ∧ k_ ≠ gb224) (.slice A0_0 l0_0.length c0_0) l0_0) ∧ Aside0 (Kd.N k61 61 w' w.heap.size (fun k_ => ((P0_0_ k_ ∨ P0_1_ k_) ∨ w.heap.size ≤ k_) ∧ k_ ≠ gb222 ∧ k_ ≠ gb223 ∧ k_ ≠ gb224) u225001 x225001_1) ∧ Aside0 (w'.heap[gb222]? = some (.cells #[(.slice A0_0 l0_0.length c0_0), (.slice A0_1 l0_1.length c0_1)] 39 (0, 0))) ∧ Aside0 (w'.heap[gb223]? = some (.cells #[(.slice none 0 0), (.slice none 0 0)] 27 (0, 0))) ∧ Aside0 (w'.heap[gb224]? = some (.cells #[(.slice A0_0 l0_0.length c0_0), u225001] 27 (0, 0))) ∧ Aside0 (Below w.heap.size w w'))
  case atStart => exact ⟨(0), (([] : List (S61))), (.slice none 0 0), (by first | rfl | (simp; done) | (simp [*]; done)), H', ⟨Nat.le_refl _⟩, ⟨by (with_reducible repeat (first | apply zb | apply zc | apply zd)); exact Kd.V_mono (Kd.V_far (p := ⟨gb224, 1, none⟩) (Kd.V_far (p := ⟨gb224, 0, none⟩) (Kd.V_mono HO0_0.out (fun k_ hk => (⟨hk, hk.2⟩ : _ ∧ k_ ≠ gb224))) (fun _ hk => hk.2) (.slice A0_0 l0_0.length c0_0)) (fun _ hk => hk.2) (.slice none 0 0)) (fun _ hk => ⟨hk.1.1.1.1, ⟨(by simp [Value.ownBlock]), ⟨hk.1.1.1.2, ⟨hk.1.1.2, hk.1.2⟩⟩⟩⟩)⟩, ⟨by (with_reducible repeat (first | apply zb | apply zc | apply zd)); exact Kd.V_mono (Kd.V_far (p := ⟨gb224, 1, none⟩) (Kd.V_far (p := ⟨gb224, 0, none⟩) (Kd.V_mono HO0_1.out (fun k_ hk => (⟨hk, hk.2⟩ : _ ∧ k_ ≠ gb224))) (fun _ hk => hk.2) (.slice A0_0 l0_0.length c0_0)) (fun _ hk => hk.2) (.slice none 0 0)) (fun _ hk => ⟨hk.1.1.1.1, ⟨(by simp [Value.ownBlock]), ⟨hk.1.1.1.2, ⟨hk.1.1.2, hk.1.2⟩⟩⟩⟩)⟩, ⟨by (with_reducible repeat (first | apply zb | apply zc | apply zd)); exact Kd.V_mono (Kd.V_far (p := ⟨gb224, 1, none⟩) (Kd.V_far (p := ⟨gb224, 0, none⟩) (Kd.V_mono HO0_0.out (fun k_ hk => (⟨hk, hk.2⟩ : _ ∧ k_ ≠ gb224))) (fun _ hk => hk.2) (.slice A0_0 l0_0.length c0_0)) (fun _ hk => hk.2) (.slice none 0 0)) (fun _ hk => ⟨hk.1.1.1.1, ⟨(by simp [Value.ownBlock]), ⟨hk.1.1.1.2, ⟨hk.1.1.2, hk.1.2⟩⟩⟩⟩)⟩, ⟨by first | exact Kd.S_nil _ _ _ _ _ | exact Kd.N_nil _ _ _ _ _ | exact Kd.V_nil _ _ _ _ _ | exact Kd.Q_nil _ _ _ _ _ | exact Kd.R_nil _ _ _ _ _⟩, ⟨by (with_reducible repeat (first | refine zL ?_ _ | refine zM ?_ | refine zJ ?_ _)); refine blk_far ?_ NB222_224.out _; (with_reducible repeat (first | refine zL ?_ _ | refine zM ?_ | refine zJ ?_ _)); refine blk_far ?_ NB222_224.out _; (with_reducible repeat (first | refine zL ?_ _ | refine zM ?_ | refine zJ ?_ _)); exact BK222.out⟩, ⟨by (with_reducible repeat (first | refine zL ?_ _ | refine zM ?_ | refine zJ ?_ _)); refine blk_far ?_ NB223_224.out _; (with_reducible repeat (first | refine zL ?_ _ | refine zM ?_ | refine zJ ?_ _)); refine blk_far ?_ NB223_224.out _; (with_reducible repeat (first | refine zL ?_ _ | refine zM ?_ | refine zJ ?_ _)); exact BK223.out⟩, ⟨by (with_reducible repeat (first | refine zL ?_ _ | refine zM ?_ | refine zJ ?_ _)); refine blk_put (cs := #[.slice A0_0 l0_0.length c0_0, .slice none 0 0]) ?_ 1 _ rfl; (with_reducible repeat (first | refine zL ?_ _ | refine zM ?_ | refine zJ ?_ _)); refine blk_put (cs := #[.slice none 0 0, .slice none 0 0]) ?_ 0 _ rfl; (with_reducible repeat (first | refine zL ?_ _ | refine zM ?_ | refine zJ ?_ _)); exact BK224.out⟩, ⟨by repeat (first | (with_reducible first | exact HB.out | apply zF | apply zE | apply zG | refine zK ?_ GE222.out | refine zK ?_ GE223.out | refine zK ?_ GE224.out) | exact HB.out)⟩⟩
  case round =>
    clear H'
    try clear c1
    try clear p2
    try clear c4
    try clear c7
    try clear c8
    try clear hcz5_0
    try clear hcz5_1
    try clear hcz9_0
    try clear hcz9_1
    try clear hfz5_0
    try clear hfz5_1
    try clear hfz9_0
    try clear hfz9_1
    obtain ⟨x4_1, x225001_1, u225001, rfl, HA, HK1, HO_223000, HO_223001, HO_225000, HO_225001, BK222, BK223, BK224, HB⟩ := hrel
    cases gk with
    | zero => exact absurd HA.out (by simp [boscagelaw31_Back.l0])
    | succ k1 =>
      have H := HA.out
      clear HA
      simp only [boscagelaw31_Back.l0] at H
      by_cases c10 : x4_1 < (l0_1.length : Int)
      · rw [if_pos c10] at H
        have c10b0 : decide (x4_1 < (l0_1.length : Int)) = true := zW c10
        clear c10
        by_cases c11 : 0 ≤ x4_1
        · rw [if_pos c11] at H
          have c11b0 : decide (0 ≤ x4_1) = true := zW c11
          clear c11
          by_cases c12 : x225001_1.length < 4398046511104
          · rw [if_pos c12] at H
            have LMc12 := zX c12
            clear c12
            obtain ⟨y227, hy227⟩ : ∃ y_ : List (S61), y_ = (x225001_1 ++ [(⟨(rd_T72 l0_1 x4_1).f0, (rd_T72 l0_1 x4_1).f1⟩ : S61)]) := ⟨_, rfl⟩
            replace H : (boscagelaw31_Back.l0 k1 (wrap64 (x4_1 + 1)) l0_0 l0_1 l0_0 y227) = some (r1, r2) := by first | (rw [hy227]; with_reducible exact H) | (have H2_ := (Option.bind_some _ _).symm.trans H; rw [hy227]; with_reducible exact H2_) | (have H2_ := (Option.bind_some _ _).symm.trans H; with_reducible exact H2_) | with_reducible exact H | (rw [hy227]; exact H) | exact H
            have Ny227 := zX hy227
            clear hy227
            have H' := zX H
            clear H
            have hnb13 := NB222_223.out
            have hnc13 := NB223_222.out
            have hnb14 := NB222_224.out
            have hnc14 := NB224_222.out
            have hcz15_0 : wr.cell? ⟨gb222, 0, none⟩ = some (.slice A0_0 l0_0.length c0_0) := (zH BK222.out 0).trans rfl
            have hcz15_1 : wr.cell? ⟨gb222, 1, none⟩ = some (.slice A0_1 l0_1.length c0_1) := (zH BK222.out 1).trans rfl
            have hfz15_0 := zI BK222.out 0
            have hfz15_1 := zI BK222.out 1
            try go_wp2
            have n0_ := zX (zd HO_223000.out)
            have n1_ := zX (zd HO_223001.out)
            have n2_ := zX (zd HO_225000.out)
            have n3_ := zX (zp HO_225001.out)
            have n4_ := zX (zM BK222.out)
            have n5_ := zX (zM BK223.out)
            have n6_ := zX (zM BK224.out)
            have n7_ := zX (zG HB.out)
            clear HO_223000
            clear HO_223001
            clear HO_225000
            clear HO_225001
            clear BK222
            clear BK223
            clear BK224
            clear HB
            have HO_223000 := n0_
            have HO_223001 := n1_
            have HO_225000 := n2_
            have HO_225001 := n3_
            have BK222 := n4_
            have BK223 := n5_
            have BK224 := n6_
            have HB := n7_
            clear n0_ n1_ n2_ n3_ n4_ n5_ n6_ n7_
            have p225 : 0 ≤ (x4_1 : Int) := zP (by first | (with_reducible assumption) | assumption)
            have q225 : x4_1 < (l0_1.length : Int) := zP (by first | (with_reducible assumption) | assumption)
            obtain ⟨ad225, A225_1, c225_1, e225, hx225_0, hx225_1, hl225_1, hi225_1⟩ := at_T72 (Kd.V_reads' HO_223001.out).2.2 x4_1 p225 q225
            cases e225
            obtain ⟨ce225, hce225, hMe225, hcc225⟩ := Kd.V_get HO_223001.out z72 x4_1 p225 (by first | exact q225 | exact zP (by first | (with_reducible assumption) | assumption) | (have e_ := (Kd.V_reads' HO_223001.out).1; omega))
            obtain ⟨ua225_1, uc225_1, rfl, ul225_1, ge225_1⟩ := k72_openF hMe225
            have hv225_1 := hcc225 1 _ rfl
            rw [add_field _ _ 1 (by omega)] at hv225_1
            replace hv225_1 := zQ (hv225_1.symm.trans hx225_1)
            injection hv225_1 with hva_ hvn_ hvc_
            rw [hva_] at ge225_1
            rw [hvc_] at ul225_1
            have HL225_1 := zX (show Kd.V k65 65 _ w.heap.size _ _ ((rd_T72 l0_1 x4_1).f1) from Kd.V_mk ul225_1 ge225_1)
            clear hva_ hvn_ hvc_ ge225_1 ul225_1
            clear hcc225 hce225
            have HR225_1 := zX hi225_1
            have HC225_1 := zX hl225_1
            clear hi225_1 hl225_1
            replace p225 := eq_true p225
            replace q225 := eq_true q225
            have p226 : 0 ≤ (x4_1 : Int) := zP (by first | (with_reducible assumption) | assumption)
            have q226 : x4_1 < (l0_1.length : Int) := zP (by first | (with_reducible assumption) | assumption)
            obtain ⟨ad226, A226_1, c226_1, e226, hx226_0, hx226_1, hl226_1, hi226_1⟩ := at_T72 (Kd.V_reads' HO_223001.out).2.2 x4_1 p226 q226
            obtain rfl : ad225 = ad226 := (by injection e226)
            obtain ⟨ce226, hce226, hMe226, hcc226⟩ := Kd.V_get HO_223001.out z72 x4_1 p226 (by first | exact q226 | exact zP (by first | (with_reducible assumption) | assumption) | (have e_ := (Kd.V_reads' HO_223001.out).1; omega))
            obtain ⟨ua226_1, uc226_1, rfl, ul226_1, ge226_1⟩ := k72_openF hMe226
            have hv226_1 := hcc226 1 _ rfl
            rw [add_field _ _ 1 (by omega)] at hv226_1
            replace hv226_1 := zQ (hv226_1.symm.trans hx226_1)
            injection hv226_1 with hva_ hvn_ hvc_
            rw [hva_] at ge226_1
            rw [hvc_] at ul226_1
            have HL226_1 := zX (show Kd.V k65 65 _ w.heap.size _ _ ((rd_T72 l0_1 x4_1).f1) from Kd.V_mk ul226_1 ge226_1)
            clear hva_ hvn_ hvc_ ge226_1 ul226_1
            clear hcc226 hce226
            have HR226_1 := zX hi226_1
            have HC226_1 := zX hl226_1
            clear hi226_1 hl226_1
            replace p226 := eq_true p226
            replace q226 := eq_true q226
            have ea_ := zQ (hx225_1.symm.trans hx226_1)
            injection ea_ with ea_ en_ ec_
            subst ea_
            subst ec_
            clear en_
            refine start_ (n := 19) (S := fun w' => w'.cell? ⟨gb224, 0, none⟩ = some (.slice A0_0 l0_0.length c0_0) ∧ w'.cell? ⟨gb224, 1, none⟩ = some (u225001) ∧ w'.cell? ⟨gb222, 0, none⟩ = some (.slice A0_0 l0_0.length c0_0) ∧ w'.cell? ⟨gb222, 1, none⟩ = some (.slice (some ad225) l0_1.length c0_1) ∧ w'.cell? (ad225.add ((x4_1).toNat * 2)) = some (.int .i64 ((rd_T72 l0_1 x4_1).f0)) ∧ w'.cell? ⟨(ad225.add ((x4_1).toNat * 2)).block, (ad225.add ((x4_1).toNat * 2)).off + 1, none⟩ = some (.slice A225_1 ((rd_T72 l0_1 x4_1).f1).length c225_1) ∧ w'.cell? (ad225.add ((x4_1).toNat * 2)) = some (.int .i64 ((rd_T72 l0_1 x4_1).f0)) ∧ w'.cell? ⟨(ad225.add ((x4_1).toNat * 2)).block, (ad225.add ((x4_1).toNat * 2)).off + 1, none⟩ = some (.slice A225_1 ((rd_T72 l0_1 x4_1).f1).length c225_1)) (ds := [16, 18]) #[false, false, false, false, false, false, false, false, false, false, false, false, false, false, false, false, false, false, false] (by kernel_rfl) rfl rfl ⟨(zH BK224.out 0).trans rfl, (zH BK224.out 1).trans rfl, (zH BK222.out 0).trans rfl, (zH BK222.out 1).trans rfl, hx225_0, hx225_1, hx226_0, hx226_1⟩ (fun hHeld => ?_); refine with_tabW boscagelaw31_Back.tab5 boscagelaw31_Back.bits5 (fun HT_ HW_ => ?_)
            generalize wr.drew = w16 at HO_223000 HO_223001 HO_225000 HO_225001 BK222 BK223 BK224 HB HL225_1 HL226_1 HR225_1 HR226_1 hx225_0 hx225_1 hx226_0 hx226_1 hHeld ⊢
            refine pure_ (i := 0) (N := some 15) (v := ?_) (a' := ?_) #[true, false, false, false, false, false, false, false, false, false, false, false, false, false, false, false, false, false, false] rfl rfl (any_of HT_.out (by kernel_rfl)) (fun _ _ _ h => h) (Or.inl ⟨by rfl, ?_⟩) ?_ ?_
            rotate_left
            · intro w'
              go_simp
              with_reducible rfl
            rotate_left
            · simp only [Act.put, zA, zC, zD, i64_w, i32_w]
              rfl
            refine pure_ (i := 2) (N := some 17) (v := ?_) (a' := ?_) #[true, false, true, false, false, false, false, false, false, false, false, false, false, false, false, false, false, false, false] rfl rfl (any_of HT_.out (by kernel_rfl)) (fun _ _ _ h => h) (Or.inl ⟨by rfl, ?_⟩) ?_ ?_
            rotate_left
            · intro w'
              go_simp
              with_reducible rfl
            rotate_left
            · simp only [Act.put, zA, zC, zD, i64_w, i32_w]
              rfl
            refine pure_ (i := 4) (N := some 19) (v := ?_) (a' := ?_) #[true, false, true, false, true, false, false, false, false, false, false, false, false, false, false, false, false, false, false] rfl rfl (any_of HT_.out (by kernel_rfl)) (fun _ _ _ h => h) (Or.inl ⟨by rfl, ?_⟩) ?_ ?_
            rotate_left
            · intro w'
              go_simp
              with_reducible rfl
            rotate_left
            · simp only [Act.put, zA, zC, zD, i64_w, i32_w]
              rfl
            refine pure_ (i := 8) (N := some 23) (v := ?_) (a' := ?_) #[true, false, true, false, true, false, false, false, true, false, false, false, false, false, false, false, false, false, false] rfl rfl (any_of HT_.out (by kernel_rfl)) (fun _ _ _ h => h) (Or.inl ⟨by rfl, ?_⟩) ?_ ?_
            rotate_left
            · intro w'
              go_simp
              with_reducible rfl
            rotate_left
            · simp only [Act.put, zA, zC, zD, i64_w, i32_w]
              rfl
            refine pure_ (i := 10) (N := some 25) (v := ?_) (a' := ?_) #[true, false, true, false, true, false, false, false, true, false, true, false, false, false, false, false, false, false, false] rfl rfl (any_of HT_.out (by kernel_rfl)) (fun _ _ _ h => h) (Or.inl ⟨by rfl, ?_⟩) ?_ ?_
            rotate_left
            · intro w'
              go_simp
              with_reducible rfl
            rotate_left
            · simp only [Act.put, zA, zC, zD, i64_w, i32_w]
              rfl
            refine take_ (i := 1) (N := some 16) (v := ?_) (a' := ?_) #[true, true, true, false, true, false, false, false, true, false, true, false, false, false, false, false, false, false, false] rfl rfl (take_ofW HT_.out HW_.out (by kernel_rfl)) (fun _ _ _ h => h) (Or.inl ⟨by rfl, ?_⟩) hHeld ?_ ?_
            rotate_left
            · rintro w' ⟨s0, s1, s2, s3, s4, s5, s6, s7⟩
              go_simp
              with_reducible rfl
            rotate_left
            · simp only [Act.put, zA, zC, zD, i64_w, i32_w]
              rfl
            refine take_ (i := 3) (N := some 18) (v := ?_) (a' := ?_) #[true, true, true, true, true, false, false, false, true, false, true, false, false, false, false, false, false, false, false] rfl rfl (take_ofW HT_.out HW_.out (by kernel_rfl)) (fun _ _ _ h => h) (Or.inl ⟨by rfl, ?_⟩) hHeld ?_ ?_
            rotate_left
            · rintro w' ⟨s0, s1, s2, s3, s4, s5, s6, s7⟩
              go_simp
              with_reducible rfl
            rotate_left
            · simp only [Act.put, zA, zC, zD, i64_w, i32_w]
              rfl
            refine pure_ (i := 5) (N := some 20) (v := ?_) (a' := ?_) #[true, true, true, true, true, true, false, false, true, false, true, false, false, false, false, false, false, false, false] rfl rfl (any_of HT_.out (by kernel_rfl)) (fun _ _ _ h => h) (Or.inl ⟨by rfl, ?_⟩) ?_ ?_
            rotate_left
            · intro w'
              go_simp
              with_reducible rfl
            rotate_left
            · simp only [Act.put, zA, zC, zD, i64_w, i32_w]
              rfl
            refine pure_ (i := 6) (N := some 21) (v := ?_) (a' := ?_) #[true, true, true, true, true, true, true, false, true, false, true, false, false, false, false, false, false, false, false] rfl rfl (any_of HT_.out (by kernel_rfl)) (fun _ _ _ h => h) (Or.inl ⟨by rfl, ?_⟩) ?_ ?_
            rotate_left
            · intro w'
              go_simp
              with_reducible rfl
            rotate_left
            · simp only [Act.put, zA, zC, zD, i64_w, i32_w]
              rfl
            refine take_ (i := 7) (N := some 22) (v := ?_) (a' := ?_) #[true, true, true, true, true, true, true, true, true, false, true, false, false, false, false, false, false, false, false] rfl rfl (take_ofW HT_.out HW_.out (by kernel_rfl)) (fun _ _ _ h => h) (Or.inl ⟨by rfl, ?_⟩) hHeld ?_ ?_
            rotate_left
            · rintro w' ⟨s0, s1, s2, s3, s4, s5, s6, s7⟩
              go_simp
              with_reducible rfl
            rotate_left
            · simp only [Act.put, zA, zC, zD, i64_w, i32_w]
              rfl
            refine take_ (i := 9) (N := some 24) (v := ?_) (a' := ?_) #[true, true, true, true, true, true, true, true, true, true, true, false, false, false, false, false, false, false, false] rfl rfl (take_ofW HT_.out HW_.out (by kernel_rfl)) (fun _ _ _ h => h) (Or.inl ⟨by rfl, ?_⟩) hHeld ?_ ?_
            rotate_left
            · rintro w' ⟨s0, s1, s2, s3, s4, s5, s6, s7⟩
              go_simp
              with_reducible rfl
            rotate_left
            · simp only [Act.put, zA, zC, zD, i64_w, i32_w]
              rfl
            refine pure_ (i := 11) (N := some 26) (v := ?_) (a' := ?_) #[true, true, true, true, true, true, true, true, true, true, true, true, false, false, false, false, false, false, false] rfl rfl (any_of HT_.out (by kernel_rfl)) (fun _ _ _ h => h) (Or.inl ⟨by rfl, ?_⟩) ?_ ?_
            rotate_left
            · intro w'
              go_simp
              with_reducible rfl
            rotate_left
            · simp only [Act.put, zA, zC, zD, i64_w, i32_w]
              rfl
            refine pure_ (i := 12) (N := some 27) (v := ?_) (a' := ?_) #[true, true, true, true, true, true, true, true, true, true, true, true, true, false, false, false, false, false, false] rfl rfl (any_of HT_.out (by kernel_rfl)) (fun _ _ _ h => h) (Or.inl ⟨by rfl, ?_⟩) ?_ ?_
            rotate_left
            · intro w'
              go_simp
              with_reducible rfl
            rotate_left
            · simp only [Act.put, zA, zC, zD, i64_w, i32_w]
              rfl
            refine take_ (i := 13) (N := some 28) (v := ?_) (a' := ?_) #[true, true, true, true, true, true, true, true, true, true, true, true, true, true, false, false, false, false, false] rfl rfl (take_ofW HT_.out HW_.out (by kernel_rfl)) (fun _ _ _ h => h) (Or.inl ⟨by rfl, ?_⟩) hHeld ?_ ?_
            rotate_left
            · rintro w' ⟨s0, s1, s2, s3, s4, s5, s6, s7⟩
              go_simp
              with_reducible rfl
            rotate_left
            · simp only [Act.put, zA, zC, zD, i64_w, i32_w]
              rfl
            refine pure_ (i := 14) (N := some 29) (v := ?_) (a' := ?_) #[true, true, true, true, true, true, true, true, true, true, true, true, true, true, true, false, false, false, false] rfl rfl (any_of HT_.out (by kernel_rfl)) (fun _ _ _ h => h) (Or.inl ⟨by rfl, ?_⟩) ?_ ?_
            rotate_left
            · intro w'
              go_simp
              with_reducible rfl
            rotate_left
            · simp only [Act.put, zA, zC, zD, i64_w, i32_w]
              rfl
            refine one_ (i := 15) (N := some 30) #[true, true, true, true, true, true, true, true, true, true, true, true, true, true, true, true, false, false, false] rfl rfl (one_of HT_.out (by kernel_rfl)) (by decide) (fun K hK => ?_)
            refine value_ (w1 := ?_) (v := ?_) (by rfl) rfl ?_ ?_
            rotate_left 2
            · go_simp
              constructor
              · rfl
              · rfl
            refine hK.out _ _ ⟨(zH (zJ BK224.out _) 0).trans rfl, (zH (zJ BK224.out _) 1).trans rfl, (zH (zJ BK222.out _) 0).trans rfl, (zH (zJ BK222.out _) 1).trans rfl, (World.cell?_alloc_lt _ _ _ (zB _ _ (hHeld.2.2.2.2.1))).trans (hHeld.2.2.2.2.1), (World.cell?_alloc_lt _ _ _ (zB _ _ (hHeld.2.2.2.2.2.1))).trans (hHeld.2.2.2.2.2.1), (World.cell?_alloc_lt _ _ _ (zB _ _ (hHeld.2.2.2.2.2.2.1))).trans (hHeld.2.2.2.2.2.2.1), (World.cell?_alloc_lt _ _ _ (zB _ _ (hHeld.2.2.2.2.2.2.2))).trans (hHeld.2.2.2.2.2.2.2)⟩ (fun hHeld => ?_)
            clear hK K
            refine norm_ (a' := ?_) ?_ ?_
            rotate_left
            · show Act.put _ (some 30) _ = _
              simp only [Act.put, zA, zC, zD, i64_w, i32_w]
              rfl
            refine last_ (i := 16) (N := some 31) #[true, true, true, true, true, true, true, true, true, true, true, true, true, true, true, true, true, false, false] rfl rfl (one_of HT_.out (by kernel_rfl)) (by decide) (fun K hK => ?_)
            refine Kd.N_append_step k61 (w0 := w) w.heap.size (by rfl) (.tmp 16) (.tmp 30) 25 61 (.agg #[(.int .i64 0), (.slice none 0 0)]) 32 rfl Tryd.underlying25 info61 rfl (by decide) (by omega) u225001 x225001_1 (⟨(rd_T72 l0_1 x4_1).f0, (rd_T72 l0_1 x4_1).f1⟩ : S61) [.int .i64 ((rd_T72 l0_1 x4_1).f0), .slice A225_1 ((rd_T72 l0_1 x4_1).f1).length c225_1] (fun k_ => ((P0_0_ k_ ∨ P0_1_ k_) ∨ w.heap.size ≤ k_) ∧ k_ ≠ gb222 ∧ k_ ≠ gb223 ∧ k_ ≠ gb224) (fun k_ => ((fun k_ => ((P0_0_ k_ ∨ P0_1_ k_) ∨ w.heap.size ≤ k_) ∧ k_ ≠ gb222 ∧ k_ ≠ gb223 ∧ k_ ≠ gb224)) k_ ∧ some k_ ≠ (u225001 : Value).ownBlock) rfl rfl ?aP (fun _ hk => hk) ?aF ?aO ?aB ?aS ?aL ?_
            (case aP => exact (k61_mkF _ _ (⟨(rd_T72 l0_1 x4_1).f0, (rd_T72 l0_1 x4_1).f1⟩ : S61) (Kd.V_reads' (Kd.V_mono (ok' := (fun k_ => ((fun k_ => ((P0_0_ k_ ∨ P0_1_ k_) ∨ w.heap.size ≤ k_) ∧ k_ ≠ gb222 ∧ k_ ≠ gb223 ∧ k_ ≠ gb224)) k_ ∧ some k_ ≠ (u225001 : Value).ownBlock)) (HL226_1.out) (fun k_ hk => ⟨⟨hk.1, ⟨hk.2.2.1, ⟨hk.2.2.2.1, hk.2.2.2.2⟩⟩⟩, hk.2.1⟩))).2.1 (Kd.V_F (Kd.V_mono (ok' := (fun k_ => ((fun k_ => ((P0_0_ k_ ∨ P0_1_ k_) ∨ w.heap.size ≤ k_) ∧ k_ ≠ gb222 ∧ k_ ≠ gb223 ∧ k_ ≠ gb224)) k_ ∧ some k_ ≠ (u225001 : Value).ownBlock)) (HL226_1.out) (fun k_ hk => ⟨⟨hk.1, ⟨hk.2.2.1, ⟨hk.2.2.2.1, hk.2.2.2.2⟩⟩⟩, hk.2.1⟩)))))
            (case aB => exact (by repeat (first | (with_reducible first | exact HB.out | apply zF | apply zE | apply zG | refine zK ?_ GE222.out | refine zK ?_ GE223.out | refine zK ?_ GE224.out) | exact HB.out)))
            (case aF => exact (fun k_ hk => ⟨(.inr (Nat.le_trans (zY (by repeat (first | (with_reducible first | exact HB.out | apply zF | apply zE | apply zG | refine zK ?_ GE222.out | refine zK ?_ GE223.out | refine zK ?_ GE224.out) | exact HB.out))) hk)), zl (g := gb222) (o := .cells #[.slice A0_0 l0_0.length c0_0, .slice (some ad225) l0_1.length c0_1] 39 (0, 0)) (by (with_reducible repeat (first | refine zL ?_ _ | refine zM ?_ | refine zJ ?_ _)); exact BK222.out) k_ hk, zl (g := gb223) (o := .cells #[.slice none 0 0, .slice none 0 0] 27 (0, 0)) (by (with_reducible repeat (first | refine zL ?_ _ | refine zM ?_ | refine zJ ?_ _)); exact BK223.out) k_ hk, zl (g := gb224) (o := .cells #[.slice A0_0 l0_0.length c0_0, u225001] 27 (0, 0)) (by (with_reducible repeat (first | refine zL ?_ _ | refine zM ?_ | refine zJ ?_ _)); exact BK224.out) k_ hk⟩))
            (case aO => exact (by (with_reducible repeat (first | apply ze | apply zo | apply zp)); exact HO_225001.out))
            (case aS => exact (zY (by repeat (first | (with_reducible first | exact HB.out | apply zF | apply zE | apply zG | refine zK ?_ GE222.out | refine zK ?_ GE223.out | refine zK ?_ GE224.out) | exact HB.out))))
            (case aL => have := LMc12.out; omega)
            intro v228 w17 ho hb hg hat
            rw [← Ny227.out] at ho
            have n0_ := zX (Kd.V_afterv (ok := (fun k_ => ((P0_0_ k_ ∨ P0_1_ k_) ∨ w.heap.size ≤ k_) ∧ k_ ≠ gb222 ∧ k_ ≠ gb223 ∧ k_ ≠ gb224)) (by (with_reducible repeat (first | apply zb | apply zc | apply zd)); exact Kd.V_mono HO_223000.out (fun _ hk => ⟨⟨hk.1, ⟨hk.2.2.1, ⟨hk.2.2.2.1, hk.2.2.2.2⟩⟩⟩, hk.2.1⟩)) hg hat)
            have n1_ := zX (Kd.V_afterv (ok := (fun k_ => ((P0_0_ k_ ∨ P0_1_ k_) ∨ w.heap.size ≤ k_) ∧ k_ ≠ gb222 ∧ k_ ≠ gb223 ∧ k_ ≠ gb224)) (by (with_reducible repeat (first | apply zb | apply zc | apply zd)); exact Kd.V_mono HO_223001.out (fun _ hk => ⟨⟨hk.1, ⟨hk.2.2.1, ⟨hk.2.2.2.1, hk.2.2.2.2⟩⟩⟩, hk.2.1⟩)) hg hat)
            have n2_ := zX (Kd.V_afterv (ok := (fun k_ => ((P0_0_ k_ ∨ P0_1_ k_) ∨ w.heap.size ≤ k_) ∧ k_ ≠ gb222 ∧ k_ ≠ gb223 ∧ k_ ≠ gb224)) (by (with_reducible repeat (first | apply zb | apply zc | apply zd)); exact Kd.V_mono HO_225000.out (fun _ hk => ⟨⟨hk.1, ⟨hk.2.2.1, ⟨hk.2.2.2.1, hk.2.2.2.2⟩⟩⟩, hk.2.1⟩)) hg hat)
            have n3_ := zX (blk_grown (g := gb222) (o := .cells #[.slice A0_0 l0_0.length c0_0, .slice (some ad225) l0_1.length c0_1] 39 (0, 0)) (by (with_reducible repeat (first | refine zL ?_ _ | refine zM ?_ | refine zJ ?_ _)); exact BK222.out) hg (Kd.N_ne HO_225001.out BK222.out (by decide)))
            have n4_ := zX (blk_grown (g := gb223) (o := .cells #[.slice none 0 0, .slice none 0 0] 27 (0, 0)) (by (with_reducible repeat (first | refine zL ?_ _ | refine zM ?_ | refine zJ ?_ _)); exact BK223.out) hg (Kd.N_ne HO_225001.out BK223.out (by decide)))
            have n5_ := zX (blk_grown (g := gb224) (o := .cells #[.slice A0_0 l0_0.length c0_0, u225001] 27 (0, 0)) (by (with_reducible repeat (first | refine zL ?_ _ | refine zM ?_ | refine zJ ?_ _)); exact BK224.out) hg (Kd.N_ne HO_225001.out BK224.out (by decide)))
            have n6_ := zX (Kd.V_afterv (ok := (fun k_ => ((P0_0_ k_ ∨ P0_1_ k_) ∨ w.heap.size ≤ k_) ∧ k_ ≠ gb222 ∧ k_ ≠ gb223 ∧ k_ ≠ gb224)) (by (with_reducible repeat (first | apply zb | apply zc | apply zd)); exact Kd.V_mono HL225_1.out (fun _ hk => ⟨⟨hk.1, ⟨hk.2.2.1, ⟨hk.2.2.2.1, hk.2.2.2.2⟩⟩⟩, hk.2.1⟩)) hg hat)
            have n7_ := zX (Kd.V_afterv (ok := (fun k_ => ((P0_0_ k_ ∨ P0_1_ k_) ∨ w.heap.size ≤ k_) ∧ k_ ≠ gb222 ∧ k_ ≠ gb223 ∧ k_ ≠ gb224)) (by (with_reducible repeat (first | apply zb | apply zc | apply zd)); exact Kd.V_mono HL226_1.out (fun _ hk => ⟨⟨hk.1, ⟨hk.2.2.1, ⟨hk.2.2.2.1, hk.2.2.2.2⟩⟩⟩, hk.2.1⟩)) hg hat)
            have n8_ := zX (hb)
            have n9_ := zX (ho)
            clear HO_223000
            clear HO_223001
            clear HO_225000
            clear BK222
            clear BK223
            clear BK224
            clear HL225_1
            clear HL226_1
            clear HB
            clear HO_225001
            have HO_223000 := n0_
            have HO_223001 := n1_
            have HO_225000 := n2_
            have BK222 := n3_
            have BK223 := n4_
            have BK224 := n5_
            have HL225_1 := n6_
            have HL226_1 := n7_
            have HB := n8_
            have HO229 := n9_
            clear n0_ n1_ n2_ n3_ n4_ n5_ n6_ n7_ n8_ n9_
            clear ho hb hg hat
            obtain ⟨Ao18, co18, eo18⟩ := Kd.N_slice HO229.out
            (first | subst eo18 | (injection eo18 with f1_ f2_ f3_; have f4_ := f1_.symm; have f5_ := f3_.symm; clear f1_ f2_ f3_; subst f4_; subst f5_))
            refine hK.out _ _ ?_
            clear hK K
            refine norm_ (a' := ?_) ?_ ?_
            rotate_left
            · show Act.put _ (some 31) _ = _
              simp only [Act.put, zA, zC, zD, i64_w, i32_w]
              rfl
            refine pure_ (i := 17) (N := some 32) (v := ?_) (a' := ?_) #[true, true, true, true, true, true, true, true, true, true, true, true, true, true, true, true, true, true, false] rfl rfl (any_of HT_.out (by kernel_rfl)) (fun _ _ _ h => h) (Or.inl ⟨by rfl, ?_⟩) ?_ ?_
            rotate_left
            · intro w'
              go_simp
              with_reducible rfl
            rotate_left
            · simp only [Act.put, zA, zC, zD, i64_w, i32_w]
              rfl
            refine last_ (i := 18) (N := none) #[true, true, true, true, true, true, true, true, true, true, true, true, true, true, true, true, true, true, true] rfl rfl (one_of HT_.out (by kernel_rfl)) (by decide) (fun K hK => ?_)
            have hs19 : w17.cell? ⟨gb224, 1, none⟩ = some (u225001) := (zH BK224.out 1).trans rfl
            have hfs19 := zI BK224.out 1
            have hns19_0 := NB222_224.out
            have hns19_1 := NB223_224.out
            have hms19_0 := NB224_222.out
            have hms19_1 := NB224_223.out
            refine skip_ (w1 := ?_) (by rfl) rfl ?_ ?_
            rotate_left
            · go_simp
              rfl
            refine hK.out _ _ ?_
            clear hK K
            refine done_ (done_of HT_.out (by kernel_rfl)) ?_
            try go_wp2
            go_roundg k1
            case measure => have := HK1.out; omega
            case rel => exact ⟨(wrap64 (x4_1 + 1)), (y227), (.slice Ao18 y227.length co18), (by first | rfl | (simp; done) | (simp [*]; done)), H', ⟨by have := HK1.out; omega⟩, ⟨by (with_reducible repeat (first | apply zb | apply zc | apply zd)); exact Kd.V_mono (Kd.V_far (p := ⟨gb224, 1, none⟩) (Kd.V_mono HO_223000.out (fun k_ hk => (⟨hk, hk.1.2.2.2⟩ : _ ∧ k_ ≠ gb224))) (fun _ hk => hk.2) (.slice Ao18 y227.length co18)) (fun _ hk => ⟨hk.1.1.1, ⟨hk.1.2, ⟨hk.1.1.2.1, ⟨hk.1.1.2.2.1, hk.1.1.2.2.2⟩⟩⟩⟩)⟩, ⟨by (with_reducible repeat (first | apply zb | apply zc | apply zd)); exact Kd.V_mono (Kd.V_far (p := ⟨gb224, 1, none⟩) (Kd.V_mono HO_223001.out (fun k_ hk => (⟨hk, hk.1.2.2.2⟩ : _ ∧ k_ ≠ gb224))) (fun _ hk => hk.2) (.slice Ao18 y227.length co18)) (fun _ hk => ⟨hk.1.1.1, ⟨hk.1.2, ⟨hk.1.1.2.1, ⟨hk.1.1.2.2.1, hk.1.1.2.2.2⟩⟩⟩⟩)⟩, ⟨by (with_reducible repeat (first | apply zb | apply zc | apply zd)); exact Kd.V_mono (Kd.V_far (p := ⟨gb224, 1, none⟩) (Kd.V_mono HO_225000.out (fun k_ hk => (⟨hk, hk.1.2.2.2⟩ : _ ∧ k_ ≠ gb224))) (fun _ hk => hk.2) (.slice Ao18 y227.length co18)) (fun _ hk => ⟨hk.1.1.1, ⟨hk.1.2, ⟨hk.1.1.2.1, ⟨hk.1.1.2.2.1, hk.1.1.2.2.2⟩⟩⟩⟩)⟩, ⟨by (with_reducible repeat (first | apply ze | apply zo | apply zp)); exact Kd.N_mono (Kd.N_far (p := ⟨gb224, 1, none⟩) (Kd.N_mono HO229.out (fun k_ hk => (⟨hk, hk.2.2.2⟩ : _ ∧ k_ ≠ gb224))) (fun _ hk => hk.2) (.slice Ao18 y227.length co18)) (fun _ hk => ⟨hk.1.1, ⟨hk.1.2.1, ⟨hk.1.2.2.1, hk.1.2.2.2⟩⟩⟩)⟩, ⟨by (with_reducible repeat (first | refine zL ?_ _ | refine zM ?_ | refine zJ ?_ _)); refine blk_far ?_ NB222_224.out _; (with_reducible repeat (first | refine zL ?_ _ | refine zM ?_ | refine zJ ?_ _)); exact BK222.out⟩, ⟨by (with_reducible repeat (first | refine zL ?_ _ | refine zM ?_ | refine zJ ?_ _)); refine blk_far ?_ NB223_224.out _; (with_reducible repeat (first | refine zL ?_ _ | refine zM ?_ | refine zJ ?_ _)); exact BK223.out⟩, ⟨by (with_reducible repeat (first | refine zL ?_ _ | refine zM ?_ | refine zJ ?_ _)); refine blk_put (cs := #[.slice A0_0 l0_0.length c0_0, u225001]) ?_ 1 _ rfl; (with_reducible repeat (first | refine zL ?_ _ | refine zM ?_ | refine zJ ?_ _)); exact BK224.out⟩, ⟨by repeat (first | (with_reducible first | exact HB.out | apply zF | apply zE | apply zG | refine zK ?_ GE222.out | refine zK ?_ GE223.out | refine zK ?_ GE224.out) | exact HB.out)⟩⟩
          · rw [if_neg c12] at H
            exact absurd H (by simp)
        · rw [if_neg c11] at H
          exact absurd H (by simp)
      · rw [if_neg c10] at H
        have c10b0 : decide (x4_1 < (l0_1.length : Int)) = false := decide_eq_false c10
        clear c10
        simp only [Option.some.injEq, Prod.mk.injEq] at H
        obtain ⟨rfl, rfl⟩ := H
        have hnb20 := NB222_223.out
        have hnc20 := NB223_222.out
        have hnb21 := NB222_224.out
        have hnc21 := NB224_222.out
        have hcz22_0 : wr.cell? ⟨gb222, 0, none⟩ = some (.slice A0_0 l0_0.length c0_0) := (zH BK222.out 0).trans rfl
        have hcz22_1 : wr.cell? ⟨gb222, 1, none⟩ = some (.slice A0_1 l0_1.length c0_1) := (zH BK222.out 1).trans rfl
        have hfz22_0 := zI BK222.out 0
        have hfz22_1 := zI BK222.out 1
        have hnb23 := NB224_223.out
        have hnc23 := NB223_224.out
        have hcz24_0 : wr.cell? ⟨gb224, 0, none⟩ = some (.slice A0_0 l0_0.length c0_0) := (zH BK224.out 0).trans rfl
        have hcz24_1 : wr.cell? ⟨gb224, 1, none⟩ = some (u225001) := (zH BK224.out 1).trans rfl
        have hfz24_0 := zI BK224.out 0
        have hfz24_1 := zI BK224.out 1
        have hcz25_0 : wr.cell? ⟨gb223, 0, none⟩ = some (.slice none 0 0) := (zH BK223.out 0).trans rfl
        have hcz25_1 : wr.cell? ⟨gb223, 1, none⟩ = some (.slice none 0 0) := (zH BK223.out 1).trans rfl
        have hfz25_0 := zI BK223.out 0
        have hfz25_1 := zI BK223.out 1
        obtain ⟨Ao26, co26, eo26⟩ := Kd.N_slice HO_225001.out
        subst eo26
        go_wp2
        refine bodyPost_ret (results_cell_row rfl _ _ gb223 27 #[.slice A0_0 l0_0.length c0_0, .slice Ao26 x225001_1.length co26] (0, 0) _ rfl (by (with_reducible repeat (first | refine zL ?_ _ | refine zM ?_ | refine zJ ?_ _)); refine blk_put (cs := #[.slice A0_0 l0_0.length c0_0, .slice none 0 0]) ?_ 1 _ rfl; (with_reducible repeat (first | refine zL ?_ _ | refine zM ?_ | refine zJ ?_ _)); refine blk_put (cs := #[.slice none 0 0, .slice none 0 0]) ?_ 0 _ rfl; (with_reducible repeat (first | refine zL ?_ _ | refine zM ?_ | refine zJ ?_ _)); exact BK223.out) Tryd.underlying27 rfl (by kernel_rfl)) rfl ?_
        exact ⟨_, _, by first | rfl | (simp [errW_none, errW_some] <;> rfl) | (simp [*, errW_none, errW_some] <;> rfl), by (with_reducible repeat (first | apply zb | apply zc | apply zd)); exact Kd.V_mono (Kd.V_far (p := ⟨gb223, 1, none⟩) (Kd.V_far (p := ⟨gb223, 0, none⟩) (Kd.V_mono HO_225000.out (fun k_ hk => (⟨hk, hk.2.2.2.1⟩ : _ ∧ k_ ≠ gb223))) (fun _ hk => hk.2) (.slice A0_0 l0_0.length c0_0)) (fun _ hk => hk.2) (.slice Ao26 x225001_1.length co26)) (fun _ hk => ⟨hk.1.1, hk.1.2.1⟩), by (with_reducible repeat (first | apply ze | apply zo | apply zp)); exact Kd.N_mono (Kd.N_far (p := ⟨gb223, 1, none⟩) (Kd.N_far (p := ⟨gb223, 0, none⟩) (Kd.N_mono HO_225001.out (fun k_ hk => (⟨hk, hk.2.2.1⟩ : _ ∧ k_ ≠ gb223))) (fun _ hk => hk.2) (.slice A0_0 l0_0.length c0_0)) (fun _ hk => hk.2) (.slice Ao26 x225001_1.length co26)) (fun _ hk => hk.1.1), by repeat (first | (with_reducible first | exact HB.out | apply zF | apply zE | apply zG | refine zK ?_ GE222.out | refine zK ?_ GE223.out | refine zK ?_ GE224.out) | exact HB.out)⟩

end Go.Proofs.YthnococjdeafhaaDoor.PModelKeeps
