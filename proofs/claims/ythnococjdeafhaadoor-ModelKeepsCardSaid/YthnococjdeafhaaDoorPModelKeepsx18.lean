-- printed by a program of the session (wip/hyb/mkprint.py)
import Derived.Test.YthnococjdeafhaaDoorPModelKeepsx0
import Derived.Test.YthnococjdeafhaaDoorPModelKeepsx4
import Derived.Test.YthnococjdeafhaaDoorPModelKeepsx5
import Derived.Test.YthnococjdeafhaaDoorPModelKeepsx11
import Derived.Test.YthnococjdeafhaaDoorPModelKeepsx14
import Derived.Test.YthnococjdeafhaaDoorPModelKeepsx15
import Derived.Test.YthnococjdeafhaaDoorPModelKeepsx16
import Derived.Test.YthnococjdeafhaaDoorPModelKeepsx17
namespace Go.Proofs.YthnococjdeafhaaDoor.PModelKeeps
open Go.RowKit Go.Proofs.YthnococjdeafhaaDoorW.PrintWords Go.Proofs.YthnococjdeafhaaDoorW.PrintLast Go.Proofs.YthnococjdeafhaaDoorW.PrintMore
attribute [local go_sem] max2_int min2_int max_two min_two max_three min_three max_four min_four   -- for this text's walks alone
set_option linter.unusedVariables false
set_option linter.unusedSimpArgs false

/-! ### boscagelaw31_ModelKeeps: function 6 -/
def boscagelaw31_ModelKeeps.j0 : Nat → Int → Bool → List (S65) → List (S61) → Int → ByteArray → ByteArray → ByteArray → Int → List (S65) → List (S72) → Option (Bool)
  | 0, _, _, _, _, _, _, _, _, _, _, _ => none
  | k + 1, x3, x37, x237000, x237001, x238000, x238001, x238002, x238003, x238004, x264000, x264001 => if x37 = true then (some false) else ((boscageref31_At.f k x237000 x237001 x3).bind fun bt271 => ((boscagelaw31_Back.f k x264000 x264001).bind fun bt275 => ((boscageref31_At.f k bt275.1 bt275.2 x3).bind fun bt281 => (if x238000 = 8 then (if x238004 = x3 then (some true) else (if (bt271.2 == bt281.2) = true then ((boscageref31_Same.f k bt271.1 ([] : List (S61)) bt281.1 ([] : List (S61))).bind fun t285 => (some t285)) else (some false))) else (if (bt271.2 == bt281.2) = true then ((boscageref31_Same.f k bt271.1 ([] : List (S61)) bt281.1 ([] : List (S61))).bind fun t286 => (some t286)) else (some false))))))
def boscagelaw31_ModelKeeps.f (k : Nat) (a0_0 : Int) (a0_1 : Int) (a0_2 : Int) (a0_3 : Int) (a0_4 : Int) (l1_0 : List (S65)) (l1_1 : List (S61)) (a2_0 : Int) (a2_1 : ByteArray) (a2_2 : ByteArray) (a2_3 : ByteArray) (a2_4 : Int) (a3 : Int) : Option (Bool) := (boscagelaw31_works.f).bind fun t238 => (if t238 = true then ((boscagelaw31_Few.f k l1_0 l1_1).bind fun bt239 => ((boscagelaw31_short.f a2_0 a2_1 a2_2 a2_3 a2_4).bind fun bt245 => ((boscagelaw31_Give.f k bt239.1 bt239.2).bind fun bt250 => ((model_After.f k a0_0 a0_1 a0_2 a0_3 a0_4 bt250.1 bt250.2 bt245.1 bt245.2.1 bt245.2.2.1 bt245.2.2.2.1 bt245.2.2.2.2).bind fun bt256 => (if bt256.2.2 = true then (boscagelaw31_ModelKeeps.j0 k a3 false bt239.1 bt239.2 bt245.1 bt245.2.1 bt245.2.2.1 bt245.2.2.2.1 bt245.2.2.2.2 bt256.1 bt256.2.1) else ((boscagelaw31_Give.f k bt239.1 bt239.2).bind fun bt264 => ((model_Same.f k bt256.1 bt256.2.1 bt264.1 bt264.2).bind fun t270 => (boscagelaw31_ModelKeeps.j0 k a3 (!t270) bt239.1 bt239.2 bt245.1 bt245.2.1 bt245.2.2.1 bt245.2.2.2.1 bt245.2.2.2.2 bt256.1 bt256.2.1)))))))) else (some false))
def boscagelaw31_ModelKeeps.T4 : Bool × List (List Nat × List Nat) := (true, [([], []), ([], []), ([1], [1]), ([], []), ([0, 2, 3, 2], [0, 2, 3]), ([4], [4]), ([5], [5]), ([5], [5]), ([], []), ([8, 6, 4, 0, 1, 2, 3, 4, 5, 6, 8], [6, 8]), ([7, 9, 0, 1, 2, 3, 4, 5, 6, 7, 8, 9], [7])])
def boscagelaw31_ModelKeeps.B4 : List Nat := [0, 0, 2, 0, 15, 31, 63, 63, 0, 383, 1023]
theorem boscagelaw31_ModelKeeps.tab4 : rtab .any (opsOf Tryd.f6 4) = boscagelaw31_ModelKeeps.T4 := by kernel_rfl
theorem boscagelaw31_ModelKeeps.bits4 : waitsOk boscagelaw31_ModelKeeps.T4.2 boscagelaw31_ModelKeeps.B4 = true := by kernel_rfl
def boscagelaw31_ModelKeeps.T5 : Bool × List (List Nat × List Nat) := (true, [([], []), ([0], [0]), ([1], [1]), ([2], [2]), ([2], [2]), ([4, 2, 2], [2, 4]), ([3, 5, 5, 2], [2, 3, 5]), ([6, 2], [2, 6]), ([2, 7], [2, 7])])
def boscagelaw31_ModelKeeps.B5 : List Nat := [0, 1, 3, 7, 7, 23, 63, 127, 255]
theorem boscagelaw31_ModelKeeps.tab5 : rtab .any (opsOf Tryd.f6 5) = boscagelaw31_ModelKeeps.T5 := by kernel_rfl
theorem boscagelaw31_ModelKeeps.bits5 : waitsOk boscagelaw31_ModelKeeps.T5.2 boscagelaw31_ModelKeeps.B5 = true := by kernel_rfl
set_option maxHeartbeats 8000000 in
set_option maxRecDepth 100000 in
theorem boscagelaw31_ModelKeeps.calls (k : Nat) (a0_0 : Int) (a0_1 : Int) (a0_2 : Int) (a0_3 : Int) (a0_4 : Int) (A1_0 : Option Addr) (c1_0 : Nat) (l1_0 : List (S65)) (A1_1 : Option Addr) (c1_1 : Nat) (l1_1 : List (S61)) (a2_0 : Int) (a2_1 : ByteArray) (a2_2 : ByteArray) (a2_3 : ByteArray) (a2_4 : Int) (a3 : Int) (r : Bool) (w : World) (hr1_0 : Kd.C k65 w A1_0 l1_0.length l1_0) (hc1_0 : l1_0.length ≤ c1_0) (hr1_1 : Kd.C k61 w A1_1 l1_1.length l1_1) (hc1_1 : l1_1.length ≤ c1_1) (hL : LaidU w) (h : boscagelaw31_ModelKeeps.f k a0_0 a0_1 a0_2 a0_3 a0_4 l1_0 l1_1 a2_0 a2_1 a2_2 a2_3 a2_4 a3 = some r) :
    Calls Tryd.prog 6 #[.agg #[.int .i64 a0_0, .int .i64 a0_1, .int .i64 a0_2, .int .i64 a0_3, .int .i64 a0_4], .agg #[.slice A1_0 l1_0.length c1_0, .slice A1_1 l1_1.length c1_1], .agg #[.int .i64 a2_0, .string a2_1, .string a2_2, .string a2_3, .int .i64 a2_4], .int .i64 a3] w fun e w' => e = .returned (.bool r) ∧ Below w.heap.size w w' := by
  have HLAID := zX hL
  clear hL
  have hu23 := Tryd.underlying23
  have hu27 := Tryd.underlying27
  have hu29 := Tryd.underlying29
  have hu39 := Tryd.underlying39
  have HR1_0 := zX hr1_0
  have HC1_0 := zX hc1_0
  clear hr1_0 hc1_0
  have HR1_1 := zX hr1_1
  have HC1_1 := zX hc1_1
  clear hr1_1 hc1_1
  have HB := zX (zi w.heap.size w)
  have H : ((boscagelaw31_works.f).bind fun t238 => (if t238 = true then ((boscagelaw31_Few.f k l1_0 l1_1).bind fun bt239 => ((boscagelaw31_short.f a2_0 a2_1 a2_2 a2_3 a2_4).bind fun bt245 => ((boscagelaw31_Give.f k bt239.1 bt239.2).bind fun bt250 => ((model_After.f k a0_0 a0_1 a0_2 a0_3 a0_4 bt250.1 bt250.2 bt245.1 bt245.2.1 bt245.2.2.1 bt245.2.2.2.1 bt245.2.2.2.2).bind fun bt256 => (if bt256.2.2 = true then (boscagelaw31_ModelKeeps.j0 k a3 false bt239.1 bt239.2 bt245.1 bt245.2.1 bt245.2.2.1 bt245.2.2.2.1 bt245.2.2.2.2 bt256.1 bt256.2.1) else ((boscagelaw31_Give.f k bt239.1 bt239.2).bind fun bt264 => ((model_Same.f k bt256.1 bt256.2.1 bt264.1 bt264.2).bind fun t270 => (boscagelaw31_ModelKeeps.j0 k a3 (!t270) bt239.1 bt239.2 bt245.1 bt245.2.1 bt245.2.2.1 bt245.2.2.2.1 bt245.2.2.2.2 bt256.1 bt256.2.1)))))))) else (some false))) = some r := h
  clear h
  replace H := Option.bind_eq_some_iff.mp H
  obtain ⟨t238, A50, H⟩ := H
  replace H : (if t238 = true then ((boscagelaw31_Few.f k l1_0 l1_1).bind fun bt239 => ((boscagelaw31_short.f a2_0 a2_1 a2_2 a2_3 a2_4).bind fun bt245 => ((boscagelaw31_Give.f k bt239.1 bt239.2).bind fun bt250 => ((model_After.f k a0_0 a0_1 a0_2 a0_3 a0_4 bt250.1 bt250.2 bt245.1 bt245.2.1 bt245.2.2.1 bt245.2.2.2.1 bt245.2.2.2.2).bind fun bt256 => (if bt256.2.2 = true then (boscagelaw31_ModelKeeps.j0 k a3 false bt239.1 bt239.2 bt245.1 bt245.2.1 bt245.2.2.1 bt245.2.2.2.1 bt245.2.2.2.2 bt256.1 bt256.2.1) else ((boscagelaw31_Give.f k bt239.1 bt239.2).bind fun bt264 => ((model_Same.f k bt256.1 bt256.2.1 bt264.1 bt264.2).bind fun t270 => (boscagelaw31_ModelKeeps.j0 k a3 (!t270) bt239.1 bt239.2 bt245.1 bt245.2.1 bt245.2.2.1 bt245.2.2.2.1 bt245.2.2.2.2 bt256.1 bt256.2.1)))))))) else (some false)) = some r := H
  have A5 := zX A50
  clear A50
  by_cases c6 : t238 = true
  · subst c6
    have H1 : ((boscagelaw31_Few.f k l1_0 l1_1).bind fun bt239 => ((boscagelaw31_short.f a2_0 a2_1 a2_2 a2_3 a2_4).bind fun bt245 => ((boscagelaw31_Give.f k bt239.1 bt239.2).bind fun bt250 => ((model_After.f k a0_0 a0_1 a0_2 a0_3 a0_4 bt250.1 bt250.2 bt245.1 bt245.2.1 bt245.2.2.1 bt245.2.2.2.1 bt245.2.2.2.2).bind fun bt256 => (if bt256.2.2 = true then (boscagelaw31_ModelKeeps.j0 k a3 false bt239.1 bt239.2 bt245.1 bt245.2.1 bt245.2.2.1 bt245.2.2.2.1 bt245.2.2.2.2 bt256.1 bt256.2.1) else ((boscagelaw31_Give.f k bt239.1 bt239.2).bind fun bt264 => ((model_Same.f k bt256.1 bt256.2.1 bt264.1 bt264.2).bind fun t270 => (boscagelaw31_ModelKeeps.j0 k a3 (!t270) bt239.1 bt239.2 bt245.1 bt245.2.1 bt245.2.2.1 bt245.2.2.2.1 bt245.2.2.2.2 bt256.1 bt256.2.1)))))))) = some r := by rw [if_pos rfl] at H; exact H
    clear H
    have H := H1
    clear H1
    replace H := Option.bind_eq_some_iff.mp H
    obtain ⟨⟨t239, t242⟩, A70, H⟩ := H
    replace H : ((boscagelaw31_short.f a2_0 a2_1 a2_2 a2_3 a2_4).bind fun bt245 => ((boscagelaw31_Give.f k t239 t242).bind fun bt250 => ((model_After.f k a0_0 a0_1 a0_2 a0_3 a0_4 bt250.1 bt250.2 bt245.1 bt245.2.1 bt245.2.2.1 bt245.2.2.2.1 bt245.2.2.2.2).bind fun bt256 => (if bt256.2.2 = true then (boscagelaw31_ModelKeeps.j0 k a3 false t239 t242 bt245.1 bt245.2.1 bt245.2.2.1 bt245.2.2.2.1 bt245.2.2.2.2 bt256.1 bt256.2.1) else ((boscagelaw31_Give.f k t239 t242).bind fun bt264 => ((model_Same.f k bt256.1 bt256.2.1 bt264.1 bt264.2).bind fun t270 => (boscagelaw31_ModelKeeps.j0 k a3 (!t270) t239 t242 bt245.1 bt245.2.1 bt245.2.2.1 bt245.2.2.2.1 bt245.2.2.2.2 bt256.1 bt256.2.1))))))) = some r := H
    have A7 := zX A70
    clear A70
    replace H := Option.bind_eq_some_iff.mp H
    obtain ⟨⟨t245, t246, t247, t248, t249⟩, A80, H⟩ := H
    replace H : ((boscagelaw31_Give.f k t239 t242).bind fun bt250 => ((model_After.f k a0_0 a0_1 a0_2 a0_3 a0_4 bt250.1 bt250.2 t245 t246 t247 t248 t249).bind fun bt256 => (if bt256.2.2 = true then (boscagelaw31_ModelKeeps.j0 k a3 false t239 t242 t245 t246 t247 t248 t249 bt256.1 bt256.2.1) else ((boscagelaw31_Give.f k t239 t242).bind fun bt264 => ((model_Same.f k bt256.1 bt256.2.1 bt264.1 bt264.2).bind fun t270 => (boscagelaw31_ModelKeeps.j0 k a3 (!t270) t239 t242 t245 t246 t247 t248 t249 bt256.1 bt256.2.1)))))) = some r := H
    have A8 := zX A80
    clear A80
    replace H := Option.bind_eq_some_iff.mp H
    obtain ⟨⟨t250, t253⟩, A90, H⟩ := H
    replace H : ((model_After.f k a0_0 a0_1 a0_2 a0_3 a0_4 t250 t253 t245 t246 t247 t248 t249).bind fun bt256 => (if bt256.2.2 = true then (boscagelaw31_ModelKeeps.j0 k a3 false t239 t242 t245 t246 t247 t248 t249 bt256.1 bt256.2.1) else ((boscagelaw31_Give.f k t239 t242).bind fun bt264 => ((model_Same.f k bt256.1 bt256.2.1 bt264.1 bt264.2).bind fun t270 => (boscagelaw31_ModelKeeps.j0 k a3 (!t270) t239 t242 t245 t246 t247 t248 t249 bt256.1 bt256.2.1))))) = some r := H
    have A9 := zX A90
    clear A90
    replace H := Option.bind_eq_some_iff.mp H
    obtain ⟨⟨t256, t259, t262⟩, A100, H⟩ := H
    replace H : (if t262 = true then (boscagelaw31_ModelKeeps.j0 k a3 false t239 t242 t245 t246 t247 t248 t249 t256 t259) else ((boscagelaw31_Give.f k t239 t242).bind fun bt264 => ((model_Same.f k t256 t259 bt264.1 bt264.2).bind fun t270 => (boscagelaw31_ModelKeeps.j0 k a3 (!t270) t239 t242 t245 t246 t247 t248 t249 t256 t259)))) = some r := H
    have A10 := zX A100
    clear A100
    have HC11 := zX H
    clear H
    go_enter Tryd.func6, Tryd.ntmps6
    try go_wp2_with (first | ((with_reducible refine gate_dst (N := 4) rfl ?_); refine box_event ?hg (N := 4) ?hd (cs := #[.int .i64 a0_0, .int .i64 a0_1, .int .i64 a0_2, .int .i64 a0_3, .int .i64 a0_4]) (t := 23) ?hr ?_; (case hd => rfl); (case hg => rfl); (case hr => first | (go_simp; done) | (go_simp; rfl)); intro gb235 hg w12 hbox hb; have n0_ := zX (zT (by repeat (first | (with_reducible first | exact HB.out | apply zF | apply zE | apply zG) | exact HB.out)) hb); have n1_ := zX (hbox); have n2_ := zX ((by rw [hg]; exact (zY (by repeat (first | (with_reducible first | exact HB.out | apply zF | apply zE | apply zG) | exact HB.out))) : w.heap.size ≤ gb235)); have n3_ := zX ((by rw [hg]; exact (zY (by repeat (first | (with_reducible first | exact HB.out | apply zF | apply zE | apply zG) | exact HB.out))) : w.heap.size ≤ gb235)); clear HB; have HB := n0_; have BK235 := n1_; have GW235 := n2_; have GE235 := n3_; clear n0_ n1_ n2_ n3_; clear hb hbox hg) | ((with_reducible refine gate_dst (N := 5) rfl ?_); refine box_event ?hg (N := 5) ?hd (cs := #[.slice A1_0 l1_0.length c1_0, .slice A1_1 l1_1.length c1_1]) (t := 27) ?hr ?_; (case hd => rfl); (case hg => rfl); (case hr => first | (go_simp; done) | (go_simp; rfl)); intro gb236 hg w13 hbox hb; have n0_ := zX (zm (g := gb235) (o := .cells #[.int .i64 a0_0, .int .i64 a0_1, .int .i64 a0_2, .int .i64 a0_3, .int .i64 a0_4] 23 (0, 0)) (by (with_reducible repeat (first | refine zL ?_ _ | refine zM ?_ | refine zJ ?_ _)); exact BK235.out) hb); have n1_ := zX (zT (by repeat (first | (with_reducible first | exact HB.out | apply zF | apply zE | apply zG | refine zK ?_ GE235.out) | exact HB.out)) hb); have n2_ := zX (hbox); have n3_ := zX ((by rw [hg]; exact (zY (by repeat (first | (with_reducible first | exact HB.out | apply zF | apply zE | apply zG | refine zK ?_ GE235.out) | exact HB.out))) : w.heap.size ≤ gb236)); have n4_ := zX ((by rw [hg]; exact (zY (by repeat (first | (with_reducible first | exact HB.out | apply zF | apply zE | apply zG | refine zK ?_ GE235.out) | exact HB.out))) : w.heap.size ≤ gb236)); have n5_ := zX ((by rw [hg]; exact Nat.ne_of_lt (blk_lt (g := gb235) (o := .cells #[.int .i64 a0_0, .int .i64 a0_1, .int .i64 a0_2, .int .i64 a0_3, .int .i64 a0_4] 23 (0, 0)) (by (with_reducible repeat (first | refine zL ?_ _ | refine zM ?_ | refine zJ ?_ _)); exact BK235.out)) : gb235 ≠ gb236)); have n6_ := zX ((by rw [hg]; exact Nat.ne_of_gt (blk_lt (g := gb235) (o := .cells #[.int .i64 a0_0, .int .i64 a0_1, .int .i64 a0_2, .int .i64 a0_3, .int .i64 a0_4] 23 (0, 0)) (by (with_reducible repeat (first | refine zL ?_ _ | refine zM ?_ | refine zJ ?_ _)); exact BK235.out)) : gb236 ≠ gb235)); clear BK235; clear HB; have BK235 := n0_; have HB := n1_; have BK236 := n2_; have GW236 := n3_; have GE236 := n4_; have NB235_236 := n5_; have NB236_235 := n6_; clear n0_ n1_ n2_ n3_ n4_ n5_ n6_; clear hb hbox hg) | ((with_reducible refine gate_dst (N := 6) rfl ?_); refine box_event ?hg (N := 6) ?hd (cs := #[.int .i64 a2_0, .string a2_1, .string a2_2, .string a2_3, .int .i64 a2_4]) (t := 29) ?hr ?_; (case hd => rfl); (case hg => rfl); (case hr => first | (go_simp; done) | (go_simp; rfl)); intro gb237 hg w14 hbox hb; have n0_ := zX (zm (g := gb235) (o := .cells #[.int .i64 a0_0, .int .i64 a0_1, .int .i64 a0_2, .int .i64 a0_3, .int .i64 a0_4] 23 (0, 0)) (by (with_reducible repeat (first | refine zL ?_ _ | refine zM ?_ | refine zJ ?_ _)); exact BK235.out) hb); have n1_ := zX (zm (g := gb236) (o := .cells #[.slice A1_0 l1_0.length c1_0, .slice A1_1 l1_1.length c1_1] 27 (0, 0)) (by (with_reducible repeat (first | refine zL ?_ _ | refine zM ?_ | refine zJ ?_ _)); exact BK236.out) hb); have n2_ := zX (zT (by repeat (first | (with_reducible first | exact HB.out | apply zF | apply zE | apply zG | refine zK ?_ GE235.out | refine zK ?_ GE236.out) | exact HB.out)) hb); have n3_ := zX (hbox); have n4_ := zX ((by rw [hg]; exact (zY (by repeat (first | (with_reducible first | exact HB.out | apply zF | apply zE | apply zG | refine zK ?_ GE235.out | refine zK ?_ GE236.out) | exact HB.out))) : w.heap.size ≤ gb237)); have n5_ := zX ((by rw [hg]; exact (zY (by repeat (first | (with_reducible first | exact HB.out | apply zF | apply zE | apply zG | refine zK ?_ GE235.out | refine zK ?_ GE236.out) | exact HB.out))) : w.heap.size ≤ gb237)); have n6_ := zX ((by rw [hg]; exact Nat.ne_of_lt (blk_lt (g := gb235) (o := .cells #[.int .i64 a0_0, .int .i64 a0_1, .int .i64 a0_2, .int .i64 a0_3, .int .i64 a0_4] 23 (0, 0)) (by (with_reducible repeat (first | refine zL ?_ _ | refine zM ?_ | refine zJ ?_ _)); exact BK235.out)) : gb235 ≠ gb237)); have n7_ := zX ((by rw [hg]; exact Nat.ne_of_gt (blk_lt (g := gb235) (o := .cells #[.int .i64 a0_0, .int .i64 a0_1, .int .i64 a0_2, .int .i64 a0_3, .int .i64 a0_4] 23 (0, 0)) (by (with_reducible repeat (first | refine zL ?_ _ | refine zM ?_ | refine zJ ?_ _)); exact BK235.out)) : gb237 ≠ gb235)); have n8_ := zX ((by rw [hg]; exact Nat.ne_of_lt (blk_lt (g := gb236) (o := .cells #[.slice A1_0 l1_0.length c1_0, .slice A1_1 l1_1.length c1_1] 27 (0, 0)) (by (with_reducible repeat (first | refine zL ?_ _ | refine zM ?_ | refine zJ ?_ _)); exact BK236.out)) : gb236 ≠ gb237)); have n9_ := zX ((by rw [hg]; exact Nat.ne_of_gt (blk_lt (g := gb236) (o := .cells #[.slice A1_0 l1_0.length c1_0, .slice A1_1 l1_1.length c1_1] 27 (0, 0)) (by (with_reducible repeat (first | refine zL ?_ _ | refine zM ?_ | refine zJ ?_ _)); exact BK236.out)) : gb237 ≠ gb236)); clear BK235; clear BK236; clear HB; have BK235 := n0_; have BK236 := n1_; have HB := n2_; have BK237 := n3_; have GW237 := n4_; have GE237 := n5_; have NB235_237 := n6_; have NB237_235 := n7_; have NB236_237 := n8_; have NB237_236 := n9_; clear n0_ n1_ n2_ n3_ n4_ n5_ n6_ n7_ n8_ n9_; clear hb hbox hg) | ((with_reducible refine gate_callee (f := 18) rfl ?_); refine goesL_ (some 15) rfl rfl Tryd.func18 (by kernel_rfl) rfl #[] rfl (by (try simp only [zS, zU, zV]); first | done | rfl | (simp only [zO, zN]; rfl)) ?_; (with_reducible refine (boscagelaw31_works.calls  true _ ?side1 A5.out).mono ?_); (case side1 => exact laidU_below HLAID.out (by repeat (first | (with_reducible first | exact HB.out | apply zF | apply zE | apply zG | refine zK ?_ GE235.out | refine zK ?_ GE236.out | refine zK ?_ GE237.out) | exact HB.out))); rintro e w15 ⟨rfl, hb⟩; refine ⟨_, rfl, ?_⟩; have n0_ := zX (zm (g := gb235) (o := .cells #[.int .i64 a0_0, .int .i64 a0_1, .int .i64 a0_2, .int .i64 a0_3, .int .i64 a0_4] 23 (0, 0)) (by (with_reducible repeat (first | refine zL ?_ _ | refine zM ?_ | refine zJ ?_ _)); exact BK235.out) hb); have n1_ := zX (zm (g := gb236) (o := .cells #[.slice A1_0 l1_0.length c1_0, .slice A1_1 l1_1.length c1_1] 27 (0, 0)) (by (with_reducible repeat (first | refine zL ?_ _ | refine zM ?_ | refine zJ ?_ _)); exact BK236.out) hb); have n2_ := zX (zm (g := gb237) (o := .cells #[.int .i64 a2_0, .string a2_1, .string a2_2, .string a2_3, .int .i64 a2_4] 29 (0, 0)) (by (with_reducible repeat (first | refine zL ?_ _ | refine zM ?_ | refine zJ ?_ _)); exact BK237.out) hb); have n3_ := zX (zT (by repeat (first | (with_reducible first | exact HB.out | apply zF | apply zE | apply zG | refine zK ?_ GE235.out | refine zK ?_ GE236.out | refine zK ?_ GE237.out) | exact HB.out)) hb); clear BK235; clear BK236; clear BK237; clear HB; have BK235 := n0_; have BK236 := n1_; have BK237 := n2_; have HB := n3_; clear n0_ n1_ n2_ n3_; (try clear hb); (try clear hb2); (try clear hk); (try clear hi)))
    have n0_ := zX (zM BK235.out)
    have n1_ := zX (zM BK236.out)
    have n2_ := zX (zM BK237.out)
    have n3_ := zX (zG HB.out)
    clear BK235
    clear BK236
    clear BK237
    clear HB
    have BK235 := n0_
    have BK236 := n1_
    have BK237 := n2_
    have HB := n3_
    clear n0_ n1_ n2_ n3_
    refine start_ (n := 6) (S := fun w' => w'.cell? ⟨gb236, 0, none⟩ = some (.slice A1_0 l1_0.length c1_0) ∧ w'.cell? ⟨gb236, 1, none⟩ = some (.slice A1_1 l1_1.length c1_1) ∧ w'.cell? ⟨gb237, 0, none⟩ = some (.int .i64 a2_0) ∧ w'.cell? ⟨gb237, 1, none⟩ = some (.string a2_1) ∧ w'.cell? ⟨gb237, 2, none⟩ = some (.string a2_2) ∧ w'.cell? ⟨gb237, 3, none⟩ = some (.string a2_3) ∧ w'.cell? ⟨gb237, 4, none⟩ = some (.int .i64 a2_4)) (ds := [4, 5]) #[false, false, false, false, false, false] (by kernel_rfl) rfl rfl ⟨(zH BK236.out 0).trans rfl, (zH BK236.out 1).trans rfl, (zH BK237.out 0).trans rfl, (zH BK237.out 1).trans rfl, (zH BK237.out 2).trans rfl, (zH BK237.out 3).trans rfl, (zH BK237.out 4).trans rfl⟩ (fun hHeld => ?_)
    generalize w15.drew = w16 at BK235 BK236 BK237 HB hHeld ⊢
    refine take_ (i := 0) (N := some 17) (v := ?_) (a' := ?_) #[true, false, false, false, false, false] rfl rfl (by kernel_rfl) (fun _ _ _ h => h) (Or.inl ⟨by rfl, ?_⟩) hHeld ?_ ?_
    rotate_left
    · rintro w' ⟨s0, s1, s2, s3, s4, s5, s6⟩
      go_simp
      with_reducible rfl
    rotate_left
    · simp only [Act.put, zA, zC, zD, i64_w, i32_w]
      rfl
    refine take_ (i := 2) (N := some 19) (v := ?_) (a' := ?_) #[true, false, true, false, false, false] rfl rfl (by kernel_rfl) (fun _ _ _ h => h) (Or.inl ⟨by rfl, ?_⟩) hHeld ?_ ?_
    rotate_left
    · rintro w' ⟨s0, s1, s2, s3, s4, s5, s6⟩
      go_simp
      with_reducible rfl
    rotate_left
    · simp only [Act.put, zA, zC, zD, i64_w, i32_w]
      rfl
    refine one_ (i := 1) (N := some 18) #[true, true, true, false, false, false] rfl rfl (by kernel_rfl) (by decide) (fun K hK => ?_)
    refine goes_ Tryd.func7 (by kernel_rfl) rfl #[.agg #[.slice A1_0 l1_0.length c1_0, .slice A1_1 l1_1.length c1_1]] (by rfl) rfl rfl (by (try simp only [zS, zU, zV]); first | done | rfl | (simp only [zO, zN]; rfl)) ?_
    with_reducible refine (boscagelaw31_Few.calls k _ _ l1_0 _ _ l1_1 t239 t242 _ ?side1 ?side2 ?side3 ?side4 A7.out).mono ?_
    (case side1 => repeat (first | exact (zZ HR1_0.out HB.out) | (with_reducible refine Kd.C_alloc ?_ _) | (with_reducible refine Kd.C_drewN ?_ _) | (with_reducible refine Kd.C_drew ?_)))
    (case side2 => exact HC1_0.out)
    (case side3 => repeat (first | exact (zZ HR1_1.out HB.out) | (with_reducible refine Kd.C_alloc ?_ _) | (with_reducible refine Kd.C_drewN ?_ _) | (with_reducible refine Kd.C_drew ?_)))
    (case side4 => exact HC1_1.out)
    rintro e w17 ⟨v240, v243, rfl, ho0, ho1, hb⟩
    refine ⟨_, rfl, ?_⟩
    have n0_ := zX (Kd.R_lower ho0 (zY (by repeat (first | (with_reducible first | exact HB.out | apply zF | apply zE | apply zG | refine zK ?_ GE235.out | refine zK ?_ GE236.out | refine zK ?_ GE237.out) | exact HB.out))))
    have n1_ := zX (Kd.N_lower (Kd.N_mono (ok' := fun k_ => some k_ ≠ (v240 : Value).ownBlock ∧ k_ ≠ gb235 ∧ k_ ≠ gb236 ∧ k_ ≠ gb237) (Kd.S_N (Kd.S_bound ho1)) (fun k_ hk_ => ⟨hk_.1, (zl (g := gb235) (o := .cells #[.int .i64 a0_0, .int .i64 a0_1, .int .i64 a0_2, .int .i64 a0_3, .int .i64 a0_4] 23 (0, 0)) (by (with_reducible repeat (first | refine zL ?_ _ | refine zM ?_ | refine zJ ?_ _)); exact BK235.out) k_ hk_.2.1), (zl (g := gb236) (o := .cells #[.slice A1_0 l1_0.length c1_0, .slice A1_1 l1_1.length c1_1] 27 (0, 0)) (by (with_reducible repeat (first | refine zL ?_ _ | refine zM ?_ | refine zJ ?_ _)); exact BK236.out) k_ hk_.2.1), (zl (g := gb237) (o := .cells #[.int .i64 a2_0, .string a2_1, .string a2_2, .string a2_3, .int .i64 a2_4] 29 (0, 0)) (by (with_reducible repeat (first | refine zL ?_ _ | refine zM ?_ | refine zJ ?_ _)); exact BK237.out) k_ hk_.2.1)⟩)) (zY (by repeat (first | (with_reducible first | exact HB.out | apply zF | apply zE | apply zG | refine zK ?_ GE235.out | refine zK ?_ GE236.out | refine zK ?_ GE237.out) | exact HB.out))))
    have n2_ := zX (zm (g := gb235) (o := .cells #[.int .i64 a0_0, .int .i64 a0_1, .int .i64 a0_2, .int .i64 a0_3, .int .i64 a0_4] 23 (0, 0)) (by (with_reducible repeat (first | refine zL ?_ _ | refine zM ?_ | refine zJ ?_ _)); exact BK235.out) hb)
    have n3_ := zX (zm (g := gb236) (o := .cells #[.slice A1_0 l1_0.length c1_0, .slice A1_1 l1_1.length c1_1] 27 (0, 0)) (by (with_reducible repeat (first | refine zL ?_ _ | refine zM ?_ | refine zJ ?_ _)); exact BK236.out) hb)
    have n4_ := zX (zm (g := gb237) (o := .cells #[.int .i64 a2_0, .string a2_1, .string a2_2, .string a2_3, .int .i64 a2_4] 29 (0, 0)) (by (with_reducible repeat (first | refine zL ?_ _ | refine zM ?_ | refine zJ ?_ _)); exact BK237.out) hb)
    have n5_ := zX (zT (by repeat (first | (with_reducible first | exact HB.out | apply zF | apply zE | apply zG | refine zK ?_ GE235.out | refine zK ?_ GE236.out | refine zK ?_ GE237.out) | exact HB.out)) hb)
    clear BK235
    clear BK236
    clear BK237
    clear HB
    have HO241 := n0_
    have HO244 := n1_
    have BK235 := n2_
    have BK236 := n3_
    have BK237 := n4_
    have HB := n5_
    clear n0_ n1_ n2_ n3_ n4_ n5_
    (try clear hb)
    (try clear hb2)
    (try clear hk)
    (try clear hi)
    (try clear ho0)
    (try clear ho1)
    refine hK.out _ _ ⟨(zH BK236.out 0).trans rfl, (zH BK236.out 1).trans rfl, (zH BK237.out 0).trans rfl, (zH BK237.out 1).trans rfl, (zH BK237.out 2).trans rfl, (zH BK237.out 3).trans rfl, (zH BK237.out 4).trans rfl⟩ (fun hHeld => ?_)
    clear hK K
    refine norm_ (a' := ?_) ?_ ?_
    rotate_left
    · show Act.put _ (some 18) _ = _
      simp only [Act.put, zA, zC, zD, i64_w, i32_w]
      rfl
    refine one_ (i := 3) (N := some 20) #[true, true, true, true, false, false] rfl rfl (by kernel_rfl) (by decide) (fun K hK => ?_)
    refine goes_ Tryd.func8 (by kernel_rfl) rfl #[.agg #[.int .i64 a2_0, .string a2_1, .string a2_2, .string a2_3, .int .i64 a2_4]] (by rfl) rfl rfl (by (try simp only [zS, zU, zV]); first | done | rfl | (simp only [zO, zN]; rfl)) ?_
    with_reducible refine (boscagelaw31_short.calls a2_0 a2_1 a2_2 a2_3 a2_4 t245 t246 t247 t248 t249 _ A8.out).mono ?_
    rintro e w18 ⟨rfl, hb⟩
    refine ⟨_, rfl, ?_⟩
    have n0_ := zX (Kd.R_below (by (with_reducible repeat (first | apply za | apply zg | apply zh)); exact HO241.out) hb)
    have n1_ := zX (Kd.N_below (by (with_reducible repeat (first | apply ze | apply zo | apply zp)); exact HO244.out) hb)
    have n2_ := zX (zm (g := gb235) (o := .cells #[.int .i64 a0_0, .int .i64 a0_1, .int .i64 a0_2, .int .i64 a0_3, .int .i64 a0_4] 23 (0, 0)) (by (with_reducible repeat (first | refine zL ?_ _ | refine zM ?_ | refine zJ ?_ _)); exact BK235.out) hb)
    have n3_ := zX (zm (g := gb236) (o := .cells #[.slice A1_0 l1_0.length c1_0, .slice A1_1 l1_1.length c1_1] 27 (0, 0)) (by (with_reducible repeat (first | refine zL ?_ _ | refine zM ?_ | refine zJ ?_ _)); exact BK236.out) hb)
    have n4_ := zX (zm (g := gb237) (o := .cells #[.int .i64 a2_0, .string a2_1, .string a2_2, .string a2_3, .int .i64 a2_4] 29 (0, 0)) (by (with_reducible repeat (first | refine zL ?_ _ | refine zM ?_ | refine zJ ?_ _)); exact BK237.out) hb)
    have n5_ := zX (zT (by repeat (first | (with_reducible first | exact HB.out | apply zF | apply zE | apply zG | refine zK ?_ GE235.out | refine zK ?_ GE236.out | refine zK ?_ GE237.out) | exact HB.out)) hb)
    clear HO241
    clear HO244
    clear BK235
    clear BK236
    clear BK237
    clear HB
    have HO241 := n0_
    have HO244 := n1_
    have BK235 := n2_
    have BK236 := n3_
    have BK237 := n4_
    have HB := n5_
    clear n0_ n1_ n2_ n3_ n4_ n5_
    (try clear hb)
    (try clear hb2)
    (try clear hk)
    (try clear hi)
    obtain ⟨Ao19, co19, eo19⟩ := Kd.R_slice HO241.out
    (first | subst eo19 | (injection eo19 with f1_ f2_ f3_; have f4_ := f1_.symm; have f5_ := f3_.symm; clear f1_ f2_ f3_; subst f4_; subst f5_))
    obtain ⟨Ao21, co21, eo21⟩ := Kd.N_slice HO244.out
    (first | subst eo21 | (injection eo21 with f1_ f2_ f3_; have f4_ := f1_.symm; have f5_ := f3_.symm; clear f1_ f2_ f3_; subst f4_; subst f5_))
    refine hK.out _ _ ⟨(zH BK236.out 0).trans rfl, (zH BK236.out 1).trans rfl, (zH BK237.out 0).trans rfl, (zH BK237.out 1).trans rfl, (zH BK237.out 2).trans rfl, (zH BK237.out 3).trans rfl, (zH BK237.out 4).trans rfl⟩ (fun hHeld => ?_)
    clear hK K
    refine norm_ (a' := ?_) ?_ ?_
    rotate_left
    · show Act.put _ (some 20) _ = _
      simp only [Act.put, zA, zC, zD, i64_w, i32_w]
      rfl
    refine last_ (i := 4) (N := none) #[true, true, true, true, true, false] rfl rfl (by kernel_rfl) (by decide) (fun K hK => ?_)
    have hs20 : w18.cell? ⟨gb236, 0, none⟩ = some (.slice A1_0 l1_0.length c1_0) := (zH BK236.out 0).trans rfl
    have hfs20 := zI BK236.out 0
    have hns20_0 := NB235_236.out
    have hns20_2 := NB237_236.out
    have hms20_0 := NB236_235.out
    have hms20_2 := NB236_237.out
    have hs22 : w18.cell? ⟨gb236, 1, none⟩ = some (.slice A1_1 l1_1.length c1_1) := (zH BK236.out 1).trans rfl
    have hfs22 := zI BK236.out 1
    have hns22_0 := NB235_236.out
    have hns22_2 := NB237_236.out
    have hms22_0 := NB236_235.out
    have hms22_2 := NB236_237.out
    refine skip_ (w1 := ?_) (by rfl) rfl ?_ ?_
    rotate_left
    · go_simp
      rfl
    refine hK.out _ _ ?_
    clear hK K
    refine last_ (i := 5) (N := none) #[true, true, true, true, true, true] rfl rfl (by kernel_rfl) (by decide) (fun K hK => ?_)
    have hs23 : w18.cell? ⟨gb237, 0, none⟩ = some (.int .i64 a2_0) := (zH BK237.out 0).trans rfl
    have hfs23 := zI BK237.out 0
    have hns23_0 := NB235_237.out
    have hns23_1 := NB236_237.out
    have hms23_0 := NB237_235.out
    have hms23_1 := NB237_236.out
    have hs24 : w18.cell? ⟨gb237, 1, none⟩ = some (.string a2_1) := (zH BK237.out 1).trans rfl
    have hfs24 := zI BK237.out 1
    have hns24_0 := NB235_237.out
    have hns24_1 := NB236_237.out
    have hms24_0 := NB237_235.out
    have hms24_1 := NB237_236.out
    have hs25 : w18.cell? ⟨gb237, 2, none⟩ = some (.string a2_2) := (zH BK237.out 2).trans rfl
    have hfs25 := zI BK237.out 2
    have hns25_0 := NB235_237.out
    have hns25_1 := NB236_237.out
    have hms25_0 := NB237_235.out
    have hms25_1 := NB237_236.out
    have hs26 : w18.cell? ⟨gb237, 3, none⟩ = some (.string a2_3) := (zH BK237.out 3).trans rfl
    have hfs26 := zI BK237.out 3
    have hns26_0 := NB235_237.out
    have hns26_1 := NB236_237.out
    have hms26_0 := NB237_235.out
    have hms26_1 := NB237_236.out
    have hs27 : w18.cell? ⟨gb237, 4, none⟩ = some (.int .i64 a2_4) := (zH BK237.out 4).trans rfl
    have hfs27 := zI BK237.out 4
    have hns27_0 := NB235_237.out
    have hns27_1 := NB236_237.out
    have hms27_0 := NB237_235.out
    have hms27_1 := NB237_236.out
    refine skip_ (w1 := ?_) (by rfl) rfl ?_ ?_
    rotate_left
    · go_simp
      rfl
    refine hK.out _ _ ?_
    clear hK K
    refine done_ (by kernel_rfl) ?_
    try go_wp2
    have n0_ : Aside0 (Kd.R k65 65 (((((((w18.setCell ⟨gb236, 0, none⟩ (.slice Ao19 t239.length co19)).setCell ⟨gb236, 1, none⟩ (.slice Ao21 t242.length co21)).setCell ⟨gb237, 0, none⟩ (.int .i64 t245)).setCell ⟨gb237, 1, none⟩ (.string t246)).setCell ⟨gb237, 2, none⟩ (.string t247)).setCell ⟨gb237, 3, none⟩ (.string t248)).setCell ⟨gb237, 4, none⟩ (.int .i64 t249)) w.heap.size (fun _ => True) (.slice Ao19 t239.length co19) t239) := ⟨by (with_reducible repeat (first | apply za | apply zg | apply zh)); exact Kd.R_mono (Kd.R_far (p := ⟨gb237, 4, none⟩) (Kd.R_far (p := ⟨gb237, 3, none⟩) (Kd.R_far (p := ⟨gb237, 2, none⟩) (Kd.R_far (p := ⟨gb237, 1, none⟩) (Kd.R_far (p := ⟨gb237, 0, none⟩) (Kd.R_far (p := ⟨gb236, 1, none⟩) (Kd.R_far (p := ⟨gb236, 0, none⟩) (zk (zk HO241.out BK236.out (by decide)) BK237.out (by decide)) (fun _ hk => hk.1.2) (.slice Ao19 t239.length co19)) (fun _ hk => hk.1.2) (.slice Ao21 t242.length co21)) (fun _ hk => hk.2) (.int .i64 t245)) (fun _ hk => hk.2) (.string t246)) (fun _ hk => hk.2) (.string t247)) (fun _ hk => hk.2) (.string t248)) (fun _ hk => hk.2) (.int .i64 t249)) (fun _ hk => trivial)⟩
    have n1_ : Aside0 (Kd.N k61 61 (((((((w18.setCell ⟨gb236, 0, none⟩ (.slice Ao19 t239.length co19)).setCell ⟨gb236, 1, none⟩ (.slice Ao21 t242.length co21)).setCell ⟨gb237, 0, none⟩ (.int .i64 t245)).setCell ⟨gb237, 1, none⟩ (.string t246)).setCell ⟨gb237, 2, none⟩ (.string t247)).setCell ⟨gb237, 3, none⟩ (.string t248)).setCell ⟨gb237, 4, none⟩ (.int .i64 t249)) w.heap.size (fun k_ => some k_ ≠ (.slice Ao19 t239.length co19 : Value).ownBlock ∧ k_ ≠ gb235 ∧ k_ ≠ gb236 ∧ k_ ≠ gb237) (.slice Ao21 t242.length co21) t242) := ⟨by (with_reducible repeat (first | apply ze | apply zo | apply zp)); exact Kd.N_mono (Kd.N_far (p := ⟨gb237, 4, none⟩) (Kd.N_far (p := ⟨gb237, 3, none⟩) (Kd.N_far (p := ⟨gb237, 2, none⟩) (Kd.N_far (p := ⟨gb237, 1, none⟩) (Kd.N_far (p := ⟨gb237, 0, none⟩) (Kd.N_far (p := ⟨gb236, 1, none⟩) (Kd.N_far (p := ⟨gb236, 0, none⟩) (Kd.N_mono (Kd.N_mono HO244.out (fun k_ hk => (⟨hk, hk.2.2.1⟩ : _ ∧ k_ ≠ gb236))) (fun k_ hk => (⟨hk, hk.1.2.2.2⟩ : _ ∧ k_ ≠ gb237))) (fun _ hk => hk.1.2) (.slice Ao19 t239.length co19)) (fun _ hk => hk.1.2) (.slice Ao21 t242.length co21)) (fun _ hk => hk.2) (.int .i64 t245)) (fun _ hk => hk.2) (.string t246)) (fun _ hk => hk.2) (.string t247)) (fun _ hk => hk.2) (.string t248)) (fun _ hk => hk.2) (.int .i64 t249)) (fun _ hk => ⟨hk.1.1.1, ⟨hk.1.1.2.1, ⟨hk.1.1.2.2.1, hk.1.1.2.2.2⟩⟩⟩)⟩
    have n2_ : Aside0 ((((((((w18.setCell ⟨gb236, 0, none⟩ (.slice Ao19 t239.length co19)).setCell ⟨gb236, 1, none⟩ (.slice Ao21 t242.length co21)).setCell ⟨gb237, 0, none⟩ (.int .i64 t245)).setCell ⟨gb237, 1, none⟩ (.string t246)).setCell ⟨gb237, 2, none⟩ (.string t247)).setCell ⟨gb237, 3, none⟩ (.string t248)).setCell ⟨gb237, 4, none⟩ (.int .i64 t249)).heap[gb235]? = some (.cells #[.int .i64 a0_0, .int .i64 a0_1, .int .i64 a0_2, .int .i64 a0_3, .int .i64 a0_4] 23 (0, 0))) := ⟨by (with_reducible repeat (first | refine zL ?_ _ | refine zM ?_ | refine zJ ?_ _)); refine blk_far ?_ NB235_237.out _; (with_reducible repeat (first | refine zL ?_ _ | refine zM ?_ | refine zJ ?_ _)); refine blk_far ?_ NB235_237.out _; (with_reducible repeat (first | refine zL ?_ _ | refine zM ?_ | refine zJ ?_ _)); refine blk_far ?_ NB235_237.out _; (with_reducible repeat (first | refine zL ?_ _ | refine zM ?_ | refine zJ ?_ _)); refine blk_far ?_ NB235_237.out _; (with_reducible repeat (first | refine zL ?_ _ | refine zM ?_ | refine zJ ?_ _)); refine blk_far ?_ NB235_237.out _; (with_reducible repeat (first | refine zL ?_ _ | refine zM ?_ | refine zJ ?_ _)); refine blk_far ?_ NB235_236.out _; (with_reducible repeat (first | refine zL ?_ _ | refine zM ?_ | refine zJ ?_ _)); refine blk_far ?_ NB235_236.out _; (with_reducible repeat (first | refine zL ?_ _ | refine zM ?_ | refine zJ ?_ _)); exact BK235.out⟩
    have n3_ : Aside0 ((((((((w18.setCell ⟨gb236, 0, none⟩ (.slice Ao19 t239.length co19)).setCell ⟨gb236, 1, none⟩ (.slice Ao21 t242.length co21)).setCell ⟨gb237, 0, none⟩ (.int .i64 t245)).setCell ⟨gb237, 1, none⟩ (.string t246)).setCell ⟨gb237, 2, none⟩ (.string t247)).setCell ⟨gb237, 3, none⟩ (.string t248)).setCell ⟨gb237, 4, none⟩ (.int .i64 t249)).heap[gb236]? = some (.cells #[.slice Ao19 t239.length co19, .slice Ao21 t242.length co21] 27 (0, 0))) := ⟨by (with_reducible repeat (first | refine zL ?_ _ | refine zM ?_ | refine zJ ?_ _)); refine blk_far ?_ NB236_237.out _; (with_reducible repeat (first | refine zL ?_ _ | refine zM ?_ | refine zJ ?_ _)); refine blk_far ?_ NB236_237.out _; (with_reducible repeat (first | refine zL ?_ _ | refine zM ?_ | refine zJ ?_ _)); refine blk_far ?_ NB236_237.out _; (with_reducible repeat (first | refine zL ?_ _ | refine zM ?_ | refine zJ ?_ _)); refine blk_far ?_ NB236_237.out _; (with_reducible repeat (first | refine zL ?_ _ | refine zM ?_ | refine zJ ?_ _)); refine blk_far ?_ NB236_237.out _; (with_reducible repeat (first | refine zL ?_ _ | refine zM ?_ | refine zJ ?_ _)); refine blk_put (cs := #[.slice Ao19 t239.length co19, .slice A1_1 l1_1.length c1_1]) ?_ 1 _ rfl; (with_reducible repeat (first | refine zL ?_ _ | refine zM ?_ | refine zJ ?_ _)); refine blk_put (cs := #[.slice A1_0 l1_0.length c1_0, .slice A1_1 l1_1.length c1_1]) ?_ 0 _ rfl; (with_reducible repeat (first | refine zL ?_ _ | refine zM ?_ | refine zJ ?_ _)); exact BK236.out⟩
    have n4_ : Aside0 ((((((((w18.setCell ⟨gb236, 0, none⟩ (.slice Ao19 t239.length co19)).setCell ⟨gb236, 1, none⟩ (.slice Ao21 t242.length co21)).setCell ⟨gb237, 0, none⟩ (.int .i64 t245)).setCell ⟨gb237, 1, none⟩ (.string t246)).setCell ⟨gb237, 2, none⟩ (.string t247)).setCell ⟨gb237, 3, none⟩ (.string t248)).setCell ⟨gb237, 4, none⟩ (.int .i64 t249)).heap[gb237]? = some (.cells #[.int .i64 t245, .string t246, .string t247, .string t248, .int .i64 t249] 29 (0, 0))) := ⟨by (with_reducible repeat (first | refine zL ?_ _ | refine zM ?_ | refine zJ ?_ _)); refine blk_put (cs := #[.int .i64 t245, .string t246, .string t247, .string t248, .int .i64 a2_4]) ?_ 4 _ rfl; (with_reducible repeat (first | refine zL ?_ _ | refine zM ?_ | refine zJ ?_ _)); refine blk_put (cs := #[.int .i64 t245, .string t246, .string t247, .string a2_3, .int .i64 a2_4]) ?_ 3 _ rfl; (with_reducible repeat (first | refine zL ?_ _ | refine zM ?_ | refine zJ ?_ _)); refine blk_put (cs := #[.int .i64 t245, .string t246, .string a2_2, .string a2_3, .int .i64 a2_4]) ?_ 2 _ rfl; (with_reducible repeat (first | refine zL ?_ _ | refine zM ?_ | refine zJ ?_ _)); refine blk_put (cs := #[.int .i64 t245, .string a2_1, .string a2_2, .string a2_3, .int .i64 a2_4]) ?_ 1 _ rfl; (with_reducible repeat (first | refine zL ?_ _ | refine zM ?_ | refine zJ ?_ _)); refine blk_put (cs := #[.int .i64 a2_0, .string a2_1, .string a2_2, .string a2_3, .int .i64 a2_4]) ?_ 0 _ rfl; (with_reducible repeat (first | refine zL ?_ _ | refine zM ?_ | refine zJ ?_ _)); refine blk_far ?_ NB237_236.out _; (with_reducible repeat (first | refine zL ?_ _ | refine zM ?_ | refine zJ ?_ _)); refine blk_far ?_ NB237_236.out _; (with_reducible repeat (first | refine zL ?_ _ | refine zM ?_ | refine zJ ?_ _)); exact BK237.out⟩
    have n5_ : Aside0 (Below w.heap.size w (((((((w18.setCell ⟨gb236, 0, none⟩ (.slice Ao19 t239.length co19)).setCell ⟨gb236, 1, none⟩ (.slice Ao21 t242.length co21)).setCell ⟨gb237, 0, none⟩ (.int .i64 t245)).setCell ⟨gb237, 1, none⟩ (.string t246)).setCell ⟨gb237, 2, none⟩ (.string t247)).setCell ⟨gb237, 3, none⟩ (.string t248)).setCell ⟨gb237, 4, none⟩ (.int .i64 t249))) := ⟨by repeat (first | (with_reducible first | exact HB.out | apply zF | apply zE | apply zG | refine zK ?_ GE235.out | refine zK ?_ GE236.out | refine zK ?_ GE237.out) | exact HB.out)⟩
    (try clear HO241)
    (try clear HO244)
    (try clear BK235)
    (try clear BK236)
    (try clear BK237)
    (try clear HB)
    generalize (((((((w18.setCell ⟨gb236, 0, none⟩ (.slice Ao19 t239.length co19)).setCell ⟨gb236, 1, none⟩ (.slice Ao21 t242.length co21)).setCell ⟨gb237, 0, none⟩ (.int .i64 t245)).setCell ⟨gb237, 1, none⟩ (.string t246)).setCell ⟨gb237, 2, none⟩ (.string t247)).setCell ⟨gb237, 3, none⟩ (.string t248)).setCell ⟨gb237, 4, none⟩ (.int .i64 t249)) = w28 at n0_ n1_ n2_ n3_ n4_ n5_ ⊢
    have HO241 := n0_
    have HO244 := n1_
    have BK235 := n2_
    have BK236 := n3_
    have BK237 := n4_
    have HB := n5_
    clear n0_ n1_ n2_ n3_ n4_ n5_
    have n0_ := zX (zh HO241.out)
    have n1_ := zX (zp HO244.out)
    have n2_ := zX (zM BK235.out)
    have n3_ := zX (zM BK236.out)
    have n4_ := zX (zM BK237.out)
    have n5_ := zX (zG HB.out)
    clear HO241
    clear HO244
    clear BK235
    clear BK236
    clear BK237
    clear HB
    have HO241 := n0_
    have HO244 := n1_
    have BK235 := n2_
    have BK236 := n3_
    have BK237 := n4_
    have HB := n5_
    clear n0_ n1_ n2_ n3_ n4_ n5_
    refine start_ (n := 11) (S := fun w' => w'.cell? ⟨gb235, 0, none⟩ = some (.int .i64 a0_0) ∧ w'.cell? ⟨gb235, 1, none⟩ = some (.int .i64 a0_1) ∧ w'.cell? ⟨gb235, 2, none⟩ = some (.int .i64 a0_2) ∧ w'.cell? ⟨gb235, 3, none⟩ = some (.int .i64 a0_3) ∧ w'.cell? ⟨gb235, 4, none⟩ = some (.int .i64 a0_4) ∧ w'.cell? ⟨gb236, 0, none⟩ = some (.slice Ao19 t239.length co19) ∧ w'.cell? ⟨gb236, 1, none⟩ = some (.slice Ao21 t242.length co21) ∧ w'.cell? ⟨gb237, 0, none⟩ = some (.int .i64 t245) ∧ w'.cell? ⟨gb237, 1, none⟩ = some (.string t246) ∧ w'.cell? ⟨gb237, 2, none⟩ = some (.string t247) ∧ w'.cell? ⟨gb237, 3, none⟩ = some (.string t248) ∧ w'.cell? ⟨gb237, 4, none⟩ = some (.int .i64 t249)) (ds := []) #[false, false, false, false, false, false, false, false, false, false, false] (by kernel_rfl) rfl rfl ⟨(zH BK235.out 0).trans rfl, (zH BK235.out 1).trans rfl, (zH BK235.out 2).trans rfl, (zH BK235.out 3).trans rfl, (zH BK235.out 4).trans rfl, (zH BK236.out 0).trans rfl, (zH BK236.out 1).trans rfl, (zH BK237.out 0).trans rfl, (zH BK237.out 1).trans rfl, (zH BK237.out 2).trans rfl, (zH BK237.out 3).trans rfl, (zH BK237.out 4).trans rfl⟩ (fun hHeld => ?_); refine with_tabW boscagelaw31_ModelKeeps.tab4 boscagelaw31_ModelKeeps.bits4 (fun HT_ HW_ => ?_)
    generalize w28.drew = w29 at HO241 HO244 BK235 BK236 BK237 HB hHeld ⊢
    refine take_ (i := 0) (N := some 22) (v := ?_) (a' := ?_) #[true, false, false, false, false, false, false, false, false, false, false] rfl rfl (take_ofW HT_.out HW_.out (by kernel_rfl)) (fun _ _ _ h => h) (Or.inl ⟨by rfl, ?_⟩) hHeld ?_ ?_
    rotate_left
    · rintro w' ⟨s0, s1, s2, s3, s4, s5, s6, s7, s8, s9, s10, s11⟩
      go_simp
      with_reducible rfl
    rotate_left
    · simp only [Act.put, zA, zC, zD, i64_w, i32_w]
      rfl
    refine take_ (i := 1) (N := some 23) (v := ?_) (a' := ?_) #[true, true, false, false, false, false, false, false, false, false, false] rfl rfl (take_ofW HT_.out HW_.out (by kernel_rfl)) (fun _ _ _ h => h) (Or.inl ⟨by rfl, ?_⟩) hHeld ?_ ?_
    rotate_left
    · rintro w' ⟨s0, s1, s2, s3, s4, s5, s6, s7, s8, s9, s10, s11⟩
      go_simp
      with_reducible rfl
    rotate_left
    · simp only [Act.put, zA, zC, zD, i64_w, i32_w]
      rfl
    refine take_ (i := 3) (N := some 25) (v := ?_) (a' := ?_) #[true, true, false, true, false, false, false, false, false, false, false] rfl rfl (take_ofW HT_.out HW_.out (by kernel_rfl)) (fun _ _ _ h => h) (Or.inl ⟨by rfl, ?_⟩) hHeld ?_ ?_
    rotate_left
    · rintro w' ⟨s0, s1, s2, s3, s4, s5, s6, s7, s8, s9, s10, s11⟩
      go_simp
      with_reducible rfl
    rotate_left
    · simp only [Act.put, zA, zC, zD, i64_w, i32_w]
      rfl
    refine join_ (σ := Value × Value × Value × Value × Nat) 2 #[true, true, true, true, true, true, true, true, true, false, false] (fun s_ => [(24, .agg #[s_.1, s_.2.1]), (26, .tuple #[.agg #[s_.2.2.1, s_.2.2.2.1], .bool t262]), (9, .pointer (some ⟨s_.2.2.2.2, 0, none⟩)), (21, .tuple #[.agg #[s_.2.2.1, s_.2.2.2.1], .bool t262]), (27, .agg #[s_.2.2.1, s_.2.2.2.1]), (28, .bool t262)]) (fun s_ w' => (w'.cell? ⟨gb235, 0, none⟩ = some (.int .i64 a0_0) ∧ w'.cell? ⟨gb235, 1, none⟩ = some (.int .i64 a0_1) ∧ w'.cell? ⟨gb235, 2, none⟩ = some (.int .i64 a0_2) ∧ w'.cell? ⟨gb235, 3, none⟩ = some (.int .i64 a0_3) ∧ w'.cell? ⟨gb235, 4, none⟩ = some (.int .i64 a0_4) ∧ w'.cell? ⟨gb236, 0, none⟩ = some (.slice Ao19 t239.length co19) ∧ w'.cell? ⟨gb236, 1, none⟩ = some (.slice Ao21 t242.length co21) ∧ w'.cell? ⟨gb237, 0, none⟩ = some (.int .i64 t245) ∧ w'.cell? ⟨gb237, 1, none⟩ = some (.string t246) ∧ w'.cell? ⟨gb237, 2, none⟩ = some (.string t247) ∧ w'.cell? ⟨gb237, 3, none⟩ = some (.string t248) ∧ w'.cell? ⟨gb237, 4, none⟩ = some (.int .i64 t249)) ∧ (Kd.R k65 65 w' w.heap.size (fun k_ => some k_ ≠ (s_.1 : Value).ownBlock) (.slice Ao19 t239.length co19) t239) ∧ (Kd.N k61 61 w' w.heap.size (fun k_ => some k_ ≠ (.slice Ao19 t239.length co19 : Value).ownBlock ∧ some k_ ≠ (s_.1 : Value).ownBlock ∧ some k_ ≠ (s_.2.1 : Value).ownBlock ∧ k_ ≠ gb235 ∧ k_ ≠ gb236 ∧ k_ ≠ gb237 ∧ k_ ≠ s_.2.2.2.2) (.slice Ao21 t242.length co21) t242) ∧ (Kd.R k65 65 w' w.heap.size (fun k_ => some k_ ≠ (.slice Ao19 t239.length co19 : Value).ownBlock) s_.1 t250) ∧ (Kd.N k72 72 w' w.heap.size (fun k_ => some k_ ≠ (.slice Ao19 t239.length co19 : Value).ownBlock ∧ some k_ ≠ (.slice Ao21 t242.length co21 : Value).ownBlock ∧ some k_ ≠ (s_.1 : Value).ownBlock ∧ k_ ≠ gb235 ∧ k_ ≠ gb236 ∧ k_ ≠ gb237 ∧ k_ ≠ s_.2.2.2.2) s_.2.1 t253) ∧ (Kd.V k65 65 w' w.heap.size (fun k_ => some k_ ≠ (.slice Ao19 t239.length co19 : Value).ownBlock ∧ some k_ ≠ (.slice Ao21 t242.length co21 : Value).ownBlock ∧ k_ ≠ gb235 ∧ k_ ≠ gb236 ∧ k_ ≠ gb237 ∧ k_ ≠ s_.2.2.2.2) s_.2.2.1 t256) ∧ (Kd.V k72 72 w' w.heap.size (fun k_ => some k_ ≠ (.slice Ao19 t239.length co19 : Value).ownBlock ∧ some k_ ≠ (.slice Ao21 t242.length co21 : Value).ownBlock ∧ k_ ≠ gb235 ∧ k_ ≠ gb236 ∧ k_ ≠ gb237 ∧ k_ ≠ s_.2.2.2.2) s_.2.2.2.1 t259) ∧ (w'.heap[gb235]? = some (.cells #[.int .i64 a0_0, .int .i64 a0_1, .int .i64 a0_2, .int .i64 a0_3, .int .i64 a0_4] 23 (0, 0))) ∧ (w'.heap[gb236]? = some (.cells #[.slice Ao19 t239.length co19, .slice Ao21 t242.length co21] 27 (0, 0))) ∧ (w'.heap[gb237]? = some (.cells #[.int .i64 t245, .string t246, .string t247, .string t248, .int .i64 t249] 29 (0, 0))) ∧ (w'.heap[s_.2.2.2.2]? = some (.cells #[.slice none 0 0, .slice none 0 0] 39 (0, 0))) ∧ (w.heap.size ≤ s_.2.2.2.2) ∧ (w.heap.size ≤ s_.2.2.2.2) ∧ (gb235 ≠ s_.2.2.2.2) ∧ (s_.2.2.2.2 ≠ gb235) ∧ (gb236 ≠ s_.2.2.2.2) ∧ (s_.2.2.2.2 ≠ gb236) ∧ (gb237 ≠ s_.2.2.2.2) ∧ (s_.2.2.2.2 ≠ gb237) ∧ (Below w.heap.size w w')) ?_ ?_
    rotate_left
    · intro hCont
      refine two_ (i := 2) (j := 8) (Ni := some 24) (Nj := some 9) #[true, true, true, true, false, false, false, false, false, false, false] #[true, true, false, true, false, false, false, false, true, false, false] rfl rfl rfl rfl (two_of HT_.out (by kernel_rfl)) (by decide) (by decide) (fun K hK => ?_) (fun K hK => ?_)
      · skip
        refine goes_ Tryd.func10 (by kernel_rfl) rfl #[.agg #[.slice Ao19 t239.length co19, .slice Ao21 t242.length co21]] (by rfl) rfl rfl (by (try simp only [zS, zU, zV]); first | done | rfl | (simp only [zO, zN]; rfl)) ?_
        with_reducible refine (boscagelaw31_Give.calls k _ _ t239 _ _ t242 t250 t253 _ ?side1 ?side2 ?side3 ?side4 A9.out).mono ?_
        (case side1 => repeat (first | exact (Kd.R_reads' HO241.out).2.2 | (with_reducible refine Kd.C_alloc ?_ _) | (with_reducible refine Kd.C_drewN ?_ _) | (with_reducible refine Kd.C_drew ?_)))
        (case side2 => exact (Kd.R_reads' HO241.out).2.1)
        (case side3 => repeat (first | exact (Kd.N_reads' HO244.out).2.2 | (with_reducible refine Kd.C_alloc ?_ _) | (with_reducible refine Kd.C_drewN ?_ _) | (with_reducible refine Kd.C_drew ?_)))
        (case side4 => exact (Kd.N_reads' HO244.out).2.1)
        rintro e w30 ⟨v251, v254, rfl, ho0, ho1, hb⟩
        refine ⟨_, rfl, ?_⟩
        have n0_ := zX (Kd.R_elder' (by (with_reducible repeat (first | apply za | apply zg | apply zh)); exact HO241.out) (Kd.R_base ho0) hb)
        have n1_ := zX (Kd.N_mono (Kd.N_told (Kd.N_told (Kd.N_old (by (with_reducible repeat (first | apply ze | apply zo | apply zp)); exact HO244.out) hb) (Kd.R_base ho0)) (Kd.N_base (Kd.S_N ho1))) (fun _ h_ => h_.1))
        have n2_ := zX (Kd.R_lower (Kd.R_new' ho0 (Kd.R_lt (by (with_reducible repeat (first | apply za | apply zg | apply zh)); exact HO241.out))) (zY (by repeat (first | (with_reducible first | exact HB.out | apply zF | apply zE | apply zG | refine zK ?_ GE235.out | refine zK ?_ GE236.out | refine zK ?_ GE237.out) | exact HB.out))))
        have n3_ := zX (Kd.N_lower (Kd.N_mono (ok' := fun k_ => some k_ ≠ (v251 : Value).ownBlock ∧ some k_ ≠ (.slice Ao19 t239.length co19 : Value).ownBlock ∧ some k_ ≠ (.slice Ao21 t242.length co21 : Value).ownBlock ∧ k_ ≠ gb235 ∧ k_ ≠ gb236 ∧ k_ ≠ gb237) (Kd.S_N (Kd.S_bound ho1)) (fun k_ hk_ => ⟨hk_.1, (Kd.fresh' (Kd.R_lt (by (with_reducible repeat (first | apply za | apply zg | apply zh)); exact HO241.out)) k_ hk_.2.1), (Kd.fresh' (Kd.N_lt (by (with_reducible repeat (first | apply ze | apply zo | apply zp)); exact HO244.out)) k_ hk_.2.1), (zl (g := gb235) (o := .cells #[.int .i64 a0_0, .int .i64 a0_1, .int .i64 a0_2, .int .i64 a0_3, .int .i64 a0_4] 23 (0, 0)) (by (with_reducible repeat (first | refine zL ?_ _ | refine zM ?_ | refine zJ ?_ _)); exact BK235.out) k_ hk_.2.1), (zl (g := gb236) (o := .cells #[.slice Ao19 t239.length co19, .slice Ao21 t242.length co21] 27 (0, 0)) (by (with_reducible repeat (first | refine zL ?_ _ | refine zM ?_ | refine zJ ?_ _)); exact BK236.out) k_ hk_.2.1), (zl (g := gb237) (o := .cells #[.int .i64 t245, .string t246, .string t247, .string t248, .int .i64 t249] 29 (0, 0)) (by (with_reducible repeat (first | refine zL ?_ _ | refine zM ?_ | refine zJ ?_ _)); exact BK237.out) k_ hk_.2.1)⟩)) (zY (by repeat (first | (with_reducible first | exact HB.out | apply zF | apply zE | apply zG | refine zK ?_ GE235.out | refine zK ?_ GE236.out | refine zK ?_ GE237.out) | exact HB.out))))
        have n4_ := zX (zm (g := gb235) (o := .cells #[.int .i64 a0_0, .int .i64 a0_1, .int .i64 a0_2, .int .i64 a0_3, .int .i64 a0_4] 23 (0, 0)) (by (with_reducible repeat (first | refine zL ?_ _ | refine zM ?_ | refine zJ ?_ _)); exact BK235.out) hb)
        have n5_ := zX (zm (g := gb236) (o := .cells #[.slice Ao19 t239.length co19, .slice Ao21 t242.length co21] 27 (0, 0)) (by (with_reducible repeat (first | refine zL ?_ _ | refine zM ?_ | refine zJ ?_ _)); exact BK236.out) hb)
        have n6_ := zX (zm (g := gb237) (o := .cells #[.int .i64 t245, .string t246, .string t247, .string t248, .int .i64 t249] 29 (0, 0)) (by (with_reducible repeat (first | refine zL ?_ _ | refine zM ?_ | refine zJ ?_ _)); exact BK237.out) hb)
        have n7_ := zX (zT (by repeat (first | (with_reducible first | exact HB.out | apply zF | apply zE | apply zG | refine zK ?_ GE235.out | refine zK ?_ GE236.out | refine zK ?_ GE237.out) | exact HB.out)) hb)
        clear HO241
        clear HO244
        clear BK235
        clear BK236
        clear BK237
        clear HB
        have HO241 := n0_
        have HO244 := n1_
        have HO252 := n2_
        have HO255 := n3_
        have BK235 := n4_
        have BK236 := n5_
        have BK237 := n6_
        have HB := n7_
        clear n0_ n1_ n2_ n3_ n4_ n5_ n6_ n7_
        (try clear hb)
        (try clear hb2)
        (try clear hk)
        (try clear hi)
        (try clear ho0)
        (try clear ho1)
        obtain ⟨Ao31, co31, eo31⟩ := Kd.R_slice HO252.out
        (first | subst eo31 | (injection eo31 with f1_ f2_ f3_; have f4_ := f1_.symm; have f5_ := f3_.symm; clear f1_ f2_ f3_; subst f4_; subst f5_))
        obtain ⟨Ao32, co32, eo32⟩ := Kd.N_slice HO255.out
        (first | subst eo32 | (injection eo32 with f1_ f2_ f3_; have f4_ := f1_.symm; have f5_ := f3_.symm; clear f1_ f2_ f3_; subst f4_; subst f5_))
        refine hK.out _ _ ⟨(zH BK235.out 0).trans rfl, (zH BK235.out 1).trans rfl, (zH BK235.out 2).trans rfl, (zH BK235.out 3).trans rfl, (zH BK235.out 4).trans rfl, (zH BK236.out 0).trans rfl, (zH BK236.out 1).trans rfl, (zH BK237.out 0).trans rfl, (zH BK237.out 1).trans rfl, (zH BK237.out 2).trans rfl, (zH BK237.out 3).trans rfl, (zH BK237.out 4).trans rfl⟩ (fun hHeld => ?_)
        clear hK K
        refine norm_ (a' := ?_) ?_ ?_
        rotate_left
        · show Act.put _ (some 24) _ = _
          simp only [Act.put, zA, zC, zD, i64_w, i32_w]
          rfl
        refine two_ (i := 4) (j := 8) (Ni := some 26) (Nj := some 9) #[true, true, true, true, true, false, false, false, false, false, false] #[true, true, true, true, false, false, false, false, true, false, false] rfl rfl rfl rfl (two_of HT_.out (by kernel_rfl)) (by decide) (by decide) (fun K hK => ?_) (fun K hK => ?_)
        · skip
          refine goes_ Tryd.func12 (by kernel_rfl) rfl #[.agg #[.int .i64 a0_0, .int .i64 a0_1, .int .i64 a0_2, .int .i64 a0_3, .int .i64 a0_4], .agg #[.slice Ao31 t250.length co31, .slice Ao32 t253.length co32], .agg #[.int .i64 t245, .string t246, .string t247, .string t248, .int .i64 t249]] (by rfl) rfl rfl (by (try simp only [zS, zU, zV]); first | done | rfl | (simp only [zO, zN]; rfl)) ?_
          with_reducible refine (model_After.calls k a0_0 a0_1 a0_2 a0_3 a0_4 (fun k_ => some k_ = (.slice Ao31 t250.length co31 : Value).ownBlock) _ _ t250 (fun k_ => (some k_ ≠ (.slice Ao31 t250.length co31 : Value).ownBlock ∧ (some k_ ≠ (.slice Ao19 t239.length co19 : Value).ownBlock ∧ (some k_ ≠ (.slice Ao21 t242.length co21 : Value).ownBlock ∧ (k_ ≠ gb235 ∧ (k_ ≠ gb236 ∧ k_ ≠ gb237)))))) _ _ t253 t245 t246 t247 t248 t249 t256 t259 t262 _ ?side1 ?side2 ?side3 A10.out).mono ?_
          (case side1 => exact Kd.R_V (Kd.R_tight rfl (zk (zk (zk (zn (zn (HO252.out) (Kd.N_typed HO244.out) (by decide)) (Kd.N_typed HO255.out) (by decide)) BK235.out (by decide)) BK236.out (by decide)) BK237.out (by decide))))
          (case side2 => exact Kd.N_V (HO255.out))
          (case side3 => exact laidU_below HLAID.out (by repeat (first | (with_reducible first | exact HB.out | apply zF | apply zE | apply zG | refine zK ?_ GE235.out | refine zK ?_ GE236.out | refine zK ?_ GE237.out) | exact HB.out)))
          rintro e w33 ⟨v257, v260, rfl, ho0, ho1, hb⟩
          refine ⟨_, rfl, ?_⟩
          have n0_ := zX (Kd.R_below (by (with_reducible repeat (first | apply za | apply zg | apply zh)); exact HO241.out) hb)
          have n1_ := zX (Kd.N_below (by (with_reducible repeat (first | apply ze | apply zo | apply zp)); exact HO244.out) hb)
          have n2_ := zX (Kd.R_below (by (with_reducible repeat (first | apply za | apply zg | apply zh)); exact HO252.out) hb)
          have n3_ := zX (Kd.N_below (by (with_reducible repeat (first | apply ze | apply zo | apply zp)); exact HO255.out) hb)
          have n4_ := zX (Kd.V_lower (Kd.V_mono (ok' := fun k_ => some k_ ≠ (.slice Ao19 t239.length co19 : Value).ownBlock ∧ some k_ ≠ (.slice Ao21 t242.length co21 : Value).ownBlock ∧ k_ ≠ gb235 ∧ k_ ≠ gb236 ∧ k_ ≠ gb237) ho0 (fun k_ hk_ => ⟨zj hk_ (fun hs_ => zj hs_ (fun hs_ => ((zk (zk (zk (zn (zn (HO252.out) (Kd.N_typed HO244.out) (by decide)) (Kd.N_typed HO255.out) (by decide)) BK235.out (by decide)) BK236.out (by decide)) BK237.out (by decide)).1 k_ hs_.symm).1.1.1.1.1.2) (fun hs_ => hs_.2.1)) (fun hn_ => (Kd.fresh' (Kd.R_lt (by (with_reducible repeat (first | apply za | apply zg | apply zh)); exact HO241.out)) k_ hn_)), zj hk_ (fun hs_ => zj hs_ (fun hs_ => ((zk (zk (zk (zn (zn (HO252.out) (Kd.N_typed HO244.out) (by decide)) (Kd.N_typed HO255.out) (by decide)) BK235.out (by decide)) BK236.out (by decide)) BK237.out (by decide)).1 k_ hs_.symm).1.1.1.1.2) (fun hs_ => hs_.2.2.1)) (fun hn_ => (Kd.fresh' (Kd.N_lt (by (with_reducible repeat (first | apply ze | apply zo | apply zp)); exact HO244.out)) k_ hn_)), zj hk_ (fun hs_ => zj hs_ (fun hs_ => ((zk (zk (zk (zn (zn (HO252.out) (Kd.N_typed HO244.out) (by decide)) (Kd.N_typed HO255.out) (by decide)) BK235.out (by decide)) BK236.out (by decide)) BK237.out (by decide)).1 k_ hs_.symm).1.1.2) (fun hs_ => hs_.2.2.2.1)) (fun hn_ => (zl (g := gb235) (o := .cells #[.int .i64 a0_0, .int .i64 a0_1, .int .i64 a0_2, .int .i64 a0_3, .int .i64 a0_4] 23 (0, 0)) (by (with_reducible repeat (first | refine zL ?_ _ | refine zM ?_ | refine zJ ?_ _)); exact BK235.out) k_ hn_)), zj hk_ (fun hs_ => zj hs_ (fun hs_ => ((zk (zk (zk (zn (zn (HO252.out) (Kd.N_typed HO244.out) (by decide)) (Kd.N_typed HO255.out) (by decide)) BK235.out (by decide)) BK236.out (by decide)) BK237.out (by decide)).1 k_ hs_.symm).1.2) (fun hs_ => hs_.2.2.2.2.1)) (fun hn_ => (zl (g := gb236) (o := .cells #[.slice Ao19 t239.length co19, .slice Ao21 t242.length co21] 27 (0, 0)) (by (with_reducible repeat (first | refine zL ?_ _ | refine zM ?_ | refine zJ ?_ _)); exact BK236.out) k_ hn_)), zj hk_ (fun hs_ => zj hs_ (fun hs_ => ((zk (zk (zk (zn (zn (HO252.out) (Kd.N_typed HO244.out) (by decide)) (Kd.N_typed HO255.out) (by decide)) BK235.out (by decide)) BK236.out (by decide)) BK237.out (by decide)).1 k_ hs_.symm).2) (fun hs_ => hs_.2.2.2.2.2)) (fun hn_ => (zl (g := gb237) (o := .cells #[.int .i64 t245, .string t246, .string t247, .string t248, .int .i64 t249] 29 (0, 0)) (by (with_reducible repeat (first | refine zL ?_ _ | refine zM ?_ | refine zJ ?_ _)); exact BK237.out) k_ hn_))⟩)) (zY (by repeat (first | (with_reducible first | exact HB.out | apply zF | apply zE | apply zG | refine zK ?_ GE235.out | refine zK ?_ GE236.out | refine zK ?_ GE237.out) | exact HB.out))))
          have n5_ := zX (Kd.V_lower (Kd.V_mono (ok' := fun k_ => some k_ ≠ (.slice Ao19 t239.length co19 : Value).ownBlock ∧ some k_ ≠ (.slice Ao21 t242.length co21 : Value).ownBlock ∧ k_ ≠ gb235 ∧ k_ ≠ gb236 ∧ k_ ≠ gb237) ho1 (fun k_ hk_ => ⟨zj hk_ (fun hs_ => zj hs_ (fun hs_ => ((zk (zk (zk (zn (zn (HO252.out) (Kd.N_typed HO244.out) (by decide)) (Kd.N_typed HO255.out) (by decide)) BK235.out (by decide)) BK236.out (by decide)) BK237.out (by decide)).1 k_ hs_.symm).1.1.1.1.1.2) (fun hs_ => hs_.2.1)) (fun hn_ => (Kd.fresh' (Kd.R_lt (by (with_reducible repeat (first | apply za | apply zg | apply zh)); exact HO241.out)) k_ hn_)), zj hk_ (fun hs_ => zj hs_ (fun hs_ => ((zk (zk (zk (zn (zn (HO252.out) (Kd.N_typed HO244.out) (by decide)) (Kd.N_typed HO255.out) (by decide)) BK235.out (by decide)) BK236.out (by decide)) BK237.out (by decide)).1 k_ hs_.symm).1.1.1.1.2) (fun hs_ => hs_.2.2.1)) (fun hn_ => (Kd.fresh' (Kd.N_lt (by (with_reducible repeat (first | apply ze | apply zo | apply zp)); exact HO244.out)) k_ hn_)), zj hk_ (fun hs_ => zj hs_ (fun hs_ => ((zk (zk (zk (zn (zn (HO252.out) (Kd.N_typed HO244.out) (by decide)) (Kd.N_typed HO255.out) (by decide)) BK235.out (by decide)) BK236.out (by decide)) BK237.out (by decide)).1 k_ hs_.symm).1.1.2) (fun hs_ => hs_.2.2.2.1)) (fun hn_ => (zl (g := gb235) (o := .cells #[.int .i64 a0_0, .int .i64 a0_1, .int .i64 a0_2, .int .i64 a0_3, .int .i64 a0_4] 23 (0, 0)) (by (with_reducible repeat (first | refine zL ?_ _ | refine zM ?_ | refine zJ ?_ _)); exact BK235.out) k_ hn_)), zj hk_ (fun hs_ => zj hs_ (fun hs_ => ((zk (zk (zk (zn (zn (HO252.out) (Kd.N_typed HO244.out) (by decide)) (Kd.N_typed HO255.out) (by decide)) BK235.out (by decide)) BK236.out (by decide)) BK237.out (by decide)).1 k_ hs_.symm).1.2) (fun hs_ => hs_.2.2.2.2.1)) (fun hn_ => (zl (g := gb236) (o := .cells #[.slice Ao19 t239.length co19, .slice Ao21 t242.length co21] 27 (0, 0)) (by (with_reducible repeat (first | refine zL ?_ _ | refine zM ?_ | refine zJ ?_ _)); exact BK236.out) k_ hn_)), zj hk_ (fun hs_ => zj hs_ (fun hs_ => ((zk (zk (zk (zn (zn (HO252.out) (Kd.N_typed HO244.out) (by decide)) (Kd.N_typed HO255.out) (by decide)) BK235.out (by decide)) BK236.out (by decide)) BK237.out (by decide)).1 k_ hs_.symm).2) (fun hs_ => hs_.2.2.2.2.2)) (fun hn_ => (zl (g := gb237) (o := .cells #[.int .i64 t245, .string t246, .string t247, .string t248, .int .i64 t249] 29 (0, 0)) (by (with_reducible repeat (first | refine zL ?_ _ | refine zM ?_ | refine zJ ?_ _)); exact BK237.out) k_ hn_))⟩)) (zY (by repeat (first | (with_reducible first | exact HB.out | apply zF | apply zE | apply zG | refine zK ?_ GE235.out | refine zK ?_ GE236.out | refine zK ?_ GE237.out) | exact HB.out))))
          have n6_ := zX (zm (g := gb235) (o := .cells #[.int .i64 a0_0, .int .i64 a0_1, .int .i64 a0_2, .int .i64 a0_3, .int .i64 a0_4] 23 (0, 0)) (by (with_reducible repeat (first | refine zL ?_ _ | refine zM ?_ | refine zJ ?_ _)); exact BK235.out) hb)
          have n7_ := zX (zm (g := gb236) (o := .cells #[.slice Ao19 t239.length co19, .slice Ao21 t242.length co21] 27 (0, 0)) (by (with_reducible repeat (first | refine zL ?_ _ | refine zM ?_ | refine zJ ?_ _)); exact BK236.out) hb)
          have n8_ := zX (zm (g := gb237) (o := .cells #[.int .i64 t245, .string t246, .string t247, .string t248, .int .i64 t249] 29 (0, 0)) (by (with_reducible repeat (first | refine zL ?_ _ | refine zM ?_ | refine zJ ?_ _)); exact BK237.out) hb)
          have n9_ := zX (zT (by repeat (first | (with_reducible first | exact HB.out | apply zF | apply zE | apply zG | refine zK ?_ GE235.out | refine zK ?_ GE236.out | refine zK ?_ GE237.out) | exact HB.out)) hb)
          clear HO241
          clear HO244
          clear HO252
          clear HO255
          clear BK235
          clear BK236
          clear BK237
          clear HB
          have HO241 := n0_
          have HO244 := n1_
          have HO252 := n2_
          have HO255 := n3_
          have HO258 := n4_
          have HO261 := n5_
          have BK235 := n6_
          have BK236 := n7_
          have BK237 := n8_
          have HB := n9_
          clear n0_ n1_ n2_ n3_ n4_ n5_ n6_ n7_ n8_ n9_
          (try clear hb)
          (try clear hb2)
          (try clear hk)
          (try clear hi)
          (try clear ho0)
          (try clear ho1)
          refine hK.out _ _ ⟨(zH BK235.out 0).trans rfl, (zH BK235.out 1).trans rfl, (zH BK235.out 2).trans rfl, (zH BK235.out 3).trans rfl, (zH BK235.out 4).trans rfl, (zH BK236.out 0).trans rfl, (zH BK236.out 1).trans rfl, (zH BK237.out 0).trans rfl, (zH BK237.out 1).trans rfl, (zH BK237.out 2).trans rfl, (zH BK237.out 3).trans rfl, (zH BK237.out 4).trans rfl⟩ (fun hHeld => ?_)
          clear hK K
          refine norm_ (a' := ?_) ?_ ?_
          rotate_left
          · show Act.put _ (some 26) _ = _
            simp only [Act.put, zA, zC, zD, i64_w, i32_w]
            rfl
          refine pure_ (i := 5) (N := some 21) (v := ?_) (a' := ?_) #[true, true, true, true, true, true, false, false, false, false, false] rfl rfl (any_of HT_.out (by kernel_rfl)) (fun _ _ _ h => h) (Or.inl ⟨by rfl, ?_⟩) ?_ ?_
          rotate_left
          · intro w'
            go_simp
            with_reducible rfl
          rotate_left
          · simp only [Act.put, zA, zC, zD, i64_w, i32_w]
            rfl
          refine pure_ (i := 6) (N := some 27) (v := ?_) (a' := ?_) #[true, true, true, true, true, true, true, false, false, false, false] rfl rfl (any_of HT_.out (by kernel_rfl)) (fun _ _ _ h => h) (Or.inl ⟨by rfl, ?_⟩) ?_ ?_
          rotate_left
          · intro w'
            go_simp
            with_reducible rfl
          rotate_left
          · simp only [Act.put, zA, zC, zD, i64_w, i32_w]
            rfl
          refine pure_ (i := 7) (N := some 28) (v := ?_) (a' := ?_) #[true, true, true, true, true, true, true, true, false, false, false] rfl rfl (any_of HT_.out (by kernel_rfl)) (fun _ _ _ h => h) (Or.inl ⟨by rfl, ?_⟩) ?_ ?_
          rotate_left
          · intro w'
            go_simp
            with_reducible rfl
          rotate_left
          · simp only [Act.put, zA, zC, zD, i64_w, i32_w]
            rfl
          refine one_ (i := 8) (N := some 9) #[true, true, true, true, true, true, true, true, true, false, false] rfl rfl (one_of HT_.out (by kernel_rfl)) (by decide) (fun K hK => ?_)
          refine box_step ?hg (N := 9) ?hd (cs := #[.slice none 0 0, .slice none 0 0]) (t := 39) ?hr ?_; (case hd => rfl); (case hg => rfl); (case hr => first | (go_simp; done) | (go_simp; rfl))
          intro gb263 hg w34 hbox hb
          have n0_ := zX (Kd.R_below (by (with_reducible repeat (first | apply za | apply zg | apply zh)); exact HO241.out) hb)
          have n1_ := zX (Kd.N_below (Kd.N_elderB (by (with_reducible repeat (first | apply ze | apply zo | apply zp)); exact HO244.out) gb263 (Nat.le_of_eq hg.symm)) hb)
          have n2_ := zX (Kd.R_below (by (with_reducible repeat (first | apply za | apply zg | apply zh)); exact HO252.out) hb)
          have n3_ := zX (Kd.N_below (Kd.N_elderB (by (with_reducible repeat (first | apply ze | apply zo | apply zp)); exact HO255.out) gb263 (Nat.le_of_eq hg.symm)) hb)
          have n4_ := zX (Kd.V_below (Kd.V_elderB (by (with_reducible repeat (first | apply zb | apply zc | apply zd)); exact HO258.out) gb263 (Nat.le_of_eq hg.symm)) hb)
          have n5_ := zX (Kd.V_below (Kd.V_elderB (by (with_reducible repeat (first | apply zb | apply zc | apply zd)); exact HO261.out) gb263 (Nat.le_of_eq hg.symm)) hb)
          have n6_ := zX (zm (g := gb235) (o := .cells #[.int .i64 a0_0, .int .i64 a0_1, .int .i64 a0_2, .int .i64 a0_3, .int .i64 a0_4] 23 (0, 0)) (by (with_reducible repeat (first | refine zL ?_ _ | refine zM ?_ | refine zJ ?_ _)); exact BK235.out) hb)
          have n7_ := zX (zm (g := gb236) (o := .cells #[.slice Ao19 t239.length co19, .slice Ao21 t242.length co21] 27 (0, 0)) (by (with_reducible repeat (first | refine zL ?_ _ | refine zM ?_ | refine zJ ?_ _)); exact BK236.out) hb)
          have n8_ := zX (zm (g := gb237) (o := .cells #[.int .i64 t245, .string t246, .string t247, .string t248, .int .i64 t249] 29 (0, 0)) (by (with_reducible repeat (first | refine zL ?_ _ | refine zM ?_ | refine zJ ?_ _)); exact BK237.out) hb)
          have n9_ := zX (zT (by repeat (first | (with_reducible first | exact HB.out | apply zF | apply zE | apply zG | refine zK ?_ GE235.out | refine zK ?_ GE236.out | refine zK ?_ GE237.out) | exact HB.out)) hb)
          have n10_ := zX (hbox)
          have n11_ := zX ((by rw [hg]; exact (zY (by repeat (first | (with_reducible first | exact HB.out | apply zF | apply zE | apply zG | refine zK ?_ GE235.out | refine zK ?_ GE236.out | refine zK ?_ GE237.out) | exact HB.out))) : w.heap.size ≤ gb263))
          have n12_ := zX ((by rw [hg]; exact (zY (by repeat (first | (with_reducible first | exact HB.out | apply zF | apply zE | apply zG | refine zK ?_ GE235.out | refine zK ?_ GE236.out | refine zK ?_ GE237.out) | exact HB.out))) : w.heap.size ≤ gb263))
          have n13_ := zX ((by rw [hg]; exact Nat.ne_of_lt (blk_lt (g := gb235) (o := .cells #[.int .i64 a0_0, .int .i64 a0_1, .int .i64 a0_2, .int .i64 a0_3, .int .i64 a0_4] 23 (0, 0)) (by (with_reducible repeat (first | refine zL ?_ _ | refine zM ?_ | refine zJ ?_ _)); exact BK235.out)) : gb235 ≠ gb263))
          have n14_ := zX ((by rw [hg]; exact Nat.ne_of_gt (blk_lt (g := gb235) (o := .cells #[.int .i64 a0_0, .int .i64 a0_1, .int .i64 a0_2, .int .i64 a0_3, .int .i64 a0_4] 23 (0, 0)) (by (with_reducible repeat (first | refine zL ?_ _ | refine zM ?_ | refine zJ ?_ _)); exact BK235.out)) : gb263 ≠ gb235))
          have n15_ := zX ((by rw [hg]; exact Nat.ne_of_lt (blk_lt (g := gb236) (o := .cells #[.slice Ao19 t239.length co19, .slice Ao21 t242.length co21] 27 (0, 0)) (by (with_reducible repeat (first | refine zL ?_ _ | refine zM ?_ | refine zJ ?_ _)); exact BK236.out)) : gb236 ≠ gb263))
          have n16_ := zX ((by rw [hg]; exact Nat.ne_of_gt (blk_lt (g := gb236) (o := .cells #[.slice Ao19 t239.length co19, .slice Ao21 t242.length co21] 27 (0, 0)) (by (with_reducible repeat (first | refine zL ?_ _ | refine zM ?_ | refine zJ ?_ _)); exact BK236.out)) : gb263 ≠ gb236))
          have n17_ := zX ((by rw [hg]; exact Nat.ne_of_lt (blk_lt (g := gb237) (o := .cells #[.int .i64 t245, .string t246, .string t247, .string t248, .int .i64 t249] 29 (0, 0)) (by (with_reducible repeat (first | refine zL ?_ _ | refine zM ?_ | refine zJ ?_ _)); exact BK237.out)) : gb237 ≠ gb263))
          have n18_ := zX ((by rw [hg]; exact Nat.ne_of_gt (blk_lt (g := gb237) (o := .cells #[.int .i64 t245, .string t246, .string t247, .string t248, .int .i64 t249] 29 (0, 0)) (by (with_reducible repeat (first | refine zL ?_ _ | refine zM ?_ | refine zJ ?_ _)); exact BK237.out)) : gb263 ≠ gb237))
          clear HO241
          clear HO244
          clear HO252
          clear HO255
          clear HO258
          clear HO261
          clear BK235
          clear BK236
          clear BK237
          clear HB
          have HO241 := n0_
          have HO244 := n1_
          have HO252 := n2_
          have HO255 := n3_
          have HO258 := n4_
          have HO261 := n5_
          have BK235 := n6_
          have BK236 := n7_
          have BK237 := n8_
          have HB := n9_
          have BK263 := n10_
          have GW263 := n11_
          have GE263 := n12_
          have NB235_263 := n13_
          have NB263_235 := n14_
          have NB236_263 := n15_
          have NB263_236 := n16_
          have NB237_263 := n17_
          have NB263_237 := n18_
          clear n0_ n1_ n2_ n3_ n4_ n5_ n6_ n7_ n8_ n9_ n10_ n11_ n12_ n13_ n14_ n15_ n16_ n17_ n18_
          clear hb hbox hg
          refine hK.out _ _ ⟨(zH BK235.out 0).trans rfl, (zH BK235.out 1).trans rfl, (zH BK235.out 2).trans rfl, (zH BK235.out 3).trans rfl, (zH BK235.out 4).trans rfl, (zH BK236.out 0).trans rfl, (zH BK236.out 1).trans rfl, (zH BK237.out 0).trans rfl, (zH BK237.out 1).trans rfl, (zH BK237.out 2).trans rfl, (zH BK237.out 3).trans rfl, (zH BK237.out 4).trans rfl⟩ (fun hHeld => ?_)
          clear hK K
          refine norm_ (a' := ?_) ?_ ?_
          rotate_left
          · show Act.put _ (some 9) _ = _
            simp only [Act.put, zA, zC, zD, i64_w, i32_w]
            rfl
          exact norm_ (by simp only [putAll, Act.put, zA, zC, zD]) (hCont (.slice Ao31 t250.length co31, .slice Ao32 t253.length co32, v257, v260, gb263) _ ⟨hHeld, (by (with_reducible repeat (first | apply za | apply zg | apply zh)); exact Kd.R_mono HO241.out (fun _ hk => hk.2)), (by (with_reducible repeat (first | apply ze | apply zo | apply zp)); exact Kd.N_mono HO244.out (fun _ hk => ⟨hk.1.1.1.1, ⟨hk.1.1.2, ⟨hk.1.2, ⟨hk.1.1.1.2.1, ⟨hk.1.1.1.2.2.1, ⟨hk.1.1.1.2.2.2, hk.2⟩⟩⟩⟩⟩⟩)), (by (with_reducible repeat (first | apply za | apply zg | apply zh)); exact Kd.R_mono HO252.out (fun _ hk => hk.2)), (by (with_reducible repeat (first | apply ze | apply zo | apply zp)); exact Kd.N_mono HO255.out (fun _ hk => ⟨hk.1.2.1, ⟨hk.1.2.2.1, ⟨hk.1.1, ⟨hk.1.2.2.2.1, ⟨hk.1.2.2.2.2.1, ⟨hk.1.2.2.2.2.2, hk.2⟩⟩⟩⟩⟩⟩)), (by (with_reducible repeat (first | apply zb | apply zc | apply zd)); exact Kd.V_mono HO258.out (fun _ hk => ⟨hk.1.1, ⟨hk.1.2.1, ⟨hk.1.2.2.1, ⟨hk.1.2.2.2.1, ⟨hk.1.2.2.2.2, hk.2⟩⟩⟩⟩⟩)), (by (with_reducible repeat (first | apply zb | apply zc | apply zd)); exact Kd.V_mono HO261.out (fun _ hk => ⟨hk.1.1, ⟨hk.1.2.1, ⟨hk.1.2.2.1, ⟨hk.1.2.2.2.1, ⟨hk.1.2.2.2.2, hk.2⟩⟩⟩⟩⟩)), (by (with_reducible repeat (first | refine zL ?_ _ | refine zM ?_ | refine zJ ?_ _)); exact BK235.out), (by (with_reducible repeat (first | refine zL ?_ _ | refine zM ?_ | refine zJ ?_ _)); exact BK236.out), (by (with_reducible repeat (first | refine zL ?_ _ | refine zM ?_ | refine zJ ?_ _)); exact BK237.out), (by (with_reducible repeat (first | refine zL ?_ _ | refine zM ?_ | refine zJ ?_ _)); exact BK263.out), GW263.out, GE263.out, NB235_263.out, NB263_235.out, NB236_263.out, NB263_236.out, NB237_263.out, NB263_237.out, (by repeat (first | (with_reducible first | exact HB.out | apply zF | apply zE | apply zG | refine zK ?_ GE235.out | refine zK ?_ GE236.out | refine zK ?_ GE237.out | refine zK ?_ GE263.out) | exact HB.out))⟩)
        · skip
          refine box_step ?hg (N := 9) ?hd (cs := #[.slice none 0 0, .slice none 0 0]) (t := 39) ?hr ?_; (case hd => rfl); (case hg => rfl); (case hr => first | (go_simp; done) | (go_simp; rfl))
          intro gb263 hg w31 hbox hb
          have n0_ := zX (Kd.R_below (by (with_reducible repeat (first | apply za | apply zg | apply zh)); exact HO241.out) hb)
          have n1_ := zX (Kd.N_below (Kd.N_elderB (by (with_reducible repeat (first | apply ze | apply zo | apply zp)); exact HO244.out) gb263 (Nat.le_of_eq hg.symm)) hb)
          have n2_ := zX (Kd.R_below (by (with_reducible repeat (first | apply za | apply zg | apply zh)); exact HO252.out) hb)
          have n3_ := zX (Kd.N_below (Kd.N_elderB (by (with_reducible repeat (first | apply ze | apply zo | apply zp)); exact HO255.out) gb263 (Nat.le_of_eq hg.symm)) hb)
          have n4_ := zX (zm (g := gb235) (o := .cells #[.int .i64 a0_0, .int .i64 a0_1, .int .i64 a0_2, .int .i64 a0_3, .int .i64 a0_4] 23 (0, 0)) (by (with_reducible repeat (first | refine zL ?_ _ | refine zM ?_ | refine zJ ?_ _)); exact BK235.out) hb)
          have n5_ := zX (zm (g := gb236) (o := .cells #[.slice Ao19 t239.length co19, .slice Ao21 t242.length co21] 27 (0, 0)) (by (with_reducible repeat (first | refine zL ?_ _ | refine zM ?_ | refine zJ ?_ _)); exact BK236.out) hb)
          have n6_ := zX (zm (g := gb237) (o := .cells #[.int .i64 t245, .string t246, .string t247, .string t248, .int .i64 t249] 29 (0, 0)) (by (with_reducible repeat (first | refine zL ?_ _ | refine zM ?_ | refine zJ ?_ _)); exact BK237.out) hb)
          have n7_ := zX (zT (by repeat (first | (with_reducible first | exact HB.out | apply zF | apply zE | apply zG | refine zK ?_ GE235.out | refine zK ?_ GE236.out | refine zK ?_ GE237.out) | exact HB.out)) hb)
          have n8_ := zX (hbox)
          have n9_ := zX ((by rw [hg]; exact (zY (by repeat (first | (with_reducible first | exact HB.out | apply zF | apply zE | apply zG | refine zK ?_ GE235.out | refine zK ?_ GE236.out | refine zK ?_ GE237.out) | exact HB.out))) : w.heap.size ≤ gb263))
          have n10_ := zX ((by rw [hg]; exact (zY (by repeat (first | (with_reducible first | exact HB.out | apply zF | apply zE | apply zG | refine zK ?_ GE235.out | refine zK ?_ GE236.out | refine zK ?_ GE237.out) | exact HB.out))) : w.heap.size ≤ gb263))
          have n11_ := zX ((by rw [hg]; exact Nat.ne_of_lt (blk_lt (g := gb235) (o := .cells #[.int .i64 a0_0, .int .i64 a0_1, .int .i64 a0_2, .int .i64 a0_3, .int .i64 a0_4] 23 (0, 0)) (by (with_reducible repeat (first | refine zL ?_ _ | refine zM ?_ | refine zJ ?_ _)); exact BK235.out)) : gb235 ≠ gb263))
          have n12_ := zX ((by rw [hg]; exact Nat.ne_of_gt (blk_lt (g := gb235) (o := .cells #[.int .i64 a0_0, .int .i64 a0_1, .int .i64 a0_2, .int .i64 a0_3, .int .i64 a0_4] 23 (0, 0)) (by (with_reducible repeat (first | refine zL ?_ _ | refine zM ?_ | refine zJ ?_ _)); exact BK235.out)) : gb263 ≠ gb235))
          have n13_ := zX ((by rw [hg]; exact Nat.ne_of_lt (blk_lt (g := gb236) (o := .cells #[.slice Ao19 t239.length co19, .slice Ao21 t242.length co21] 27 (0, 0)) (by (with_reducible repeat (first | refine zL ?_ _ | refine zM ?_ | refine zJ ?_ _)); exact BK236.out)) : gb236 ≠ gb263))
          have n14_ := zX ((by rw [hg]; exact Nat.ne_of_gt (blk_lt (g := gb236) (o := .cells #[.slice Ao19 t239.length co19, .slice Ao21 t242.length co21] 27 (0, 0)) (by (with_reducible repeat (first | refine zL ?_ _ | refine zM ?_ | refine zJ ?_ _)); exact BK236.out)) : gb263 ≠ gb236))
          have n15_ := zX ((by rw [hg]; exact Nat.ne_of_lt (blk_lt (g := gb237) (o := .cells #[.int .i64 t245, .string t246, .string t247, .string t248, .int .i64 t249] 29 (0, 0)) (by (with_reducible repeat (first | refine zL ?_ _ | refine zM ?_ | refine zJ ?_ _)); exact BK237.out)) : gb237 ≠ gb263))
          have n16_ := zX ((by rw [hg]; exact Nat.ne_of_gt (blk_lt (g := gb237) (o := .cells #[.int .i64 t245, .string t246, .string t247, .string t248, .int .i64 t249] 29 (0, 0)) (by (with_reducible repeat (first | refine zL ?_ _ | refine zM ?_ | refine zJ ?_ _)); exact BK237.out)) : gb263 ≠ gb237))
          clear HO241
          clear HO244
          clear HO252
          clear HO255
          clear BK235
          clear BK236
          clear BK237
          clear HB
          have HO241 := n0_
          have HO244 := n1_
          have HO252 := n2_
          have HO255 := n3_
          have BK235 := n4_
          have BK236 := n5_
          have BK237 := n6_
          have HB := n7_
          have BK263 := n8_
          have GW263 := n9_
          have GE263 := n10_
          have NB235_263 := n11_
          have NB263_235 := n12_
          have NB236_263 := n13_
          have NB263_236 := n14_
          have NB237_263 := n15_
          have NB263_237 := n16_
          clear n0_ n1_ n2_ n3_ n4_ n5_ n6_ n7_ n8_ n9_ n10_ n11_ n12_ n13_ n14_ n15_ n16_
          clear hb hbox hg
          obtain ⟨Ao32, co32, eo32⟩ := Kd.R_slice HO252.out
          (first | subst eo32 | (injection eo32 with f1_ f2_ f3_; have f4_ := f1_.symm; have f5_ := f3_.symm; clear f1_ f2_ f3_; subst f4_; subst f5_))
          obtain ⟨Ao33, co33, eo33⟩ := Kd.N_slice HO255.out
          (first | subst eo33 | (injection eo33 with f1_ f2_ f3_; have f4_ := f1_.symm; have f5_ := f3_.symm; clear f1_ f2_ f3_; subst f4_; subst f5_))
          refine hK.out _ _ ⟨(zH BK235.out 0).trans rfl, (zH BK235.out 1).trans rfl, (zH BK235.out 2).trans rfl, (zH BK235.out 3).trans rfl, (zH BK235.out 4).trans rfl, (zH BK236.out 0).trans rfl, (zH BK236.out 1).trans rfl, (zH BK237.out 0).trans rfl, (zH BK237.out 1).trans rfl, (zH BK237.out 2).trans rfl, (zH BK237.out 3).trans rfl, (zH BK237.out 4).trans rfl⟩ (fun hHeld => ?_)
          clear hK K
          refine norm_ (a' := ?_) ?_ ?_
          rotate_left
          · show Act.put _ (some 9) _ = _
            simp only [Act.put, zA, zC, zD, i64_w, i32_w]
            rfl
          refine one_ (i := 4) (N := some 26) #[true, true, true, true, true, false, false, false, true, false, false] rfl rfl (one_of HT_.out (by kernel_rfl)) (by decide) (fun K hK => ?_)
          refine goes_ Tryd.func12 (by kernel_rfl) rfl #[.agg #[.int .i64 a0_0, .int .i64 a0_1, .int .i64 a0_2, .int .i64 a0_3, .int .i64 a0_4], .agg #[.slice Ao32 t250.length co32, .slice Ao33 t253.length co33], .agg #[.int .i64 t245, .string t246, .string t247, .string t248, .int .i64 t249]] (by rfl) rfl rfl (by (try simp only [zS, zU, zV]); first | done | rfl | (simp only [zO, zN]; rfl)) ?_
          with_reducible refine (model_After.calls k a0_0 a0_1 a0_2 a0_3 a0_4 (fun k_ => some k_ = (.slice Ao32 t250.length co32 : Value).ownBlock) _ _ t250 (fun k_ => ((some k_ ≠ (.slice Ao32 t250.length co32 : Value).ownBlock ∧ (some k_ ≠ (.slice Ao19 t239.length co19 : Value).ownBlock ∧ (some k_ ≠ (.slice Ao21 t242.length co21 : Value).ownBlock ∧ (k_ ≠ gb235 ∧ (k_ ≠ gb236 ∧ k_ ≠ gb237))))) ∧ k_ ≠ gb263)) _ _ t253 t245 t246 t247 t248 t249 t256 t259 t262 _ ?side1 ?side2 ?side3 A10.out).mono ?_
          (case side1 => exact Kd.R_V (Kd.R_tight rfl (zk (zk (zk (zk (zn (zn (HO252.out) (Kd.N_typed HO244.out) (by decide)) (Kd.N_typed HO255.out) (by decide)) BK235.out (by decide)) BK236.out (by decide)) BK237.out (by decide)) BK263.out (by decide))))
          (case side2 => exact Kd.N_V (HO255.out))
          (case side3 => exact laidU_below HLAID.out (by repeat (first | (with_reducible first | exact HB.out | apply zF | apply zE | apply zG | refine zK ?_ GE235.out | refine zK ?_ GE236.out | refine zK ?_ GE237.out | refine zK ?_ GE263.out) | exact HB.out)))
          rintro e w34 ⟨v257, v260, rfl, ho0, ho1, hb⟩
          refine ⟨_, rfl, ?_⟩
          have n0_ := zX (Kd.R_below (by (with_reducible repeat (first | apply za | apply zg | apply zh)); exact HO241.out) hb)
          have n1_ := zX (Kd.N_below (by (with_reducible repeat (first | apply ze | apply zo | apply zp)); exact HO244.out) hb)
          have n2_ := zX (Kd.R_below (by (with_reducible repeat (first | apply za | apply zg | apply zh)); exact HO252.out) hb)
          have n3_ := zX (Kd.N_below (by (with_reducible repeat (first | apply ze | apply zo | apply zp)); exact HO255.out) hb)
          have n4_ := zX (Kd.V_lower (Kd.V_mono (ok' := fun k_ => some k_ ≠ (.slice Ao19 t239.length co19 : Value).ownBlock ∧ some k_ ≠ (.slice Ao21 t242.length co21 : Value).ownBlock ∧ k_ ≠ gb235 ∧ k_ ≠ gb236 ∧ k_ ≠ gb237 ∧ k_ ≠ gb263) ho0 (fun k_ hk_ => ⟨zj hk_ (fun hs_ => zj hs_ (fun hs_ => ((zk (zk (zk (zk (zn (zn (HO252.out) (Kd.N_typed HO244.out) (by decide)) (Kd.N_typed HO255.out) (by decide)) BK235.out (by decide)) BK236.out (by decide)) BK237.out (by decide)) BK263.out (by decide)).1 k_ hs_.symm).1.1.1.1.1.1.2) (fun hs_ => hs_.1.2.1)) (fun hn_ => (Kd.fresh' (Kd.R_lt (by (with_reducible repeat (first | apply za | apply zg | apply zh)); exact HO241.out)) k_ hn_)), zj hk_ (fun hs_ => zj hs_ (fun hs_ => ((zk (zk (zk (zk (zn (zn (HO252.out) (Kd.N_typed HO244.out) (by decide)) (Kd.N_typed HO255.out) (by decide)) BK235.out (by decide)) BK236.out (by decide)) BK237.out (by decide)) BK263.out (by decide)).1 k_ hs_.symm).1.1.1.1.1.2) (fun hs_ => hs_.1.2.2.1)) (fun hn_ => (Kd.fresh' (Kd.N_lt (by (with_reducible repeat (first | apply ze | apply zo | apply zp)); exact HO244.out)) k_ hn_)), zj hk_ (fun hs_ => zj hs_ (fun hs_ => ((zk (zk (zk (zk (zn (zn (HO252.out) (Kd.N_typed HO244.out) (by decide)) (Kd.N_typed HO255.out) (by decide)) BK235.out (by decide)) BK236.out (by decide)) BK237.out (by decide)) BK263.out (by decide)).1 k_ hs_.symm).1.1.1.2) (fun hs_ => hs_.1.2.2.2.1)) (fun hn_ => (zl (g := gb235) (o := .cells #[.int .i64 a0_0, .int .i64 a0_1, .int .i64 a0_2, .int .i64 a0_3, .int .i64 a0_4] 23 (0, 0)) (by (with_reducible repeat (first | refine zL ?_ _ | refine zM ?_ | refine zJ ?_ _)); exact BK235.out) k_ hn_)), zj hk_ (fun hs_ => zj hs_ (fun hs_ => ((zk (zk (zk (zk (zn (zn (HO252.out) (Kd.N_typed HO244.out) (by decide)) (Kd.N_typed HO255.out) (by decide)) BK235.out (by decide)) BK236.out (by decide)) BK237.out (by decide)) BK263.out (by decide)).1 k_ hs_.symm).1.1.2) (fun hs_ => hs_.1.2.2.2.2.1)) (fun hn_ => (zl (g := gb236) (o := .cells #[.slice Ao19 t239.length co19, .slice Ao21 t242.length co21] 27 (0, 0)) (by (with_reducible repeat (first | refine zL ?_ _ | refine zM ?_ | refine zJ ?_ _)); exact BK236.out) k_ hn_)), zj hk_ (fun hs_ => zj hs_ (fun hs_ => ((zk (zk (zk (zk (zn (zn (HO252.out) (Kd.N_typed HO244.out) (by decide)) (Kd.N_typed HO255.out) (by decide)) BK235.out (by decide)) BK236.out (by decide)) BK237.out (by decide)) BK263.out (by decide)).1 k_ hs_.symm).1.2) (fun hs_ => hs_.1.2.2.2.2.2)) (fun hn_ => (zl (g := gb237) (o := .cells #[.int .i64 t245, .string t246, .string t247, .string t248, .int .i64 t249] 29 (0, 0)) (by (with_reducible repeat (first | refine zL ?_ _ | refine zM ?_ | refine zJ ?_ _)); exact BK237.out) k_ hn_)), zj hk_ (fun hs_ => zj hs_ (fun hs_ => ((zk (zk (zk (zk (zn (zn (HO252.out) (Kd.N_typed HO244.out) (by decide)) (Kd.N_typed HO255.out) (by decide)) BK235.out (by decide)) BK236.out (by decide)) BK237.out (by decide)) BK263.out (by decide)).1 k_ hs_.symm).2) (fun hs_ => hs_.2)) (fun hn_ => (zl (g := gb263) (o := .cells #[.slice none 0 0, .slice none 0 0] 39 (0, 0)) (by (with_reducible repeat (first | refine zL ?_ _ | refine zM ?_ | refine zJ ?_ _)); exact BK263.out) k_ hn_))⟩)) (zY (by repeat (first | (with_reducible first | exact HB.out | apply zF | apply zE | apply zG | refine zK ?_ GE235.out | refine zK ?_ GE236.out | refine zK ?_ GE237.out | refine zK ?_ GE263.out) | exact HB.out))))
          have n5_ := zX (Kd.V_lower (Kd.V_mono (ok' := fun k_ => some k_ ≠ (.slice Ao19 t239.length co19 : Value).ownBlock ∧ some k_ ≠ (.slice Ao21 t242.length co21 : Value).ownBlock ∧ k_ ≠ gb235 ∧ k_ ≠ gb236 ∧ k_ ≠ gb237 ∧ k_ ≠ gb263) ho1 (fun k_ hk_ => ⟨zj hk_ (fun hs_ => zj hs_ (fun hs_ => ((zk (zk (zk (zk (zn (zn (HO252.out) (Kd.N_typed HO244.out) (by decide)) (Kd.N_typed HO255.out) (by decide)) BK235.out (by decide)) BK236.out (by decide)) BK237.out (by decide)) BK263.out (by decide)).1 k_ hs_.symm).1.1.1.1.1.1.2) (fun hs_ => hs_.1.2.1)) (fun hn_ => (Kd.fresh' (Kd.R_lt (by (with_reducible repeat (first | apply za | apply zg | apply zh)); exact HO241.out)) k_ hn_)), zj hk_ (fun hs_ => zj hs_ (fun hs_ => ((zk (zk (zk (zk (zn (zn (HO252.out) (Kd.N_typed HO244.out) (by decide)) (Kd.N_typed HO255.out) (by decide)) BK235.out (by decide)) BK236.out (by decide)) BK237.out (by decide)) BK263.out (by decide)).1 k_ hs_.symm).1.1.1.1.1.2) (fun hs_ => hs_.1.2.2.1)) (fun hn_ => (Kd.fresh' (Kd.N_lt (by (with_reducible repeat (first | apply ze | apply zo | apply zp)); exact HO244.out)) k_ hn_)), zj hk_ (fun hs_ => zj hs_ (fun hs_ => ((zk (zk (zk (zk (zn (zn (HO252.out) (Kd.N_typed HO244.out) (by decide)) (Kd.N_typed HO255.out) (by decide)) BK235.out (by decide)) BK236.out (by decide)) BK237.out (by decide)) BK263.out (by decide)).1 k_ hs_.symm).1.1.1.2) (fun hs_ => hs_.1.2.2.2.1)) (fun hn_ => (zl (g := gb235) (o := .cells #[.int .i64 a0_0, .int .i64 a0_1, .int .i64 a0_2, .int .i64 a0_3, .int .i64 a0_4] 23 (0, 0)) (by (with_reducible repeat (first | refine zL ?_ _ | refine zM ?_ | refine zJ ?_ _)); exact BK235.out) k_ hn_)), zj hk_ (fun hs_ => zj hs_ (fun hs_ => ((zk (zk (zk (zk (zn (zn (HO252.out) (Kd.N_typed HO244.out) (by decide)) (Kd.N_typed HO255.out) (by decide)) BK235.out (by decide)) BK236.out (by decide)) BK237.out (by decide)) BK263.out (by decide)).1 k_ hs_.symm).1.1.2) (fun hs_ => hs_.1.2.2.2.2.1)) (fun hn_ => (zl (g := gb236) (o := .cells #[.slice Ao19 t239.length co19, .slice Ao21 t242.length co21] 27 (0, 0)) (by (with_reducible repeat (first | refine zL ?_ _ | refine zM ?_ | refine zJ ?_ _)); exact BK236.out) k_ hn_)), zj hk_ (fun hs_ => zj hs_ (fun hs_ => ((zk (zk (zk (zk (zn (zn (HO252.out) (Kd.N_typed HO244.out) (by decide)) (Kd.N_typed HO255.out) (by decide)) BK235.out (by decide)) BK236.out (by decide)) BK237.out (by decide)) BK263.out (by decide)).1 k_ hs_.symm).1.2) (fun hs_ => hs_.1.2.2.2.2.2)) (fun hn_ => (zl (g := gb237) (o := .cells #[.int .i64 t245, .string t246, .string t247, .string t248, .int .i64 t249] 29 (0, 0)) (by (with_reducible repeat (first | refine zL ?_ _ | refine zM ?_ | refine zJ ?_ _)); exact BK237.out) k_ hn_)), zj hk_ (fun hs_ => zj hs_ (fun hs_ => ((zk (zk (zk (zk (zn (zn (HO252.out) (Kd.N_typed HO244.out) (by decide)) (Kd.N_typed HO255.out) (by decide)) BK235.out (by decide)) BK236.out (by decide)) BK237.out (by decide)) BK263.out (by decide)).1 k_ hs_.symm).2) (fun hs_ => hs_.2)) (fun hn_ => (zl (g := gb263) (o := .cells #[.slice none 0 0, .slice none 0 0] 39 (0, 0)) (by (with_reducible repeat (first | refine zL ?_ _ | refine zM ?_ | refine zJ ?_ _)); exact BK263.out) k_ hn_))⟩)) (zY (by repeat (first | (with_reducible first | exact HB.out | apply zF | apply zE | apply zG | refine zK ?_ GE235.out | refine zK ?_ GE236.out | refine zK ?_ GE237.out | refine zK ?_ GE263.out) | exact HB.out))))
          have n6_ := zX (zm (g := gb235) (o := .cells #[.int .i64 a0_0, .int .i64 a0_1, .int .i64 a0_2, .int .i64 a0_3, .int .i64 a0_4] 23 (0, 0)) (by (with_reducible repeat (first | refine zL ?_ _ | refine zM ?_ | refine zJ ?_ _)); exact BK235.out) hb)
          have n7_ := zX (zm (g := gb236) (o := .cells #[.slice Ao19 t239.length co19, .slice Ao21 t242.length co21] 27 (0, 0)) (by (with_reducible repeat (first | refine zL ?_ _ | refine zM ?_ | refine zJ ?_ _)); exact BK236.out) hb)
          have n8_ := zX (zm (g := gb237) (o := .cells #[.int .i64 t245, .string t246, .string t247, .string t248, .int .i64 t249] 29 (0, 0)) (by (with_reducible repeat (first | refine zL ?_ _ | refine zM ?_ | refine zJ ?_ _)); exact BK237.out) hb)
          have n9_ := zX (zm (g := gb263) (o := .cells #[.slice none 0 0, .slice none 0 0] 39 (0, 0)) (by (with_reducible repeat (first | refine zL ?_ _ | refine zM ?_ | refine zJ ?_ _)); exact BK263.out) hb)
          have n10_ := zX (zT (by repeat (first | (with_reducible first | exact HB.out | apply zF | apply zE | apply zG | refine zK ?_ GE235.out | refine zK ?_ GE236.out | refine zK ?_ GE237.out | refine zK ?_ GE263.out) | exact HB.out)) hb)
          clear HO241
          clear HO244
          clear HO252
          clear HO255
          clear BK235
          clear BK236
          clear BK237
          clear BK263
          clear HB
          have HO241 := n0_
          have HO244 := n1_
          have HO252 := n2_
          have HO255 := n3_
          have HO258 := n4_
          have HO261 := n5_
          have BK235 := n6_
          have BK236 := n7_
          have BK237 := n8_
          have BK263 := n9_
          have HB := n10_
          clear n0_ n1_ n2_ n3_ n4_ n5_ n6_ n7_ n8_ n9_ n10_
          (try clear hb)
          (try clear hb2)
          (try clear hk)
          (try clear hi)
          (try clear ho0)
          (try clear ho1)
          refine hK.out _ _ ⟨(zH BK235.out 0).trans rfl, (zH BK235.out 1).trans rfl, (zH BK235.out 2).trans rfl, (zH BK235.out 3).trans rfl, (zH BK235.out 4).trans rfl, (zH BK236.out 0).trans rfl, (zH BK236.out 1).trans rfl, (zH BK237.out 0).trans rfl, (zH BK237.out 1).trans rfl, (zH BK237.out 2).trans rfl, (zH BK237.out 3).trans rfl, (zH BK237.out 4).trans rfl⟩ (fun hHeld => ?_)
          clear hK K
          refine norm_ (a' := ?_) ?_ ?_
          rotate_left
          · show Act.put _ (some 26) _ = _
            simp only [Act.put, zA, zC, zD, i64_w, i32_w]
            rfl
          refine pure_ (i := 5) (N := some 21) (v := ?_) (a' := ?_) #[true, true, true, true, true, true, false, false, true, false, false] rfl rfl (any_of HT_.out (by kernel_rfl)) (fun _ _ _ h => h) (Or.inl ⟨by rfl, ?_⟩) ?_ ?_
          rotate_left
          · intro w'
            go_simp
            with_reducible rfl
          rotate_left
          · simp only [Act.put, zA, zC, zD, i64_w, i32_w]
            rfl
          refine pure_ (i := 6) (N := some 27) (v := ?_) (a' := ?_) #[true, true, true, true, true, true, true, false, true, false, false] rfl rfl (any_of HT_.out (by kernel_rfl)) (fun _ _ _ h => h) (Or.inl ⟨by rfl, ?_⟩) ?_ ?_
          rotate_left
          · intro w'
            go_simp
            with_reducible rfl
          rotate_left
          · simp only [Act.put, zA, zC, zD, i64_w, i32_w]
            rfl
          refine pure_ (i := 7) (N := some 28) (v := ?_) (a' := ?_) #[true, true, true, true, true, true, true, true, true, false, false] rfl rfl (any_of HT_.out (by kernel_rfl)) (fun _ _ _ h => h) (Or.inl ⟨by rfl, ?_⟩) ?_ ?_
          rotate_left
          · intro w'
            go_simp
            with_reducible rfl
          rotate_left
          · simp only [Act.put, zA, zC, zD, i64_w, i32_w]
            rfl
          exact norm_ (by simp only [putAll, Act.put, zA, zC, zD]) (hCont (.slice Ao32 t250.length co32, .slice Ao33 t253.length co33, v257, v260, gb263) _ ⟨hHeld, (by (with_reducible repeat (first | apply za | apply zg | apply zh)); exact Kd.R_mono HO241.out (fun _ hk => hk.2)), (by (with_reducible repeat (first | apply ze | apply zo | apply zp)); exact Kd.N_mono HO244.out (fun _ hk => ⟨hk.1.1.1.1, ⟨hk.1.1.2, ⟨hk.1.2, ⟨hk.1.1.1.2.1, ⟨hk.1.1.1.2.2.1, ⟨hk.1.1.1.2.2.2, hk.2⟩⟩⟩⟩⟩⟩)), (by (with_reducible repeat (first | apply za | apply zg | apply zh)); exact Kd.R_mono HO252.out (fun _ hk => hk.2)), (by (with_reducible repeat (first | apply ze | apply zo | apply zp)); exact Kd.N_mono HO255.out (fun _ hk => ⟨hk.1.2.1, ⟨hk.1.2.2.1, ⟨hk.1.1, ⟨hk.1.2.2.2.1, ⟨hk.1.2.2.2.2.1, ⟨hk.1.2.2.2.2.2, hk.2⟩⟩⟩⟩⟩⟩)), (by (with_reducible repeat (first | apply zb | apply zc | apply zd)); exact HO258.out), (by (with_reducible repeat (first | apply zb | apply zc | apply zd)); exact HO261.out), (by (with_reducible repeat (first | refine zL ?_ _ | refine zM ?_ | refine zJ ?_ _)); exact BK235.out), (by (with_reducible repeat (first | refine zL ?_ _ | refine zM ?_ | refine zJ ?_ _)); exact BK236.out), (by (with_reducible repeat (first | refine zL ?_ _ | refine zM ?_ | refine zJ ?_ _)); exact BK237.out), (by (with_reducible repeat (first | refine zL ?_ _ | refine zM ?_ | refine zJ ?_ _)); exact BK263.out), GW263.out, GE263.out, NB235_263.out, NB263_235.out, NB236_263.out, NB263_236.out, NB237_263.out, NB263_237.out, (by repeat (first | (with_reducible first | exact HB.out | apply zF | apply zE | apply zG | refine zK ?_ GE235.out | refine zK ?_ GE236.out | refine zK ?_ GE237.out | refine zK ?_ GE263.out) | exact HB.out))⟩)
      · skip
        refine box_step ?hg (N := 9) ?hd (cs := #[.slice none 0 0, .slice none 0 0]) (t := 39) ?hr ?_; (case hd => rfl); (case hg => rfl); (case hr => first | (go_simp; done) | (go_simp; rfl))
        intro gb263 hg w30 hbox hb
        have n0_ := zX (Kd.R_below (by (with_reducible repeat (first | apply za | apply zg | apply zh)); exact HO241.out) hb)
        have n1_ := zX (Kd.N_below (Kd.N_elderB (by (with_reducible repeat (first | apply ze | apply zo | apply zp)); exact HO244.out) gb263 (Nat.le_of_eq hg.symm)) hb)
        have n2_ := zX (zm (g := gb235) (o := .cells #[.int .i64 a0_0, .int .i64 a0_1, .int .i64 a0_2, .int .i64 a0_3, .int .i64 a0_4] 23 (0, 0)) (by (with_reducible repeat (first | refine zL ?_ _ | refine zM ?_ | refine zJ ?_ _)); exact BK235.out) hb)
        have n3_ := zX (zm (g := gb236) (o := .cells #[.slice Ao19 t239.length co19, .slice Ao21 t242.length co21] 27 (0, 0)) (by (with_reducible repeat (first | refine zL ?_ _ | refine zM ?_ | refine zJ ?_ _)); exact BK236.out) hb)
        have n4_ := zX (zm (g := gb237) (o := .cells #[.int .i64 t245, .string t246, .string t247, .string t248, .int .i64 t249] 29 (0, 0)) (by (with_reducible repeat (first | refine zL ?_ _ | refine zM ?_ | refine zJ ?_ _)); exact BK237.out) hb)
        have n5_ := zX (zT (by repeat (first | (with_reducible first | exact HB.out | apply zF | apply zE | apply zG | refine zK ?_ GE235.out | refine zK ?_ GE236.out | refine zK ?_ GE237.out) | exact HB.out)) hb)
        have n6_ := zX (hbox)
        have n7_ := zX ((by rw [hg]; exact (zY (by repeat (first | (with_reducible first | exact HB.out | apply zF | apply zE | apply zG | refine zK ?_ GE235.out | refine zK ?_ GE236.out | refine zK ?_ GE237.out) | exact HB.out))) : w.heap.size ≤ gb263))
        have n8_ := zX ((by rw [hg]; exact (zY (by repeat (first | (with_reducible first | exact HB.out | apply zF | apply zE | apply zG | refine zK ?_ GE235.out | refine zK ?_ GE236.out | refine zK ?_ GE237.out) | exact HB.out))) : w.heap.size ≤ gb263))
        have n9_ := zX ((by rw [hg]; exact Nat.ne_of_lt (blk_lt (g := gb235) (o := .cells #[.int .i64 a0_0, .int .i64 a0_1, .int .i64 a0_2, .int .i64 a0_3, .int .i64 a0_4] 23 (0, 0)) (by (with_reducible repeat (first | refine zL ?_ _ | refine zM ?_ | refine zJ ?_ _)); exact BK235.out)) : gb235 ≠ gb263))
        have n10_ := zX ((by rw [hg]; exact Nat.ne_of_gt (blk_lt (g := gb235) (o := .cells #[.int .i64 a0_0, .int .i64 a0_1, .int .i64 a0_2, .int .i64 a0_3, .int .i64 a0_4] 23 (0, 0)) (by (with_reducible repeat (first | refine zL ?_ _ | refine zM ?_ | refine zJ ?_ _)); exact BK235.out)) : gb263 ≠ gb235))
        have n11_ := zX ((by rw [hg]; exact Nat.ne_of_lt (blk_lt (g := gb236) (o := .cells #[.slice Ao19 t239.length co19, .slice Ao21 t242.length co21] 27 (0, 0)) (by (with_reducible repeat (first | refine zL ?_ _ | refine zM ?_ | refine zJ ?_ _)); exact BK236.out)) : gb236 ≠ gb263))
        have n12_ := zX ((by rw [hg]; exact Nat.ne_of_gt (blk_lt (g := gb236) (o := .cells #[.slice Ao19 t239.length co19, .slice Ao21 t242.length co21] 27 (0, 0)) (by (with_reducible repeat (first | refine zL ?_ _ | refine zM ?_ | refine zJ ?_ _)); exact BK236.out)) : gb263 ≠ gb236))
        have n13_ := zX ((by rw [hg]; exact Nat.ne_of_lt (blk_lt (g := gb237) (o := .cells #[.int .i64 t245, .string t246, .string t247, .string t248, .int .i64 t249] 29 (0, 0)) (by (with_reducible repeat (first | refine zL ?_ _ | refine zM ?_ | refine zJ ?_ _)); exact BK237.out)) : gb237 ≠ gb263))
        have n14_ := zX ((by rw [hg]; exact Nat.ne_of_gt (blk_lt (g := gb237) (o := .cells #[.int .i64 t245, .string t246, .string t247, .string t248, .int .i64 t249] 29 (0, 0)) (by (with_reducible repeat (first | refine zL ?_ _ | refine zM ?_ | refine zJ ?_ _)); exact BK237.out)) : gb263 ≠ gb237))
        clear HO241
        clear HO244
        clear BK235
        clear BK236
        clear BK237
        clear HB
        have HO241 := n0_
        have HO244 := n1_
        have BK235 := n2_
        have BK236 := n3_
        have BK237 := n4_
        have HB := n5_
        have BK263 := n6_
        have GW263 := n7_
        have GE263 := n8_
        have NB235_263 := n9_
        have NB263_235 := n10_
        have NB236_263 := n11_
        have NB263_236 := n12_
        have NB237_263 := n13_
        have NB263_237 := n14_
        clear n0_ n1_ n2_ n3_ n4_ n5_ n6_ n7_ n8_ n9_ n10_ n11_ n12_ n13_ n14_
        clear hb hbox hg
        refine hK.out _ _ ⟨(zH BK235.out 0).trans rfl, (zH BK235.out 1).trans rfl, (zH BK235.out 2).trans rfl, (zH BK235.out 3).trans rfl, (zH BK235.out 4).trans rfl, (zH BK236.out 0).trans rfl, (zH BK236.out 1).trans rfl, (zH BK237.out 0).trans rfl, (zH BK237.out 1).trans rfl, (zH BK237.out 2).trans rfl, (zH BK237.out 3).trans rfl, (zH BK237.out 4).trans rfl⟩ (fun hHeld => ?_)
        clear hK K
        refine norm_ (a' := ?_) ?_ ?_
        rotate_left
        · show Act.put _ (some 9) _ = _
          simp only [Act.put, zA, zC, zD, i64_w, i32_w]
          rfl
        refine one_ (i := 2) (N := some 24) #[true, true, true, true, false, false, false, false, true, false, false] rfl rfl (one_of HT_.out (by kernel_rfl)) (by decide) (fun K hK => ?_)
        refine goes_ Tryd.func10 (by kernel_rfl) rfl #[.agg #[.slice Ao19 t239.length co19, .slice Ao21 t242.length co21]] (by rfl) rfl rfl (by (try simp only [zS, zU, zV]); first | done | rfl | (simp only [zO, zN]; rfl)) ?_
        with_reducible refine (boscagelaw31_Give.calls k _ _ t239 _ _ t242 t250 t253 _ ?side1 ?side2 ?side3 ?side4 A9.out).mono ?_
        (case side1 => repeat (first | exact (Kd.R_reads' HO241.out).2.2 | (with_reducible refine Kd.C_alloc ?_ _) | (with_reducible refine Kd.C_drewN ?_ _) | (with_reducible refine Kd.C_drew ?_)))
        (case side2 => exact (Kd.R_reads' HO241.out).2.1)
        (case side3 => repeat (first | exact (Kd.N_reads' HO244.out).2.2 | (with_reducible refine Kd.C_alloc ?_ _) | (with_reducible refine Kd.C_drewN ?_ _) | (with_reducible refine Kd.C_drew ?_)))
        (case side4 => exact (Kd.N_reads' HO244.out).2.1)
        rintro e w31 ⟨v251, v254, rfl, ho0, ho1, hb⟩
        refine ⟨_, rfl, ?_⟩
        have n0_ := zX (Kd.R_elder' (by (with_reducible repeat (first | apply za | apply zg | apply zh)); exact HO241.out) (Kd.R_base ho0) hb)
        have n1_ := zX (Kd.N_mono (Kd.N_told (Kd.N_told (Kd.N_old (by (with_reducible repeat (first | apply ze | apply zo | apply zp)); exact HO244.out) hb) (Kd.R_base ho0)) (Kd.N_base (Kd.S_N ho1))) (fun _ h_ => h_.1))
        have n2_ := zX (Kd.R_lower (Kd.R_new' ho0 (Kd.R_lt (by (with_reducible repeat (first | apply za | apply zg | apply zh)); exact HO241.out))) (zY (by repeat (first | (with_reducible first | exact HB.out | apply zF | apply zE | apply zG | refine zK ?_ GE235.out | refine zK ?_ GE236.out | refine zK ?_ GE237.out | refine zK ?_ GE263.out) | exact HB.out))))
        have n3_ := zX (Kd.N_lower (Kd.N_mono (ok' := fun k_ => some k_ ≠ (v251 : Value).ownBlock ∧ some k_ ≠ (.slice Ao19 t239.length co19 : Value).ownBlock ∧ some k_ ≠ (.slice Ao21 t242.length co21 : Value).ownBlock ∧ k_ ≠ gb235 ∧ k_ ≠ gb236 ∧ k_ ≠ gb237 ∧ k_ ≠ gb263) (Kd.S_N (Kd.S_bound ho1)) (fun k_ hk_ => ⟨hk_.1, (Kd.fresh' (Kd.R_lt (by (with_reducible repeat (first | apply za | apply zg | apply zh)); exact HO241.out)) k_ hk_.2.1), (Kd.fresh' (Kd.N_lt (by (with_reducible repeat (first | apply ze | apply zo | apply zp)); exact HO244.out)) k_ hk_.2.1), (zl (g := gb235) (o := .cells #[.int .i64 a0_0, .int .i64 a0_1, .int .i64 a0_2, .int .i64 a0_3, .int .i64 a0_4] 23 (0, 0)) (by (with_reducible repeat (first | refine zL ?_ _ | refine zM ?_ | refine zJ ?_ _)); exact BK235.out) k_ hk_.2.1), (zl (g := gb236) (o := .cells #[.slice Ao19 t239.length co19, .slice Ao21 t242.length co21] 27 (0, 0)) (by (with_reducible repeat (first | refine zL ?_ _ | refine zM ?_ | refine zJ ?_ _)); exact BK236.out) k_ hk_.2.1), (zl (g := gb237) (o := .cells #[.int .i64 t245, .string t246, .string t247, .string t248, .int .i64 t249] 29 (0, 0)) (by (with_reducible repeat (first | refine zL ?_ _ | refine zM ?_ | refine zJ ?_ _)); exact BK237.out) k_ hk_.2.1), (zl (g := gb263) (o := .cells #[.slice none 0 0, .slice none 0 0] 39 (0, 0)) (by (with_reducible repeat (first | refine zL ?_ _ | refine zM ?_ | refine zJ ?_ _)); exact BK263.out) k_ hk_.2.1)⟩)) (zY (by repeat (first | (with_reducible first | exact HB.out | apply zF | apply zE | apply zG | refine zK ?_ GE235.out | refine zK ?_ GE236.out | refine zK ?_ GE237.out | refine zK ?_ GE263.out) | exact HB.out))))
        have n4_ := zX (zm (g := gb235) (o := .cells #[.int .i64 a0_0, .int .i64 a0_1, .int .i64 a0_2, .int .i64 a0_3, .int .i64 a0_4] 23 (0, 0)) (by (with_reducible repeat (first | refine zL ?_ _ | refine zM ?_ | refine zJ ?_ _)); exact BK235.out) hb)
        have n5_ := zX (zm (g := gb236) (o := .cells #[.slice Ao19 t239.length co19, .slice Ao21 t242.length co21] 27 (0, 0)) (by (with_reducible repeat (first | refine zL ?_ _ | refine zM ?_ | refine zJ ?_ _)); exact BK236.out) hb)
        have n6_ := zX (zm (g := gb237) (o := .cells #[.int .i64 t245, .string t246, .string t247, .string t248, .int .i64 t249] 29 (0, 0)) (by (with_reducible repeat (first | refine zL ?_ _ | refine zM ?_ | refine zJ ?_ _)); exact BK237.out) hb)
        have n7_ := zX (zm (g := gb263) (o := .cells #[.slice none 0 0, .slice none 0 0] 39 (0, 0)) (by (with_reducible repeat (first | refine zL ?_ _ | refine zM ?_ | refine zJ ?_ _)); exact BK263.out) hb)
        have n8_ := zX (zT (by repeat (first | (with_reducible first | exact HB.out | apply zF | apply zE | apply zG | refine zK ?_ GE235.out | refine zK ?_ GE236.out | refine zK ?_ GE237.out | refine zK ?_ GE263.out) | exact HB.out)) hb)
        clear HO241
        clear HO244
        clear BK235
        clear BK236
        clear BK237
        clear BK263
        clear HB
        have HO241 := n0_
        have HO244 := n1_
        have HO252 := n2_
        have HO255 := n3_
        have BK235 := n4_
        have BK236 := n5_
        have BK237 := n6_
        have BK263 := n7_
        have HB := n8_
        clear n0_ n1_ n2_ n3_ n4_ n5_ n6_ n7_ n8_
        (try clear hb)
        (try clear hb2)
        (try clear hk)
        (try clear hi)
        (try clear ho0)
        (try clear ho1)
        obtain ⟨Ao32, co32, eo32⟩ := Kd.R_slice HO252.out
        (first | subst eo32 | (injection eo32 with f1_ f2_ f3_; have f4_ := f1_.symm; have f5_ := f3_.symm; clear f1_ f2_ f3_; subst f4_; subst f5_))
        obtain ⟨Ao33, co33, eo33⟩ := Kd.N_slice HO255.out
        (first | subst eo33 | (injection eo33 with f1_ f2_ f3_; have f4_ := f1_.symm; have f5_ := f3_.symm; clear f1_ f2_ f3_; subst f4_; subst f5_))
        refine hK.out _ _ ⟨(zH BK235.out 0).trans rfl, (zH BK235.out 1).trans rfl, (zH BK235.out 2).trans rfl, (zH BK235.out 3).trans rfl, (zH BK235.out 4).trans rfl, (zH BK236.out 0).trans rfl, (zH BK236.out 1).trans rfl, (zH BK237.out 0).trans rfl, (zH BK237.out 1).trans rfl, (zH BK237.out 2).trans rfl, (zH BK237.out 3).trans rfl, (zH BK237.out 4).trans rfl⟩ (fun hHeld => ?_)
        clear hK K
        refine norm_ (a' := ?_) ?_ ?_
        rotate_left
        · show Act.put _ (some 24) _ = _
          simp only [Act.put, zA, zC, zD, i64_w, i32_w]
          rfl
        refine one_ (i := 4) (N := some 26) #[true, true, true, true, true, false, false, false, true, false, false] rfl rfl (one_of HT_.out (by kernel_rfl)) (by decide) (fun K hK => ?_)
        refine goes_ Tryd.func12 (by kernel_rfl) rfl #[.agg #[.int .i64 a0_0, .int .i64 a0_1, .int .i64 a0_2, .int .i64 a0_3, .int .i64 a0_4], .agg #[.slice Ao32 t250.length co32, .slice Ao33 t253.length co33], .agg #[.int .i64 t245, .string t246, .string t247, .string t248, .int .i64 t249]] (by rfl) rfl rfl (by (try simp only [zS, zU, zV]); first | done | rfl | (simp only [zO, zN]; rfl)) ?_
        with_reducible refine (model_After.calls k a0_0 a0_1 a0_2 a0_3 a0_4 (fun k_ => some k_ = (.slice Ao32 t250.length co32 : Value).ownBlock) _ _ t250 (fun k_ => (some k_ ≠ (.slice Ao32 t250.length co32 : Value).ownBlock ∧ (some k_ ≠ (.slice Ao19 t239.length co19 : Value).ownBlock ∧ (some k_ ≠ (.slice Ao21 t242.length co21 : Value).ownBlock ∧ (k_ ≠ gb235 ∧ (k_ ≠ gb236 ∧ (k_ ≠ gb237 ∧ k_ ≠ gb263))))))) _ _ t253 t245 t246 t247 t248 t249 t256 t259 t262 _ ?side1 ?side2 ?side3 A10.out).mono ?_
        (case side1 => exact Kd.R_V (Kd.R_tight rfl (zk (zk (zk (zk (zn (zn (HO252.out) (Kd.N_typed HO244.out) (by decide)) (Kd.N_typed HO255.out) (by decide)) BK235.out (by decide)) BK236.out (by decide)) BK237.out (by decide)) BK263.out (by decide))))
        (case side2 => exact Kd.N_V (HO255.out))
        (case side3 => exact laidU_below HLAID.out (by repeat (first | (with_reducible first | exact HB.out | apply zF | apply zE | apply zG | refine zK ?_ GE235.out | refine zK ?_ GE236.out | refine zK ?_ GE237.out | refine zK ?_ GE263.out) | exact HB.out)))
        rintro e w34 ⟨v257, v260, rfl, ho0, ho1, hb⟩
        refine ⟨_, rfl, ?_⟩
        have n0_ := zX (Kd.R_below (by (with_reducible repeat (first | apply za | apply zg | apply zh)); exact HO241.out) hb)
        have n1_ := zX (Kd.N_below (by (with_reducible repeat (first | apply ze | apply zo | apply zp)); exact HO244.out) hb)
        have n2_ := zX (Kd.R_below (by (with_reducible repeat (first | apply za | apply zg | apply zh)); exact HO252.out) hb)
        have n3_ := zX (Kd.N_below (by (with_reducible repeat (first | apply ze | apply zo | apply zp)); exact HO255.out) hb)
        have n4_ := zX (Kd.V_lower (Kd.V_mono (ok' := fun k_ => some k_ ≠ (.slice Ao19 t239.length co19 : Value).ownBlock ∧ some k_ ≠ (.slice Ao21 t242.length co21 : Value).ownBlock ∧ k_ ≠ gb235 ∧ k_ ≠ gb236 ∧ k_ ≠ gb237 ∧ k_ ≠ gb263) ho0 (fun k_ hk_ => ⟨zj hk_ (fun hs_ => zj hs_ (fun hs_ => ((zk (zk (zk (zk (zn (zn (HO252.out) (Kd.N_typed HO244.out) (by decide)) (Kd.N_typed HO255.out) (by decide)) BK235.out (by decide)) BK236.out (by decide)) BK237.out (by decide)) BK263.out (by decide)).1 k_ hs_.symm).1.1.1.1.1.1.2) (fun hs_ => hs_.2.1)) (fun hn_ => (Kd.fresh' (Kd.R_lt (by (with_reducible repeat (first | apply za | apply zg | apply zh)); exact HO241.out)) k_ hn_)), zj hk_ (fun hs_ => zj hs_ (fun hs_ => ((zk (zk (zk (zk (zn (zn (HO252.out) (Kd.N_typed HO244.out) (by decide)) (Kd.N_typed HO255.out) (by decide)) BK235.out (by decide)) BK236.out (by decide)) BK237.out (by decide)) BK263.out (by decide)).1 k_ hs_.symm).1.1.1.1.1.2) (fun hs_ => hs_.2.2.1)) (fun hn_ => (Kd.fresh' (Kd.N_lt (by (with_reducible repeat (first | apply ze | apply zo | apply zp)); exact HO244.out)) k_ hn_)), zj hk_ (fun hs_ => zj hs_ (fun hs_ => ((zk (zk (zk (zk (zn (zn (HO252.out) (Kd.N_typed HO244.out) (by decide)) (Kd.N_typed HO255.out) (by decide)) BK235.out (by decide)) BK236.out (by decide)) BK237.out (by decide)) BK263.out (by decide)).1 k_ hs_.symm).1.1.1.2) (fun hs_ => hs_.2.2.2.1)) (fun hn_ => (zl (g := gb235) (o := .cells #[.int .i64 a0_0, .int .i64 a0_1, .int .i64 a0_2, .int .i64 a0_3, .int .i64 a0_4] 23 (0, 0)) (by (with_reducible repeat (first | refine zL ?_ _ | refine zM ?_ | refine zJ ?_ _)); exact BK235.out) k_ hn_)), zj hk_ (fun hs_ => zj hs_ (fun hs_ => ((zk (zk (zk (zk (zn (zn (HO252.out) (Kd.N_typed HO244.out) (by decide)) (Kd.N_typed HO255.out) (by decide)) BK235.out (by decide)) BK236.out (by decide)) BK237.out (by decide)) BK263.out (by decide)).1 k_ hs_.symm).1.1.2) (fun hs_ => hs_.2.2.2.2.1)) (fun hn_ => (zl (g := gb236) (o := .cells #[.slice Ao19 t239.length co19, .slice Ao21 t242.length co21] 27 (0, 0)) (by (with_reducible repeat (first | refine zL ?_ _ | refine zM ?_ | refine zJ ?_ _)); exact BK236.out) k_ hn_)), zj hk_ (fun hs_ => zj hs_ (fun hs_ => ((zk (zk (zk (zk (zn (zn (HO252.out) (Kd.N_typed HO244.out) (by decide)) (Kd.N_typed HO255.out) (by decide)) BK235.out (by decide)) BK236.out (by decide)) BK237.out (by decide)) BK263.out (by decide)).1 k_ hs_.symm).1.2) (fun hs_ => hs_.2.2.2.2.2.1)) (fun hn_ => (zl (g := gb237) (o := .cells #[.int .i64 t245, .string t246, .string t247, .string t248, .int .i64 t249] 29 (0, 0)) (by (with_reducible repeat (first | refine zL ?_ _ | refine zM ?_ | refine zJ ?_ _)); exact BK237.out) k_ hn_)), zj hk_ (fun hs_ => zj hs_ (fun hs_ => ((zk (zk (zk (zk (zn (zn (HO252.out) (Kd.N_typed HO244.out) (by decide)) (Kd.N_typed HO255.out) (by decide)) BK235.out (by decide)) BK236.out (by decide)) BK237.out (by decide)) BK263.out (by decide)).1 k_ hs_.symm).2) (fun hs_ => hs_.2.2.2.2.2.2)) (fun hn_ => (zl (g := gb263) (o := .cells #[.slice none 0 0, .slice none 0 0] 39 (0, 0)) (by (with_reducible repeat (first | refine zL ?_ _ | refine zM ?_ | refine zJ ?_ _)); exact BK263.out) k_ hn_))⟩)) (zY (by repeat (first | (with_reducible first | exact HB.out | apply zF | apply zE | apply zG | refine zK ?_ GE235.out | refine zK ?_ GE236.out | refine zK ?_ GE237.out | refine zK ?_ GE263.out) | exact HB.out))))
        have n5_ := zX (Kd.V_lower (Kd.V_mono (ok' := fun k_ => some k_ ≠ (.slice Ao19 t239.length co19 : Value).ownBlock ∧ some k_ ≠ (.slice Ao21 t242.length co21 : Value).ownBlock ∧ k_ ≠ gb235 ∧ k_ ≠ gb236 ∧ k_ ≠ gb237 ∧ k_ ≠ gb263) ho1 (fun k_ hk_ => ⟨zj hk_ (fun hs_ => zj hs_ (fun hs_ => ((zk (zk (zk (zk (zn (zn (HO252.out) (Kd.N_typed HO244.out) (by decide)) (Kd.N_typed HO255.out) (by decide)) BK235.out (by decide)) BK236.out (by decide)) BK237.out (by decide)) BK263.out (by decide)).1 k_ hs_.symm).1.1.1.1.1.1.2) (fun hs_ => hs_.2.1)) (fun hn_ => (Kd.fresh' (Kd.R_lt (by (with_reducible repeat (first | apply za | apply zg | apply zh)); exact HO241.out)) k_ hn_)), zj hk_ (fun hs_ => zj hs_ (fun hs_ => ((zk (zk (zk (zk (zn (zn (HO252.out) (Kd.N_typed HO244.out) (by decide)) (Kd.N_typed HO255.out) (by decide)) BK235.out (by decide)) BK236.out (by decide)) BK237.out (by decide)) BK263.out (by decide)).1 k_ hs_.symm).1.1.1.1.1.2) (fun hs_ => hs_.2.2.1)) (fun hn_ => (Kd.fresh' (Kd.N_lt (by (with_reducible repeat (first | apply ze | apply zo | apply zp)); exact HO244.out)) k_ hn_)), zj hk_ (fun hs_ => zj hs_ (fun hs_ => ((zk (zk (zk (zk (zn (zn (HO252.out) (Kd.N_typed HO244.out) (by decide)) (Kd.N_typed HO255.out) (by decide)) BK235.out (by decide)) BK236.out (by decide)) BK237.out (by decide)) BK263.out (by decide)).1 k_ hs_.symm).1.1.1.2) (fun hs_ => hs_.2.2.2.1)) (fun hn_ => (zl (g := gb235) (o := .cells #[.int .i64 a0_0, .int .i64 a0_1, .int .i64 a0_2, .int .i64 a0_3, .int .i64 a0_4] 23 (0, 0)) (by (with_reducible repeat (first | refine zL ?_ _ | refine zM ?_ | refine zJ ?_ _)); exact BK235.out) k_ hn_)), zj hk_ (fun hs_ => zj hs_ (fun hs_ => ((zk (zk (zk (zk (zn (zn (HO252.out) (Kd.N_typed HO244.out) (by decide)) (Kd.N_typed HO255.out) (by decide)) BK235.out (by decide)) BK236.out (by decide)) BK237.out (by decide)) BK263.out (by decide)).1 k_ hs_.symm).1.1.2) (fun hs_ => hs_.2.2.2.2.1)) (fun hn_ => (zl (g := gb236) (o := .cells #[.slice Ao19 t239.length co19, .slice Ao21 t242.length co21] 27 (0, 0)) (by (with_reducible repeat (first | refine zL ?_ _ | refine zM ?_ | refine zJ ?_ _)); exact BK236.out) k_ hn_)), zj hk_ (fun hs_ => zj hs_ (fun hs_ => ((zk (zk (zk (zk (zn (zn (HO252.out) (Kd.N_typed HO244.out) (by decide)) (Kd.N_typed HO255.out) (by decide)) BK235.out (by decide)) BK236.out (by decide)) BK237.out (by decide)) BK263.out (by decide)).1 k_ hs_.symm).1.2) (fun hs_ => hs_.2.2.2.2.2.1)) (fun hn_ => (zl (g := gb237) (o := .cells #[.int .i64 t245, .string t246, .string t247, .string t248, .int .i64 t249] 29 (0, 0)) (by (with_reducible repeat (first | refine zL ?_ _ | refine zM ?_ | refine zJ ?_ _)); exact BK237.out) k_ hn_)), zj hk_ (fun hs_ => zj hs_ (fun hs_ => ((zk (zk (zk (zk (zn (zn (HO252.out) (Kd.N_typed HO244.out) (by decide)) (Kd.N_typed HO255.out) (by decide)) BK235.out (by decide)) BK236.out (by decide)) BK237.out (by decide)) BK263.out (by decide)).1 k_ hs_.symm).2) (fun hs_ => hs_.2.2.2.2.2.2)) (fun hn_ => (zl (g := gb263) (o := .cells #[.slice none 0 0, .slice none 0 0] 39 (0, 0)) (by (with_reducible repeat (first | refine zL ?_ _ | refine zM ?_ | refine zJ ?_ _)); exact BK263.out) k_ hn_))⟩)) (zY (by repeat (first | (with_reducible first | exact HB.out | apply zF | apply zE | apply zG | refine zK ?_ GE235.out | refine zK ?_ GE236.out | refine zK ?_ GE237.out | refine zK ?_ GE263.out) | exact HB.out))))
        have n6_ := zX (zm (g := gb235) (o := .cells #[.int .i64 a0_0, .int .i64 a0_1, .int .i64 a0_2, .int .i64 a0_3, .int .i64 a0_4] 23 (0, 0)) (by (with_reducible repeat (first | refine zL ?_ _ | refine zM ?_ | refine zJ ?_ _)); exact BK235.out) hb)
        have n7_ := zX (zm (g := gb236) (o := .cells #[.slice Ao19 t239.length co19, .slice Ao21 t242.length co21] 27 (0, 0)) (by (with_reducible repeat (first | refine zL ?_ _ | refine zM ?_ | refine zJ ?_ _)); exact BK236.out) hb)
        have n8_ := zX (zm (g := gb237) (o := .cells #[.int .i64 t245, .string t246, .string t247, .string t248, .int .i64 t249] 29 (0, 0)) (by (with_reducible repeat (first | refine zL ?_ _ | refine zM ?_ | refine zJ ?_ _)); exact BK237.out) hb)
        have n9_ := zX (zm (g := gb263) (o := .cells #[.slice none 0 0, .slice none 0 0] 39 (0, 0)) (by (with_reducible repeat (first | refine zL ?_ _ | refine zM ?_ | refine zJ ?_ _)); exact BK263.out) hb)
        have n10_ := zX (zT (by repeat (first | (with_reducible first | exact HB.out | apply zF | apply zE | apply zG | refine zK ?_ GE235.out | refine zK ?_ GE236.out | refine zK ?_ GE237.out | refine zK ?_ GE263.out) | exact HB.out)) hb)
        clear HO241
        clear HO244
        clear HO252
        clear HO255
        clear BK235
        clear BK236
        clear BK237
        clear BK263
        clear HB
        have HO241 := n0_
        have HO244 := n1_
        have HO252 := n2_
        have HO255 := n3_
        have HO258 := n4_
        have HO261 := n5_
        have BK235 := n6_
        have BK236 := n7_
        have BK237 := n8_
        have BK263 := n9_
        have HB := n10_
        clear n0_ n1_ n2_ n3_ n4_ n5_ n6_ n7_ n8_ n9_ n10_
        (try clear hb)
        (try clear hb2)
        (try clear hk)
        (try clear hi)
        (try clear ho0)
        (try clear ho1)
        refine hK.out _ _ ⟨(zH BK235.out 0).trans rfl, (zH BK235.out 1).trans rfl, (zH BK235.out 2).trans rfl, (zH BK235.out 3).trans rfl, (zH BK235.out 4).trans rfl, (zH BK236.out 0).trans rfl, (zH BK236.out 1).trans rfl, (zH BK237.out 0).trans rfl, (zH BK237.out 1).trans rfl, (zH BK237.out 2).trans rfl, (zH BK237.out 3).trans rfl, (zH BK237.out 4).trans rfl⟩ (fun hHeld => ?_)
        clear hK K
        refine norm_ (a' := ?_) ?_ ?_
        rotate_left
        · show Act.put _ (some 26) _ = _
          simp only [Act.put, zA, zC, zD, i64_w, i32_w]
          rfl
        refine pure_ (i := 5) (N := some 21) (v := ?_) (a' := ?_) #[true, true, true, true, true, true, false, false, true, false, false] rfl rfl (any_of HT_.out (by kernel_rfl)) (fun _ _ _ h => h) (Or.inl ⟨by rfl, ?_⟩) ?_ ?_
        rotate_left
        · intro w'
          go_simp
          with_reducible rfl
        rotate_left
        · simp only [Act.put, zA, zC, zD, i64_w, i32_w]
          rfl
        refine pure_ (i := 6) (N := some 27) (v := ?_) (a' := ?_) #[true, true, true, true, true, true, true, false, true, false, false] rfl rfl (any_of HT_.out (by kernel_rfl)) (fun _ _ _ h => h) (Or.inl ⟨by rfl, ?_⟩) ?_ ?_
        rotate_left
        · intro w'
          go_simp
          with_reducible rfl
        rotate_left
        · simp only [Act.put, zA, zC, zD, i64_w, i32_w]
          rfl
        refine pure_ (i := 7) (N := some 28) (v := ?_) (a' := ?_) #[true, true, true, true, true, true, true, true, true, false, false] rfl rfl (any_of HT_.out (by kernel_rfl)) (fun _ _ _ h => h) (Or.inl ⟨by rfl, ?_⟩) ?_ ?_
        rotate_left
        · intro w'
          go_simp
          with_reducible rfl
        rotate_left
        · simp only [Act.put, zA, zC, zD, i64_w, i32_w]
          rfl
        exact norm_ (by simp only [putAll, Act.put, zA, zC, zD]) (hCont (.slice Ao32 t250.length co32, .slice Ao33 t253.length co33, v257, v260, gb263) _ ⟨hHeld, (by (with_reducible repeat (first | apply za | apply zg | apply zh)); exact Kd.R_mono HO241.out (fun _ hk => hk.2)), (by (with_reducible repeat (first | apply ze | apply zo | apply zp)); exact Kd.N_mono HO244.out (fun _ hk => ⟨hk.1.1.1.1, ⟨hk.1.2, ⟨hk.2, ⟨hk.1.1.1.2.1, ⟨hk.1.1.1.2.2.1, ⟨hk.1.1.1.2.2.2, hk.1.1.2⟩⟩⟩⟩⟩⟩)), (by (with_reducible repeat (first | apply za | apply zg | apply zh)); exact Kd.R_mono HO252.out (fun _ hk => hk.2)), (by (with_reducible repeat (first | apply ze | apply zo | apply zp)); exact Kd.N_mono HO255.out (fun _ hk => ⟨hk.2.1, ⟨hk.2.2.1, ⟨hk.1, ⟨hk.2.2.2.1, ⟨hk.2.2.2.2.1, ⟨hk.2.2.2.2.2.1, hk.2.2.2.2.2.2⟩⟩⟩⟩⟩⟩)), (by (with_reducible repeat (first | apply zb | apply zc | apply zd)); exact HO258.out), (by (with_reducible repeat (first | apply zb | apply zc | apply zd)); exact HO261.out), (by (with_reducible repeat (first | refine zL ?_ _ | refine zM ?_ | refine zJ ?_ _)); exact BK235.out), (by (with_reducible repeat (first | refine zL ?_ _ | refine zM ?_ | refine zJ ?_ _)); exact BK236.out), (by (with_reducible repeat (first | refine zL ?_ _ | refine zM ?_ | refine zJ ?_ _)); exact BK237.out), (by (with_reducible repeat (first | refine zL ?_ _ | refine zM ?_ | refine zJ ?_ _)); exact BK263.out), GW263.out, GE263.out, NB235_263.out, NB263_235.out, NB236_263.out, NB263_236.out, NB237_263.out, NB263_237.out, (by repeat (first | (with_reducible first | exact HB.out | apply zF | apply zE | apply zG | refine zK ?_ GE235.out | refine zK ?_ GE236.out | refine zK ?_ GE237.out | refine zK ?_ GE263.out) | exact HB.out))⟩)
    rintro ⟨v251, v254, v257, v260, gb263⟩ w35 ⟨hS_, h0_, h1_, h2_, h3_, h4_, h5_, h6_, h7_, h8_, h9_, h10_, h11_, h12_, h13_, h14_, h15_, h16_, h17_, h18_⟩
    have n0_ : Aside0 (Kd.R k65 65 w35 w.heap.size (fun k_ => some k_ ≠ (v251 : Value).ownBlock) (.slice Ao19 t239.length co19) t239) := ⟨h0_⟩
    have n1_ : Aside0 (Kd.N k61 61 w35 w.heap.size (fun k_ => some k_ ≠ (.slice Ao19 t239.length co19 : Value).ownBlock ∧ some k_ ≠ (v251 : Value).ownBlock ∧ some k_ ≠ (v254 : Value).ownBlock ∧ k_ ≠ gb235 ∧ k_ ≠ gb236 ∧ k_ ≠ gb237 ∧ k_ ≠ gb263) (.slice Ao21 t242.length co21) t242) := ⟨h1_⟩
    have n2_ : Aside0 (Kd.R k65 65 w35 w.heap.size (fun k_ => some k_ ≠ (.slice Ao19 t239.length co19 : Value).ownBlock) v251 t250) := ⟨h2_⟩
    have n3_ : Aside0 (Kd.N k72 72 w35 w.heap.size (fun k_ => some k_ ≠ (.slice Ao19 t239.length co19 : Value).ownBlock ∧ some k_ ≠ (.slice Ao21 t242.length co21 : Value).ownBlock ∧ some k_ ≠ (v251 : Value).ownBlock ∧ k_ ≠ gb235 ∧ k_ ≠ gb236 ∧ k_ ≠ gb237 ∧ k_ ≠ gb263) v254 t253) := ⟨h3_⟩
    have n4_ : Aside0 (Kd.V k65 65 w35 w.heap.size (fun k_ => some k_ ≠ (.slice Ao19 t239.length co19 : Value).ownBlock ∧ some k_ ≠ (.slice Ao21 t242.length co21 : Value).ownBlock ∧ k_ ≠ gb235 ∧ k_ ≠ gb236 ∧ k_ ≠ gb237 ∧ k_ ≠ gb263) v257 t256) := ⟨h4_⟩
    have n5_ : Aside0 (Kd.V k72 72 w35 w.heap.size (fun k_ => some k_ ≠ (.slice Ao19 t239.length co19 : Value).ownBlock ∧ some k_ ≠ (.slice Ao21 t242.length co21 : Value).ownBlock ∧ k_ ≠ gb235 ∧ k_ ≠ gb236 ∧ k_ ≠ gb237 ∧ k_ ≠ gb263) v260 t259) := ⟨h5_⟩
    have n6_ : Aside0 (w35.heap[gb235]? = some (.cells #[.int .i64 a0_0, .int .i64 a0_1, .int .i64 a0_2, .int .i64 a0_3, .int .i64 a0_4] 23 (0, 0))) := ⟨h6_⟩
    have n7_ : Aside0 (w35.heap[gb236]? = some (.cells #[.slice Ao19 t239.length co19, .slice Ao21 t242.length co21] 27 (0, 0))) := ⟨h7_⟩
    have n8_ : Aside0 (w35.heap[gb237]? = some (.cells #[.int .i64 t245, .string t246, .string t247, .string t248, .int .i64 t249] 29 (0, 0))) := ⟨h8_⟩
    have n9_ : Aside0 (w35.heap[gb263]? = some (.cells #[.slice none 0 0, .slice none 0 0] 39 (0, 0))) := ⟨h9_⟩
    have n10_ : Aside0 (w.heap.size ≤ gb263) := ⟨h10_⟩
    have n11_ : Aside0 (w.heap.size ≤ gb263) := ⟨h11_⟩
    have n12_ : Aside0 (gb235 ≠ gb263) := ⟨h12_⟩
    have n13_ : Aside0 (gb263 ≠ gb235) := ⟨h13_⟩
    have n14_ : Aside0 (gb236 ≠ gb263) := ⟨h14_⟩
    have n15_ : Aside0 (gb263 ≠ gb236) := ⟨h15_⟩
    have n16_ : Aside0 (gb237 ≠ gb263) := ⟨h16_⟩
    have n17_ : Aside0 (gb263 ≠ gb237) := ⟨h17_⟩
    have n18_ : Aside0 (Below w.heap.size w w35) := ⟨h18_⟩
    clear HO241
    clear HO244
    clear BK235
    clear BK236
    clear BK237
    clear HB
    clear h0_ h1_ h2_ h3_ h4_ h5_ h6_ h7_ h8_ h9_ h10_ h11_ h12_ h13_ h14_ h15_ h16_ h17_ h18_
    have HO241 := n0_
    have HO244 := n1_
    have HO252 := n2_
    have HO255 := n3_
    have HO258 := n4_
    have HO261 := n5_
    have BK235 := n6_
    have BK236 := n7_
    have BK237 := n8_
    have BK263 := n9_
    have GW263 := n10_
    have GE263 := n11_
    have NB235_263 := n12_
    have NB263_235 := n13_
    have NB236_263 := n14_
    have NB263_236 := n15_
    have NB237_263 := n16_
    have NB263_237 := n17_
    have HB := n18_
    clear n0_ n1_ n2_ n3_ n4_ n5_ n6_ n7_ n8_ n9_ n10_ n11_ n12_ n13_ n14_ n15_ n16_ n17_ n18_
    have hHeld : w35.cell? ⟨gb235, 0, none⟩ = some (.int .i64 a0_0) ∧ w35.cell? ⟨gb235, 1, none⟩ = some (.int .i64 a0_1) ∧ w35.cell? ⟨gb235, 2, none⟩ = some (.int .i64 a0_2) ∧ w35.cell? ⟨gb235, 3, none⟩ = some (.int .i64 a0_3) ∧ w35.cell? ⟨gb235, 4, none⟩ = some (.int .i64 a0_4) ∧ w35.cell? ⟨gb236, 0, none⟩ = some (.slice Ao19 t239.length co19) ∧ w35.cell? ⟨gb236, 1, none⟩ = some (.slice Ao21 t242.length co21) ∧ w35.cell? ⟨gb237, 0, none⟩ = some (.int .i64 t245) ∧ w35.cell? ⟨gb237, 1, none⟩ = some (.string t246) ∧ w35.cell? ⟨gb237, 2, none⟩ = some (.string t247) ∧ w35.cell? ⟨gb237, 3, none⟩ = some (.string t248) ∧ w35.cell? ⟨gb237, 4, none⟩ = some (.int .i64 t249) := hS_
    obtain ⟨Ao36, co36, eo36⟩ := Kd.V_slice HO258.out
    (first | subst eo36 | (injection eo36 with f1_ f2_ f3_; have f4_ := f1_.symm; have f5_ := f3_.symm; clear f1_ f2_ f3_; subst f4_; subst f5_))
    obtain ⟨Ao38, co38, eo38⟩ := Kd.V_slice HO261.out
    (first | subst eo38 | (injection eo38 with f1_ f2_ f3_; have f4_ := f1_.symm; have f5_ := f3_.symm; clear f1_ f2_ f3_; subst f4_; subst f5_))
    refine norm_ (a' := ?_) ?_ ?_
    rotate_left
    · simp only [putAll, Act.put, zA, zC, zD]
      rfl
    refine one_ (i := 9) (N := none) #[true, true, true, true, true, true, true, true, true, true, false] rfl rfl (one_of HT_.out (by kernel_rfl)) (by decide) (fun K hK => ?_)
    have hs37 : w35.cell? ⟨gb263, 0, none⟩ = some (.slice none 0 0) := (zH BK263.out 0).trans rfl
    have hfs37 := zI BK263.out 0
    have hns37_0 := NB235_263.out
    have hns37_1 := NB236_263.out
    have hns37_2 := NB237_263.out
    have hms37_0 := NB263_235.out
    have hms37_1 := NB263_236.out
    have hms37_2 := NB263_237.out
    have hs39 : w35.cell? ⟨gb263, 1, none⟩ = some (.slice none 0 0) := (zH BK263.out 1).trans rfl
    have hfs39 := zI BK263.out 1
    have hns39_0 := NB235_263.out
    have hns39_1 := NB236_263.out
    have hns39_2 := NB237_263.out
    have hms39_0 := NB263_235.out
    have hms39_1 := NB263_236.out
    have hms39_2 := NB263_237.out
    refine skip_ (w1 := ?_) (by rfl) rfl ?_ ?_
    rotate_left
    · go_simp
      rfl
    refine hK.out _ _ ⟨((cell_far (p := ⟨gb263, _, none⟩) NB235_263.out _).trans (((cell_far (p := ⟨gb263, _, none⟩) NB235_263.out _).trans (hHeld.1)))), ((cell_far (p := ⟨gb263, _, none⟩) NB235_263.out _).trans (((cell_far (p := ⟨gb263, _, none⟩) NB235_263.out _).trans (hHeld.2.1)))), ((cell_far (p := ⟨gb263, _, none⟩) NB235_263.out _).trans (((cell_far (p := ⟨gb263, _, none⟩) NB235_263.out _).trans (hHeld.2.2.1)))), ((cell_far (p := ⟨gb263, _, none⟩) NB235_263.out _).trans (((cell_far (p := ⟨gb263, _, none⟩) NB235_263.out _).trans (hHeld.2.2.2.1)))), ((cell_far (p := ⟨gb263, _, none⟩) NB235_263.out _).trans (((cell_far (p := ⟨gb263, _, none⟩) NB235_263.out _).trans (hHeld.2.2.2.2.1)))), ((cell_far (p := ⟨gb263, _, none⟩) NB236_263.out _).trans (((cell_far (p := ⟨gb263, _, none⟩) NB236_263.out _).trans (hHeld.2.2.2.2.2.1)))), ((cell_far (p := ⟨gb263, _, none⟩) NB236_263.out _).trans (((cell_far (p := ⟨gb263, _, none⟩) NB236_263.out _).trans (hHeld.2.2.2.2.2.2.1)))), ((cell_far (p := ⟨gb263, _, none⟩) NB237_263.out _).trans (((cell_far (p := ⟨gb263, _, none⟩) NB237_263.out _).trans (hHeld.2.2.2.2.2.2.2.1)))), ((cell_far (p := ⟨gb263, _, none⟩) NB237_263.out _).trans (((cell_far (p := ⟨gb263, _, none⟩) NB237_263.out _).trans (hHeld.2.2.2.2.2.2.2.2.1)))), ((cell_far (p := ⟨gb263, _, none⟩) NB237_263.out _).trans (((cell_far (p := ⟨gb263, _, none⟩) NB237_263.out _).trans (hHeld.2.2.2.2.2.2.2.2.2.1)))), ((cell_far (p := ⟨gb263, _, none⟩) NB237_263.out _).trans (((cell_far (p := ⟨gb263, _, none⟩) NB237_263.out _).trans (hHeld.2.2.2.2.2.2.2.2.2.2.1)))), ((cell_far (p := ⟨gb263, _, none⟩) NB237_263.out _).trans (((cell_far (p := ⟨gb263, _, none⟩) NB237_263.out _).trans (hHeld.2.2.2.2.2.2.2.2.2.2.2))))⟩ (fun hHeld => ?_)
    clear hK K
    refine pure_ (i := 10) (N := some 10) (v := ?_) (a' := ?_) #[true, true, true, true, true, true, true, true, true, true, true] rfl rfl (any_of HT_.out (by kernel_rfl)) (fun _ _ _ h => h) (Or.inl ⟨by rfl, ?_⟩) ?_ ?_
    rotate_left
    · intro w'
      go_simp
      with_reducible rfl
    rotate_left
    · simp only [Act.put, zA, zC, zD, i64_w, i32_w]
      rfl
    refine done_ (done_of HT_.out (by kernel_rfl)) ?_
    go_upto_region 5 with (fail)
    go_cut [37] (fun v37 wc => ∃ (kq : Nat) (x37_10 : Bool), v37 = .bool x37_10 ∧ Aside0 (boscagelaw31_ModelKeeps.j0 kq a3 x37_10 t239 t242 t245 t246 t247 t248 t249 t256 t259 = some r) ∧ Aside0 (kq ≤ k) ∧ Aside0 (Kd.R k65 65 wc w.heap.size (fun _ => True) (.slice Ao19 t239.length co19) t239) ∧ Aside0 (Kd.N k61 61 wc w.heap.size (fun k_ => some k_ ≠ ((.slice Ao19 t239.length co19) : Value).ownBlock ∧ k_ ≠ gb235 ∧ k_ ≠ gb236 ∧ k_ ≠ gb237 ∧ k_ ≠ gb263) (.slice Ao21 t242.length co21) t242) ∧ Aside0 (Kd.V k65 65 wc w.heap.size (fun k_ => some k_ ≠ ((.slice Ao19 t239.length co19) : Value).ownBlock ∧ some k_ ≠ ((.slice Ao21 t242.length co21) : Value).ownBlock ∧ k_ ≠ gb235 ∧ k_ ≠ gb236 ∧ k_ ≠ gb237 ∧ k_ ≠ gb263) (.slice Ao36 t256.length co36) t256) ∧ Aside0 (Kd.V k72 72 wc w.heap.size (fun k_ => some k_ ≠ ((.slice Ao19 t239.length co19) : Value).ownBlock ∧ some k_ ≠ ((.slice Ao21 t242.length co21) : Value).ownBlock ∧ k_ ≠ gb235 ∧ k_ ≠ gb236 ∧ k_ ≠ gb237 ∧ k_ ≠ gb263) (.slice Ao38 t259.length co38) t259) ∧ Aside0 (wc.heap[gb235]? = some (.cells #[.int .i64 a0_0, .int .i64 a0_1, .int .i64 a0_2, .int .i64 a0_3, .int .i64 a0_4] 23 (0, 0))) ∧ Aside0 (wc.heap[gb236]? = some (.cells #[(.slice Ao19 t239.length co19), (.slice Ao21 t242.length co21)] 27 (0, 0))) ∧ Aside0 (wc.heap[gb237]? = some (.cells #[.int .i64 t245, .string t246, .string t247, .string t248, .int .i64 t249] 29 (0, 0))) ∧ Aside0 (wc.heap[gb263]? = some (.cells #[(.slice Ao36 t256.length co36), (.slice Ao38 t259.length co38)] 39 (0, 0))) ∧ Aside0 (Below w.heap.size w wc))
    case first =>
      have H := HC11.out
      clear HC11
      by_cases c40 : t262 = true
      · subst c40
        have H1 : (boscagelaw31_ModelKeeps.j0 k a3 false t239 t242 t245 t246 t247 t248 t249 t256 t259) = some r := by rw [if_pos rfl] at H; exact H
        clear H
        have H := H1
        clear H1
        have H' := zX H
        clear H
        try go_wp2
        have n0_ : Aside0 (Kd.R k65 65 ((w35.setCell ⟨gb263, 0, none⟩ (.slice Ao36 t256.length co36)).setCell ⟨gb263, 1, none⟩ (.slice Ao38 t259.length co38)) w.heap.size (fun k_ => some k_ ≠ (v251 : Value).ownBlock) (.slice Ao19 t239.length co19) t239) := ⟨by (with_reducible repeat (first | apply za | apply zg | apply zh)); exact Kd.R_mono (Kd.R_far (p := ⟨gb263, 1, none⟩) (Kd.R_far (p := ⟨gb263, 0, none⟩) (zk HO241.out BK263.out (by decide)) (fun _ hk => hk.2) (.slice Ao36 t256.length co36)) (fun _ hk => hk.2) (.slice Ao38 t259.length co38)) (fun _ hk => hk.1)⟩
        have n1_ : Aside0 (Kd.N k61 61 ((w35.setCell ⟨gb263, 0, none⟩ (.slice Ao36 t256.length co36)).setCell ⟨gb263, 1, none⟩ (.slice Ao38 t259.length co38)) w.heap.size (fun k_ => some k_ ≠ (.slice Ao19 t239.length co19 : Value).ownBlock ∧ some k_ ≠ (v251 : Value).ownBlock ∧ some k_ ≠ (v254 : Value).ownBlock ∧ k_ ≠ gb235 ∧ k_ ≠ gb236 ∧ k_ ≠ gb237 ∧ k_ ≠ gb263) (.slice Ao21 t242.length co21) t242) := ⟨by (with_reducible repeat (first | apply ze | apply zo | apply zp)); exact Kd.N_mono (Kd.N_far (p := ⟨gb263, 1, none⟩) (Kd.N_far (p := ⟨gb263, 0, none⟩) (Kd.N_mono HO244.out (fun k_ hk => (⟨hk, hk.2.2.2.2.2.2⟩ : _ ∧ k_ ≠ gb263))) (fun _ hk => hk.2) (.slice Ao36 t256.length co36)) (fun _ hk => hk.2) (.slice Ao38 t259.length co38)) (fun _ hk => ⟨hk.1.1, ⟨hk.1.2.1, ⟨hk.1.2.2.1, ⟨hk.1.2.2.2.1, ⟨hk.1.2.2.2.2.1, ⟨hk.1.2.2.2.2.2.1, hk.1.2.2.2.2.2.2⟩⟩⟩⟩⟩⟩)⟩
        have n2_ : Aside0 (Kd.R k65 65 ((w35.setCell ⟨gb263, 0, none⟩ (.slice Ao36 t256.length co36)).setCell ⟨gb263, 1, none⟩ (.slice Ao38 t259.length co38)) w.heap.size (fun k_ => some k_ ≠ (.slice Ao19 t239.length co19 : Value).ownBlock) v251 t250) := ⟨by (with_reducible repeat (first | apply za | apply zg | apply zh)); exact Kd.R_mono (Kd.R_far (p := ⟨gb263, 1, none⟩) (Kd.R_far (p := ⟨gb263, 0, none⟩) (zk HO252.out BK263.out (by decide)) (fun _ hk => hk.2) (.slice Ao36 t256.length co36)) (fun _ hk => hk.2) (.slice Ao38 t259.length co38)) (fun _ hk => hk.1)⟩
        have n3_ : Aside0 (Kd.N k72 72 ((w35.setCell ⟨gb263, 0, none⟩ (.slice Ao36 t256.length co36)).setCell ⟨gb263, 1, none⟩ (.slice Ao38 t259.length co38)) w.heap.size (fun k_ => some k_ ≠ (.slice Ao19 t239.length co19 : Value).ownBlock ∧ some k_ ≠ (.slice Ao21 t242.length co21 : Value).ownBlock ∧ some k_ ≠ (v251 : Value).ownBlock ∧ k_ ≠ gb235 ∧ k_ ≠ gb236 ∧ k_ ≠ gb237 ∧ k_ ≠ gb263) v254 t253) := ⟨by (with_reducible repeat (first | apply ze | apply zo | apply zp)); exact Kd.N_mono (Kd.N_far (p := ⟨gb263, 1, none⟩) (Kd.N_far (p := ⟨gb263, 0, none⟩) (Kd.N_mono HO255.out (fun k_ hk => (⟨hk, hk.2.2.2.2.2.2⟩ : _ ∧ k_ ≠ gb263))) (fun _ hk => hk.2) (.slice Ao36 t256.length co36)) (fun _ hk => hk.2) (.slice Ao38 t259.length co38)) (fun _ hk => ⟨hk.1.1, ⟨hk.1.2.1, ⟨hk.1.2.2.1, ⟨hk.1.2.2.2.1, ⟨hk.1.2.2.2.2.1, ⟨hk.1.2.2.2.2.2.1, hk.1.2.2.2.2.2.2⟩⟩⟩⟩⟩⟩)⟩
        have n4_ : Aside0 (Kd.V k65 65 ((w35.setCell ⟨gb263, 0, none⟩ (.slice Ao36 t256.length co36)).setCell ⟨gb263, 1, none⟩ (.slice Ao38 t259.length co38)) w.heap.size (fun k_ => some k_ ≠ (.slice Ao19 t239.length co19 : Value).ownBlock ∧ some k_ ≠ (.slice Ao21 t242.length co21 : Value).ownBlock ∧ k_ ≠ gb235 ∧ k_ ≠ gb236 ∧ k_ ≠ gb237 ∧ k_ ≠ gb263) (.slice Ao36 t256.length co36) t256) := ⟨by (with_reducible repeat (first | apply zb | apply zc | apply zd)); exact Kd.V_mono (Kd.V_far (p := ⟨gb263, 1, none⟩) (Kd.V_far (p := ⟨gb263, 0, none⟩) (Kd.V_mono HO258.out (fun k_ hk => (⟨hk, hk.2.2.2.2.2⟩ : _ ∧ k_ ≠ gb263))) (fun _ hk => hk.2) (.slice Ao36 t256.length co36)) (fun _ hk => hk.2) (.slice Ao38 t259.length co38)) (fun _ hk => ⟨hk.1.1, ⟨hk.1.2.1, ⟨hk.1.2.2.1, ⟨hk.1.2.2.2.1, ⟨hk.1.2.2.2.2.1, hk.1.2.2.2.2.2⟩⟩⟩⟩⟩)⟩
        have n5_ : Aside0 (Kd.V k72 72 ((w35.setCell ⟨gb263, 0, none⟩ (.slice Ao36 t256.length co36)).setCell ⟨gb263, 1, none⟩ (.slice Ao38 t259.length co38)) w.heap.size (fun k_ => some k_ ≠ (.slice Ao19 t239.length co19 : Value).ownBlock ∧ some k_ ≠ (.slice Ao21 t242.length co21 : Value).ownBlock ∧ k_ ≠ gb235 ∧ k_ ≠ gb236 ∧ k_ ≠ gb237 ∧ k_ ≠ gb263) (.slice Ao38 t259.length co38) t259) := ⟨by (with_reducible repeat (first | apply zb | apply zc | apply zd)); exact Kd.V_mono (Kd.V_far (p := ⟨gb263, 1, none⟩) (Kd.V_far (p := ⟨gb263, 0, none⟩) (Kd.V_mono HO261.out (fun k_ hk => (⟨hk, hk.2.2.2.2.2⟩ : _ ∧ k_ ≠ gb263))) (fun _ hk => hk.2) (.slice Ao36 t256.length co36)) (fun _ hk => hk.2) (.slice Ao38 t259.length co38)) (fun _ hk => ⟨hk.1.1, ⟨hk.1.2.1, ⟨hk.1.2.2.1, ⟨hk.1.2.2.2.1, ⟨hk.1.2.2.2.2.1, hk.1.2.2.2.2.2⟩⟩⟩⟩⟩)⟩
        have n6_ : Aside0 (((w35.setCell ⟨gb263, 0, none⟩ (.slice Ao36 t256.length co36)).setCell ⟨gb263, 1, none⟩ (.slice Ao38 t259.length co38)).heap[gb235]? = some (.cells #[.int .i64 a0_0, .int .i64 a0_1, .int .i64 a0_2, .int .i64 a0_3, .int .i64 a0_4] 23 (0, 0))) := ⟨by (with_reducible repeat (first | refine zL ?_ _ | refine zM ?_ | refine zJ ?_ _)); refine blk_far ?_ NB235_263.out _; (with_reducible repeat (first | refine zL ?_ _ | refine zM ?_ | refine zJ ?_ _)); refine blk_far ?_ NB235_263.out _; (with_reducible repeat (first | refine zL ?_ _ | refine zM ?_ | refine zJ ?_ _)); exact BK235.out⟩
        have n7_ : Aside0 (((w35.setCell ⟨gb263, 0, none⟩ (.slice Ao36 t256.length co36)).setCell ⟨gb263, 1, none⟩ (.slice Ao38 t259.length co38)).heap[gb236]? = some (.cells #[.slice Ao19 t239.length co19, .slice Ao21 t242.length co21] 27 (0, 0))) := ⟨by (with_reducible repeat (first | refine zL ?_ _ | refine zM ?_ | refine zJ ?_ _)); refine blk_far ?_ NB236_263.out _; (with_reducible repeat (first | refine zL ?_ _ | refine zM ?_ | refine zJ ?_ _)); refine blk_far ?_ NB236_263.out _; (with_reducible repeat (first | refine zL ?_ _ | refine zM ?_ | refine zJ ?_ _)); exact BK236.out⟩
        have n8_ : Aside0 (((w35.setCell ⟨gb263, 0, none⟩ (.slice Ao36 t256.length co36)).setCell ⟨gb263, 1, none⟩ (.slice Ao38 t259.length co38)).heap[gb237]? = some (.cells #[.int .i64 t245, .string t246, .string t247, .string t248, .int .i64 t249] 29 (0, 0))) := ⟨by (with_reducible repeat (first | refine zL ?_ _ | refine zM ?_ | refine zJ ?_ _)); refine blk_far ?_ NB237_263.out _; (with_reducible repeat (first | refine zL ?_ _ | refine zM ?_ | refine zJ ?_ _)); refine blk_far ?_ NB237_263.out _; (with_reducible repeat (first | refine zL ?_ _ | refine zM ?_ | refine zJ ?_ _)); exact BK237.out⟩
        have n9_ : Aside0 (((w35.setCell ⟨gb263, 0, none⟩ (.slice Ao36 t256.length co36)).setCell ⟨gb263, 1, none⟩ (.slice Ao38 t259.length co38)).heap[gb263]? = some (.cells #[.slice Ao36 t256.length co36, .slice Ao38 t259.length co38] 39 (0, 0))) := ⟨by (with_reducible repeat (first | refine zL ?_ _ | refine zM ?_ | refine zJ ?_ _)); refine blk_put (cs := #[.slice Ao36 t256.length co36, .slice none 0 0]) ?_ 1 _ rfl; (with_reducible repeat (first | refine zL ?_ _ | refine zM ?_ | refine zJ ?_ _)); refine blk_put (cs := #[.slice none 0 0, .slice none 0 0]) ?_ 0 _ rfl; (with_reducible repeat (first | refine zL ?_ _ | refine zM ?_ | refine zJ ?_ _)); exact BK263.out⟩
        have n10_ : Aside0 (Below w.heap.size w ((w35.setCell ⟨gb263, 0, none⟩ (.slice Ao36 t256.length co36)).setCell ⟨gb263, 1, none⟩ (.slice Ao38 t259.length co38))) := ⟨by repeat (first | (with_reducible first | exact HB.out | apply zF | apply zE | apply zG | refine zK ?_ GE235.out | refine zK ?_ GE236.out | refine zK ?_ GE237.out | refine zK ?_ GE263.out) | exact HB.out)⟩
        (try clear HO241)
        (try clear HO244)
        (try clear HO252)
        (try clear HO255)
        (try clear HO258)
        (try clear HO261)
        (try clear BK235)
        (try clear BK236)
        (try clear BK237)
        (try clear BK263)
        (try clear HB)
        generalize ((w35.setCell ⟨gb263, 0, none⟩ (.slice Ao36 t256.length co36)).setCell ⟨gb263, 1, none⟩ (.slice Ao38 t259.length co38)) = w41 at n0_ n1_ n2_ n3_ n4_ n5_ n6_ n7_ n8_ n9_ n10_ ⊢
        have HO241 := n0_
        have HO244 := n1_
        have HO252 := n2_
        have HO255 := n3_
        have HO258 := n4_
        have HO261 := n5_
        have BK235 := n6_
        have BK236 := n7_
        have BK237 := n8_
        have BK263 := n9_
        have HB := n10_
        clear n0_ n1_ n2_ n3_ n4_ n5_ n6_ n7_ n8_ n9_ n10_
        have n0_ := zX (zh HO241.out)
        have n1_ := zX (zp HO244.out)
        have n2_ := zX (zh HO252.out)
        have n3_ := zX (zp HO255.out)
        have n4_ := zX (zd HO258.out)
        have n5_ := zX (zd HO261.out)
        have n6_ := zX (zM BK235.out)
        have n7_ := zX (zM BK236.out)
        have n8_ := zX (zM BK237.out)
        have n9_ := zX (zM BK263.out)
        have n10_ := zX (zG HB.out)
        clear HO241
        clear HO244
        clear HO252
        clear HO255
        clear HO258
        clear HO261
        clear BK235
        clear BK236
        clear BK237
        clear BK263
        clear HB
        have HO241 := n0_
        have HO244 := n1_
        have HO252 := n2_
        have HO255 := n3_
        have HO258 := n4_
        have HO261 := n5_
        have BK235 := n6_
        have BK236 := n7_
        have BK237 := n8_
        have BK263 := n9_
        have HB := n10_
        clear n0_ n1_ n2_ n3_ n4_ n5_ n6_ n7_ n8_ n9_ n10_
        refine start_ (n := 9) (S := fun w' => True) (ds := []) #[false, false, false, false, false, false, false, false, false] (by kernel_rfl) rfl rfl trivial (fun hHeld => ?_); refine with_tabW boscagelaw31_ModelKeeps.tab5 boscagelaw31_ModelKeeps.bits5 (fun HT_ HW_ => ?_)
        generalize w41.drew = w42 at HO241 HO244 HO252 HO255 HO258 HO261 BK235 BK236 BK237 BK263 HB hHeld ⊢
        refine pure_ (i := 0) (N := some 29) (v := ?_) (a' := ?_) #[true, false, false, false, false, false, false, false, false] rfl rfl (any_of HT_.out (by kernel_rfl)) (fun _ _ _ h => h) (Or.inl ⟨by rfl, ?_⟩) ?_ ?_
        rotate_left
        · intro w'
          go_simp
          with_reducible rfl
        rotate_left
        · simp only [Act.put, zA, zC, zD, i64_w, i32_w]
          rfl
        refine pure_ (i := 1) (N := some 30) (v := ?_) (a' := ?_) #[true, true, false, false, false, false, false, false, false] rfl rfl (any_of HT_.out (by kernel_rfl)) (fun _ _ _ h => h) (Or.inl ⟨by rfl, ?_⟩) ?_ ?_
        rotate_left
        · intro w'
          go_simp
          with_reducible rfl
        rotate_left
        · simp only [Act.put, zA, zC, zD, i64_w, i32_w]
          rfl
        refine pure_ (i := 2) (N := some 31) (v := ?_) (a' := ?_) #[true, true, true, false, false, false, false, false, false] rfl rfl (any_of HT_.out (by kernel_rfl)) (fun _ _ _ h => h) (Or.inl ⟨by rfl, ?_⟩) ?_ ?_
        rotate_left
        · intro w'
          go_simp
          with_reducible rfl
        rotate_left
        · simp only [Act.put, zA, zC, zD, i64_w, i32_w]
          rfl
        refine pure_ (i := 3) (N := some 32) (v := undef) (a' := ?_) #[true, true, true, true, false, false, false, false, false] rfl rfl (any_of HT_.out (by kernel_rfl)) (fun _ _ _ h => h) (Or.inr ⟨by rfl, rfl⟩) ?_ ?_
        rotate_left
        · simp only [Act.put, zA, zC, zD, i64_w, i32_w]
          rfl
        refine pure_ (i := 4) (N := some 33) (v := undef) (a' := ?_) #[true, true, true, true, true, false, false, false, false] rfl rfl (any_of HT_.out (by kernel_rfl)) (fun _ _ _ h => h) (Or.inr ⟨by rfl, rfl⟩) ?_ ?_
        rotate_left
        · simp only [Act.put, zA, zC, zD, i64_w, i32_w]
          rfl
        refine pure_ (i := 5) (N := some 34) (v := undef) (a' := ?_) #[true, true, true, true, true, true, false, false, false] rfl rfl (any_of HT_.out (by kernel_rfl)) (fun _ _ _ h => h) (Or.inr ⟨by rfl, rfl⟩) ?_ ?_
        rotate_left
        · simp only [Act.put, zA, zC, zD, i64_w, i32_w]
          rfl
        refine pure_ (i := 6) (N := some 35) (v := undef) (a' := ?_) #[true, true, true, true, true, true, true, false, false] rfl rfl (any_of HT_.out (by kernel_rfl)) (fun _ _ _ h => h) (Or.inr ⟨by rfl, rfl⟩) ?_ ?_
        rotate_left
        · simp only [Act.put, zA, zC, zD, i64_w, i32_w]
          rfl
        refine pure_ (i := 7) (N := some 36) (v := undef) (a' := ?_) #[true, true, true, true, true, true, true, true, false] rfl rfl (any_of HT_.out (by kernel_rfl)) (fun _ _ _ h => h) (Or.inr ⟨by rfl, rfl⟩) ?_ ?_
        rotate_left
        · simp only [Act.put, zA, zC, zD, i64_w, i32_w]
          rfl
        refine pure_ (i := 8) (N := some 37) (v := ?_) (a' := ?_) #[true, true, true, true, true, true, true, true, true] rfl rfl (any_of HT_.out (by kernel_rfl)) (fun _ _ _ h => h) (Or.inl ⟨by rfl, ?_⟩) ?_ ?_
        rotate_left
        · intro w'
          go_simp
          with_reducible rfl
        rotate_left
        · simp only [Act.put, zA, zC, zD, i64_w, i32_w]
          rfl
        refine done_ (done_of HT_.out (by kernel_rfl)) ?_
        try go_wp2
        go_meet
        case rel => exact ⟨_, (false), (by first | rfl | (simp; done) | (simp [*]; done)), H', ⟨by first | omega | exact Nat.le_refl _⟩, ⟨by (with_reducible repeat (first | apply za | apply zg | apply zh)); exact Kd.R_mono HO241.out (fun _ hk => trivial)⟩, ⟨by (with_reducible repeat (first | apply ze | apply zo | apply zp)); exact Kd.N_mono HO244.out (fun _ hk => ⟨hk.1, ⟨hk.2.2.2.1, ⟨hk.2.2.2.2.1, ⟨hk.2.2.2.2.2.1, hk.2.2.2.2.2.2⟩⟩⟩⟩)⟩, ⟨by (with_reducible repeat (first | apply zb | apply zc | apply zd)); exact HO258.out⟩, ⟨by (with_reducible repeat (first | apply zb | apply zc | apply zd)); exact HO261.out⟩, ⟨by (with_reducible repeat (first | refine zL ?_ _ | refine zM ?_ | refine zJ ?_ _)); exact BK235.out⟩, ⟨by (with_reducible repeat (first | refine zL ?_ _ | refine zM ?_ | refine zJ ?_ _)); exact BK236.out⟩, ⟨by (with_reducible repeat (first | refine zL ?_ _ | refine zM ?_ | refine zJ ?_ _)); exact BK237.out⟩, ⟨by (with_reducible repeat (first | refine zL ?_ _ | refine zM ?_ | refine zJ ?_ _)); exact BK263.out⟩, ⟨by repeat (first | (with_reducible first | exact HB.out | apply zF | apply zE | apply zG | refine zK ?_ GE235.out | refine zK ?_ GE236.out | refine zK ?_ GE237.out | refine zK ?_ GE263.out) | exact HB.out)⟩⟩
      · replace c40 := Bool.eq_false_iff.mpr c40
        subst c40
        have H1 : ((boscagelaw31_Give.f k t239 t242).bind fun bt264 => ((model_Same.f k t256 t259 bt264.1 bt264.2).bind fun t270 => (boscagelaw31_ModelKeeps.j0 k a3 (!t270) t239 t242 t245 t246 t247 t248 t249 t256 t259))) = some r := by rw [if_neg (show ¬ (false = true) by decide)] at H; exact H
        clear H
        have H := H1
        clear H1
        replace H := Option.bind_eq_some_iff.mp H
        obtain ⟨⟨t264, t267⟩, A430, H⟩ := H
        replace H : ((model_Same.f k t256 t259 t264 t267).bind fun t270 => (boscagelaw31_ModelKeeps.j0 k a3 (!t270) t239 t242 t245 t246 t247 t248 t249 t256 t259)) = some r := H
        have A43 := zX A430
        clear A430
        replace H := Option.bind_eq_some_iff.mp H
        obtain ⟨t270, A440, H⟩ := H
        replace H : (boscagelaw31_ModelKeeps.j0 k a3 (!t270) t239 t242 t245 t246 t247 t248 t249 t256 t259) = some r := H
        have A44 := zX A440
        clear A440
        have H' := zX H
        clear H
        try go_wp2
        have n0_ : Aside0 (Kd.R k65 65 ((w35.setCell ⟨gb263, 0, none⟩ (.slice Ao36 t256.length co36)).setCell ⟨gb263, 1, none⟩ (.slice Ao38 t259.length co38)) w.heap.size (fun k_ => some k_ ≠ (v251 : Value).ownBlock) (.slice Ao19 t239.length co19) t239) := ⟨by (with_reducible repeat (first | apply za | apply zg | apply zh)); exact Kd.R_mono (Kd.R_far (p := ⟨gb263, 1, none⟩) (Kd.R_far (p := ⟨gb263, 0, none⟩) (zk HO241.out BK263.out (by decide)) (fun _ hk => hk.2) (.slice Ao36 t256.length co36)) (fun _ hk => hk.2) (.slice Ao38 t259.length co38)) (fun _ hk => hk.1)⟩
        have n1_ : Aside0 (Kd.N k61 61 ((w35.setCell ⟨gb263, 0, none⟩ (.slice Ao36 t256.length co36)).setCell ⟨gb263, 1, none⟩ (.slice Ao38 t259.length co38)) w.heap.size (fun k_ => some k_ ≠ (.slice Ao19 t239.length co19 : Value).ownBlock ∧ some k_ ≠ (v251 : Value).ownBlock ∧ some k_ ≠ (v254 : Value).ownBlock ∧ k_ ≠ gb235 ∧ k_ ≠ gb236 ∧ k_ ≠ gb237 ∧ k_ ≠ gb263) (.slice Ao21 t242.length co21) t242) := ⟨by (with_reducible repeat (first | apply ze | apply zo | apply zp)); exact Kd.N_mono (Kd.N_far (p := ⟨gb263, 1, none⟩) (Kd.N_far (p := ⟨gb263, 0, none⟩) (Kd.N_mono HO244.out (fun k_ hk => (⟨hk, hk.2.2.2.2.2.2⟩ : _ ∧ k_ ≠ gb263))) (fun _ hk => hk.2) (.slice Ao36 t256.length co36)) (fun _ hk => hk.2) (.slice Ao38 t259.length co38)) (fun _ hk => ⟨hk.1.1, ⟨hk.1.2.1, ⟨hk.1.2.2.1, ⟨hk.1.2.2.2.1, ⟨hk.1.2.2.2.2.1, ⟨hk.1.2.2.2.2.2.1, hk.1.2.2.2.2.2.2⟩⟩⟩⟩⟩⟩)⟩
        have n2_ : Aside0 (Kd.R k65 65 ((w35.setCell ⟨gb263, 0, none⟩ (.slice Ao36 t256.length co36)).setCell ⟨gb263, 1, none⟩ (.slice Ao38 t259.length co38)) w.heap.size (fun k_ => some k_ ≠ (.slice Ao19 t239.length co19 : Value).ownBlock) v251 t250) := ⟨by (with_reducible repeat (first | apply za | apply zg | apply zh)); exact Kd.R_mono (Kd.R_far (p := ⟨gb263, 1, none⟩) (Kd.R_far (p := ⟨gb263, 0, none⟩) (zk HO252.out BK263.out (by decide)) (fun _ hk => hk.2) (.slice Ao36 t256.length co36)) (fun _ hk => hk.2) (.slice Ao38 t259.length co38)) (fun _ hk => hk.1)⟩
        have n3_ : Aside0 (Kd.N k72 72 ((w35.setCell ⟨gb263, 0, none⟩ (.slice Ao36 t256.length co36)).setCell ⟨gb263, 1, none⟩ (.slice Ao38 t259.length co38)) w.heap.size (fun k_ => some k_ ≠ (.slice Ao19 t239.length co19 : Value).ownBlock ∧ some k_ ≠ (.slice Ao21 t242.length co21 : Value).ownBlock ∧ some k_ ≠ (v251 : Value).ownBlock ∧ k_ ≠ gb235 ∧ k_ ≠ gb236 ∧ k_ ≠ gb237 ∧ k_ ≠ gb263) v254 t253) := ⟨by (with_reducible repeat (first | apply ze | apply zo | apply zp)); exact Kd.N_mono (Kd.N_far (p := ⟨gb263, 1, none⟩) (Kd.N_far (p := ⟨gb263, 0, none⟩) (Kd.N_mono HO255.out (fun k_ hk => (⟨hk, hk.2.2.2.2.2.2⟩ : _ ∧ k_ ≠ gb263))) (fun _ hk => hk.2) (.slice Ao36 t256.length co36)) (fun _ hk => hk.2) (.slice Ao38 t259.length co38)) (fun _ hk => ⟨hk.1.1, ⟨hk.1.2.1, ⟨hk.1.2.2.1, ⟨hk.1.2.2.2.1, ⟨hk.1.2.2.2.2.1, ⟨hk.1.2.2.2.2.2.1, hk.1.2.2.2.2.2.2⟩⟩⟩⟩⟩⟩)⟩
        have n4_ : Aside0 (Kd.V k65 65 ((w35.setCell ⟨gb263, 0, none⟩ (.slice Ao36 t256.length co36)).setCell ⟨gb263, 1, none⟩ (.slice Ao38 t259.length co38)) w.heap.size (fun k_ => some k_ ≠ (.slice Ao19 t239.length co19 : Value).ownBlock ∧ some k_ ≠ (.slice Ao21 t242.length co21 : Value).ownBlock ∧ k_ ≠ gb235 ∧ k_ ≠ gb236 ∧ k_ ≠ gb237 ∧ k_ ≠ gb263) (.slice Ao36 t256.length co36) t256) := ⟨by (with_reducible repeat (first | apply zb | apply zc | apply zd)); exact Kd.V_mono (Kd.V_far (p := ⟨gb263, 1, none⟩) (Kd.V_far (p := ⟨gb263, 0, none⟩) (Kd.V_mono HO258.out (fun k_ hk => (⟨hk, hk.2.2.2.2.2⟩ : _ ∧ k_ ≠ gb263))) (fun _ hk => hk.2) (.slice Ao36 t256.length co36)) (fun _ hk => hk.2) (.slice Ao38 t259.length co38)) (fun _ hk => ⟨hk.1.1, ⟨hk.1.2.1, ⟨hk.1.2.2.1, ⟨hk.1.2.2.2.1, ⟨hk.1.2.2.2.2.1, hk.1.2.2.2.2.2⟩⟩⟩⟩⟩)⟩
        have n5_ : Aside0 (Kd.V k72 72 ((w35.setCell ⟨gb263, 0, none⟩ (.slice Ao36 t256.length co36)).setCell ⟨gb263, 1, none⟩ (.slice Ao38 t259.length co38)) w.heap.size (fun k_ => some k_ ≠ (.slice Ao19 t239.length co19 : Value).ownBlock ∧ some k_ ≠ (.slice Ao21 t242.length co21 : Value).ownBlock ∧ k_ ≠ gb235 ∧ k_ ≠ gb236 ∧ k_ ≠ gb237 ∧ k_ ≠ gb263) (.slice Ao38 t259.length co38) t259) := ⟨by (with_reducible repeat (first | apply zb | apply zc | apply zd)); exact Kd.V_mono (Kd.V_far (p := ⟨gb263, 1, none⟩) (Kd.V_far (p := ⟨gb263, 0, none⟩) (Kd.V_mono HO261.out (fun k_ hk => (⟨hk, hk.2.2.2.2.2⟩ : _ ∧ k_ ≠ gb263))) (fun _ hk => hk.2) (.slice Ao36 t256.length co36)) (fun _ hk => hk.2) (.slice Ao38 t259.length co38)) (fun _ hk => ⟨hk.1.1, ⟨hk.1.2.1, ⟨hk.1.2.2.1, ⟨hk.1.2.2.2.1, ⟨hk.1.2.2.2.2.1, hk.1.2.2.2.2.2⟩⟩⟩⟩⟩)⟩
        have n6_ : Aside0 (((w35.setCell ⟨gb263, 0, none⟩ (.slice Ao36 t256.length co36)).setCell ⟨gb263, 1, none⟩ (.slice Ao38 t259.length co38)).heap[gb235]? = some (.cells #[.int .i64 a0_0, .int .i64 a0_1, .int .i64 a0_2, .int .i64 a0_3, .int .i64 a0_4] 23 (0, 0))) := ⟨by (with_reducible repeat (first | refine zL ?_ _ | refine zM ?_ | refine zJ ?_ _)); refine blk_far ?_ NB235_263.out _; (with_reducible repeat (first | refine zL ?_ _ | refine zM ?_ | refine zJ ?_ _)); refine blk_far ?_ NB235_263.out _; (with_reducible repeat (first | refine zL ?_ _ | refine zM ?_ | refine zJ ?_ _)); exact BK235.out⟩
        have n7_ : Aside0 (((w35.setCell ⟨gb263, 0, none⟩ (.slice Ao36 t256.length co36)).setCell ⟨gb263, 1, none⟩ (.slice Ao38 t259.length co38)).heap[gb236]? = some (.cells #[.slice Ao19 t239.length co19, .slice Ao21 t242.length co21] 27 (0, 0))) := ⟨by (with_reducible repeat (first | refine zL ?_ _ | refine zM ?_ | refine zJ ?_ _)); refine blk_far ?_ NB236_263.out _; (with_reducible repeat (first | refine zL ?_ _ | refine zM ?_ | refine zJ ?_ _)); refine blk_far ?_ NB236_263.out _; (with_reducible repeat (first | refine zL ?_ _ | refine zM ?_ | refine zJ ?_ _)); exact BK236.out⟩
        have n8_ : Aside0 (((w35.setCell ⟨gb263, 0, none⟩ (.slice Ao36 t256.length co36)).setCell ⟨gb263, 1, none⟩ (.slice Ao38 t259.length co38)).heap[gb237]? = some (.cells #[.int .i64 t245, .string t246, .string t247, .string t248, .int .i64 t249] 29 (0, 0))) := ⟨by (with_reducible repeat (first | refine zL ?_ _ | refine zM ?_ | refine zJ ?_ _)); refine blk_far ?_ NB237_263.out _; (with_reducible repeat (first | refine zL ?_ _ | refine zM ?_ | refine zJ ?_ _)); refine blk_far ?_ NB237_263.out _; (with_reducible repeat (first | refine zL ?_ _ | refine zM ?_ | refine zJ ?_ _)); exact BK237.out⟩
        have n9_ : Aside0 (((w35.setCell ⟨gb263, 0, none⟩ (.slice Ao36 t256.length co36)).setCell ⟨gb263, 1, none⟩ (.slice Ao38 t259.length co38)).heap[gb263]? = some (.cells #[.slice Ao36 t256.length co36, .slice Ao38 t259.length co38] 39 (0, 0))) := ⟨by (with_reducible repeat (first | refine zL ?_ _ | refine zM ?_ | refine zJ ?_ _)); refine blk_put (cs := #[.slice Ao36 t256.length co36, .slice none 0 0]) ?_ 1 _ rfl; (with_reducible repeat (first | refine zL ?_ _ | refine zM ?_ | refine zJ ?_ _)); refine blk_put (cs := #[.slice none 0 0, .slice none 0 0]) ?_ 0 _ rfl; (with_reducible repeat (first | refine zL ?_ _ | refine zM ?_ | refine zJ ?_ _)); exact BK263.out⟩
        have n10_ : Aside0 (Below w.heap.size w ((w35.setCell ⟨gb263, 0, none⟩ (.slice Ao36 t256.length co36)).setCell ⟨gb263, 1, none⟩ (.slice Ao38 t259.length co38))) := ⟨by repeat (first | (with_reducible first | exact HB.out | apply zF | apply zE | apply zG | refine zK ?_ GE235.out | refine zK ?_ GE236.out | refine zK ?_ GE237.out | refine zK ?_ GE263.out) | exact HB.out)⟩
        (try clear HO241)
        (try clear HO244)
        (try clear HO252)
        (try clear HO255)
        (try clear HO258)
        (try clear HO261)
        (try clear BK235)
        (try clear BK236)
        (try clear BK237)
        (try clear BK263)
        (try clear HB)
        generalize ((w35.setCell ⟨gb263, 0, none⟩ (.slice Ao36 t256.length co36)).setCell ⟨gb263, 1, none⟩ (.slice Ao38 t259.length co38)) = w45 at n0_ n1_ n2_ n3_ n4_ n5_ n6_ n7_ n8_ n9_ n10_ ⊢
        have HO241 := n0_
        have HO244 := n1_
        have HO252 := n2_
        have HO255 := n3_
        have HO258 := n4_
        have HO261 := n5_
        have BK235 := n6_
        have BK236 := n7_
        have BK237 := n8_
        have BK263 := n9_
        have HB := n10_
        clear n0_ n1_ n2_ n3_ n4_ n5_ n6_ n7_ n8_ n9_ n10_
        have n0_ := zX (zh HO241.out)
        have n1_ := zX (zp HO244.out)
        have n2_ := zX (zh HO252.out)
        have n3_ := zX (zp HO255.out)
        have n4_ := zX (zd HO258.out)
        have n5_ := zX (zd HO261.out)
        have n6_ := zX (zM BK235.out)
        have n7_ := zX (zM BK236.out)
        have n8_ := zX (zM BK237.out)
        have n9_ := zX (zM BK263.out)
        have n10_ := zX (zG HB.out)
        clear HO241
        clear HO244
        clear HO252
        clear HO255
        clear HO258
        clear HO261
        clear BK235
        clear BK236
        clear BK237
        clear BK263
        clear HB
        have HO241 := n0_
        have HO244 := n1_
        have HO252 := n2_
        have HO255 := n3_
        have HO258 := n4_
        have HO261 := n5_
        have BK235 := n6_
        have BK236 := n7_
        have BK237 := n8_
        have BK263 := n9_
        have HB := n10_
        clear n0_ n1_ n2_ n3_ n4_ n5_ n6_ n7_ n8_ n9_ n10_
        refine start_ (n := 9) (S := fun w' => w'.cell? ⟨gb263, 0, none⟩ = some (.slice Ao36 t256.length co36) ∧ w'.cell? ⟨gb263, 1, none⟩ = some (.slice Ao38 t259.length co38) ∧ w'.cell? ⟨gb236, 0, none⟩ = some (.slice Ao19 t239.length co19) ∧ w'.cell? ⟨gb236, 1, none⟩ = some (.slice Ao21 t242.length co21)) (ds := []) #[false, false, false, false, false, false, false, false, false] (by kernel_rfl) rfl rfl ⟨(zH BK263.out 0).trans rfl, (zH BK263.out 1).trans rfl, (zH BK236.out 0).trans rfl, (zH BK236.out 1).trans rfl⟩ (fun hHeld => ?_); refine with_tabW boscagelaw31_ModelKeeps.tab5 boscagelaw31_ModelKeeps.bits5 (fun HT_ HW_ => ?_)
        generalize w45.drew = w46 at HO241 HO244 HO252 HO255 HO258 HO261 BK235 BK236 BK237 BK263 HB hHeld ⊢
        refine pure_ (i := 0) (N := some 29) (v := ?_) (a' := ?_) #[true, false, false, false, false, false, false, false, false] rfl rfl (any_of HT_.out (by kernel_rfl)) (fun _ _ _ h => h) (Or.inl ⟨by rfl, ?_⟩) ?_ ?_
        rotate_left
        · intro w'
          go_simp
          with_reducible rfl
        rotate_left
        · simp only [Act.put, zA, zC, zD, i64_w, i32_w]
          rfl
        refine pure_ (i := 1) (N := some 30) (v := ?_) (a' := ?_) #[true, true, false, false, false, false, false, false, false] rfl rfl (any_of HT_.out (by kernel_rfl)) (fun _ _ _ h => h) (Or.inl ⟨by rfl, ?_⟩) ?_ ?_
        rotate_left
        · intro w'
          go_simp
          with_reducible rfl
        rotate_left
        · simp only [Act.put, zA, zC, zD, i64_w, i32_w]
          rfl
        refine pure_ (i := 2) (N := some 31) (v := ?_) (a' := ?_) #[true, true, true, false, false, false, false, false, false] rfl rfl (any_of HT_.out (by kernel_rfl)) (fun _ _ _ h => h) (Or.inl ⟨by rfl, ?_⟩) ?_ ?_
        rotate_left
        · intro w'
          go_simp
          with_reducible rfl
        rotate_left
        · simp only [Act.put, zA, zC, zD, i64_w, i32_w]
          rfl
        refine take_ (i := 3) (N := some 32) (v := ?_) (a' := ?_) #[true, true, true, true, false, false, false, false, false] rfl rfl (take_ofW HT_.out HW_.out (by kernel_rfl)) (fun _ _ _ h => h) (Or.inl ⟨by rfl, ?_⟩) hHeld ?_ ?_
        rotate_left
        · rintro w' ⟨s0, s1, s2, s3⟩
          go_simp
          with_reducible rfl
        rotate_left
        · simp only [Act.put, zA, zC, zD, i64_w, i32_w]
          rfl
        refine take_ (i := 4) (N := some 33) (v := ?_) (a' := ?_) #[true, true, true, true, true, false, false, false, false] rfl rfl (take_ofW HT_.out HW_.out (by kernel_rfl)) (fun _ _ _ h => h) (Or.inl ⟨by rfl, ?_⟩) hHeld ?_ ?_
        rotate_left
        · rintro w' ⟨s0, s1, s2, s3⟩
          go_simp
          with_reducible rfl
        rotate_left
        · simp only [Act.put, zA, zC, zD, i64_w, i32_w]
          rfl
        refine one_ (i := 5) (N := some 34) #[true, true, true, true, true, true, false, false, false] rfl rfl (one_of HT_.out (by kernel_rfl)) (by decide) (fun K hK => ?_)
        refine goes_ Tryd.func10 (by kernel_rfl) rfl #[.agg #[.slice Ao19 t239.length co19, .slice Ao21 t242.length co21]] (by rfl) rfl rfl (by (try simp only [zS, zU, zV]); first | done | rfl | (simp only [zO, zN]; rfl)) ?_
        with_reducible refine (boscagelaw31_Give.calls k _ _ t239 _ _ t242 t264 t267 _ ?side1 ?side2 ?side3 ?side4 A43.out).mono ?_
        (case side1 => repeat (first | exact (Kd.R_reads' HO241.out).2.2 | (with_reducible refine Kd.C_alloc ?_ _) | (with_reducible refine Kd.C_drewN ?_ _) | (with_reducible refine Kd.C_drew ?_)))
        (case side2 => exact (Kd.R_reads' HO241.out).2.1)
        (case side3 => repeat (first | exact (Kd.N_reads' HO244.out).2.2 | (with_reducible refine Kd.C_alloc ?_ _) | (with_reducible refine Kd.C_drewN ?_ _) | (with_reducible refine Kd.C_drew ?_)))
        (case side4 => exact (Kd.N_reads' HO244.out).2.1)
        rintro e w47 ⟨v265, v268, rfl, ho0, ho1, hb⟩
        refine ⟨_, rfl, ?_⟩
        have n0_ := zX (Kd.R_elder' (by (with_reducible repeat (first | apply za | apply zg | apply zh)); exact HO241.out) (Kd.R_base ho0) hb)
        have n1_ := zX (Kd.N_mono (Kd.N_told (Kd.N_told (Kd.N_old (by (with_reducible repeat (first | apply ze | apply zo | apply zp)); exact HO244.out) hb) (Kd.R_base ho0)) (Kd.N_base (Kd.S_N ho1))) (fun _ h_ => h_.1))
        have n2_ := zX (Kd.R_elder' (by (with_reducible repeat (first | apply za | apply zg | apply zh)); exact HO252.out) (Kd.R_base ho0) hb)
        have n3_ := zX (Kd.N_mono (Kd.N_told (Kd.N_told (Kd.N_old (by (with_reducible repeat (first | apply ze | apply zo | apply zp)); exact HO255.out) hb) (Kd.R_base ho0)) (Kd.N_base (Kd.S_N ho1))) (fun _ h_ => h_.1))
        have n4_ := zX (Kd.V_mono (Kd.V_told (Kd.V_told (Kd.V_old (by (with_reducible repeat (first | apply zb | apply zc | apply zd)); exact HO258.out) hb) (Kd.R_base ho0)) (Kd.N_base (by first | exact ho1 | exact Kd.S_N ho1))) (fun _ h_ => h_.1))
        have n5_ := zX (Kd.V_mono (Kd.V_told (Kd.V_told (Kd.V_old (by (with_reducible repeat (first | apply zb | apply zc | apply zd)); exact HO261.out) hb) (Kd.R_base ho0)) (Kd.N_base (by first | exact ho1 | exact Kd.S_N ho1))) (fun _ h_ => h_.1))
        have n6_ := zX (Kd.R_lower (Kd.R_new' (Kd.R_new' ho0 (Kd.R_lt (by (with_reducible repeat (first | apply za | apply zg | apply zh)); exact HO241.out))) (Kd.R_lt (by (with_reducible repeat (first | apply za | apply zg | apply zh)); exact HO252.out))) (zY (by repeat (first | (with_reducible first | exact HB.out | apply zF | apply zE | apply zG | refine zK ?_ GE235.out | refine zK ?_ GE236.out | refine zK ?_ GE237.out | refine zK ?_ GE263.out) | exact HB.out))))
        have n7_ := zX (Kd.N_lower (Kd.N_mono (ok' := fun k_ => some k_ ≠ (v265 : Value).ownBlock ∧ some k_ ≠ (.slice Ao19 t239.length co19 : Value).ownBlock ∧ some k_ ≠ (.slice Ao21 t242.length co21 : Value).ownBlock ∧ some k_ ≠ (v251 : Value).ownBlock ∧ some k_ ≠ (v254 : Value).ownBlock ∧ k_ ≠ gb235 ∧ k_ ≠ gb236 ∧ k_ ≠ gb237 ∧ k_ ≠ gb263) (Kd.S_N (Kd.S_bound ho1)) (fun k_ hk_ => ⟨hk_.1, (Kd.fresh' (Kd.R_lt (by (with_reducible repeat (first | apply za | apply zg | apply zh)); exact HO241.out)) k_ hk_.2.1), (Kd.fresh' (Kd.N_lt (by (with_reducible repeat (first | apply ze | apply zo | apply zp)); exact HO244.out)) k_ hk_.2.1), (Kd.fresh' (Kd.R_lt (by (with_reducible repeat (first | apply za | apply zg | apply zh)); exact HO252.out)) k_ hk_.2.1), (Kd.fresh' (Kd.N_lt (by (with_reducible repeat (first | apply ze | apply zo | apply zp)); exact HO255.out)) k_ hk_.2.1), (zl (g := gb235) (o := .cells #[.int .i64 a0_0, .int .i64 a0_1, .int .i64 a0_2, .int .i64 a0_3, .int .i64 a0_4] 23 (0, 0)) (by (with_reducible repeat (first | refine zL ?_ _ | refine zM ?_ | refine zJ ?_ _)); exact BK235.out) k_ hk_.2.1), (zl (g := gb236) (o := .cells #[.slice Ao19 t239.length co19, .slice Ao21 t242.length co21] 27 (0, 0)) (by (with_reducible repeat (first | refine zL ?_ _ | refine zM ?_ | refine zJ ?_ _)); exact BK236.out) k_ hk_.2.1), (zl (g := gb237) (o := .cells #[.int .i64 t245, .string t246, .string t247, .string t248, .int .i64 t249] 29 (0, 0)) (by (with_reducible repeat (first | refine zL ?_ _ | refine zM ?_ | refine zJ ?_ _)); exact BK237.out) k_ hk_.2.1), (zl (g := gb263) (o := .cells #[.slice Ao36 t256.length co36, .slice Ao38 t259.length co38] 39 (0, 0)) (by (with_reducible repeat (first | refine zL ?_ _ | refine zM ?_ | refine zJ ?_ _)); exact BK263.out) k_ hk_.2.1)⟩)) (zY (by repeat (first | (with_reducible first | exact HB.out | apply zF | apply zE | apply zG | refine zK ?_ GE235.out | refine zK ?_ GE236.out | refine zK ?_ GE237.out | refine zK ?_ GE263.out) | exact HB.out))))
        have n8_ := zX (zm (g := gb235) (o := .cells #[.int .i64 a0_0, .int .i64 a0_1, .int .i64 a0_2, .int .i64 a0_3, .int .i64 a0_4] 23 (0, 0)) (by (with_reducible repeat (first | refine zL ?_ _ | refine zM ?_ | refine zJ ?_ _)); exact BK235.out) hb)
        have n9_ := zX (zm (g := gb236) (o := .cells #[.slice Ao19 t239.length co19, .slice Ao21 t242.length co21] 27 (0, 0)) (by (with_reducible repeat (first | refine zL ?_ _ | refine zM ?_ | refine zJ ?_ _)); exact BK236.out) hb)
        have n10_ := zX (zm (g := gb237) (o := .cells #[.int .i64 t245, .string t246, .string t247, .string t248, .int .i64 t249] 29 (0, 0)) (by (with_reducible repeat (first | refine zL ?_ _ | refine zM ?_ | refine zJ ?_ _)); exact BK237.out) hb)
        have n11_ := zX (zm (g := gb263) (o := .cells #[.slice Ao36 t256.length co36, .slice Ao38 t259.length co38] 39 (0, 0)) (by (with_reducible repeat (first | refine zL ?_ _ | refine zM ?_ | refine zJ ?_ _)); exact BK263.out) hb)
        have n12_ := zX (zT (by repeat (first | (with_reducible first | exact HB.out | apply zF | apply zE | apply zG | refine zK ?_ GE235.out | refine zK ?_ GE236.out | refine zK ?_ GE237.out | refine zK ?_ GE263.out) | exact HB.out)) hb)
        clear HO241
        clear HO244
        clear HO252
        clear HO255
        clear HO258
        clear HO261
        clear BK235
        clear BK236
        clear BK237
        clear BK263
        clear HB
        have HO241 := n0_
        have HO244 := n1_
        have HO252 := n2_
        have HO255 := n3_
        have HO258 := n4_
        have HO261 := n5_
        have HO266 := n6_
        have HO269 := n7_
        have BK235 := n8_
        have BK236 := n9_
        have BK237 := n10_
        have BK263 := n11_
        have HB := n12_
        clear n0_ n1_ n2_ n3_ n4_ n5_ n6_ n7_ n8_ n9_ n10_ n11_ n12_
        (try clear hb)
        (try clear hb2)
        (try clear hk)
        (try clear hi)
        (try clear ho0)
        (try clear ho1)
        obtain ⟨Ao48, co48, eo48⟩ := Kd.R_slice HO266.out
        (first | subst eo48 | (injection eo48 with f1_ f2_ f3_; have f4_ := f1_.symm; have f5_ := f3_.symm; clear f1_ f2_ f3_; subst f4_; subst f5_))
        obtain ⟨Ao49, co49, eo49⟩ := Kd.N_slice HO269.out
        (first | subst eo49 | (injection eo49 with f1_ f2_ f3_; have f4_ := f1_.symm; have f5_ := f3_.symm; clear f1_ f2_ f3_; subst f4_; subst f5_))
        refine hK.out _ _ ⟨(zH BK263.out 0).trans rfl, (zH BK263.out 1).trans rfl, (zH BK236.out 0).trans rfl, (zH BK236.out 1).trans rfl⟩ (fun hHeld => ?_)
        clear hK K
        refine norm_ (a' := ?_) ?_ ?_
        rotate_left
        · show Act.put _ (some 34) _ = _
          simp only [Act.put, zA, zC, zD, i64_w, i32_w]
          rfl
        refine one_ (i := 6) (N := some 35) #[true, true, true, true, true, true, true, false, false] rfl rfl (one_of HT_.out (by kernel_rfl)) (by decide) (fun K hK => ?_)
        refine goes_ Tryd.func22 (by kernel_rfl) rfl #[.agg #[.slice Ao36 t256.length co36, .slice Ao38 t259.length co38], .agg #[.slice Ao48 t264.length co48, .slice Ao49 t267.length co49]] (by rfl) rfl rfl (by (try simp only [zS, zU, zV]); first | done | rfl | (simp only [zO, zN]; rfl)) ?_
        with_reducible refine (model_Same.calls k _ _ t256 _ _ t259 _ _ t264 _ _ t267 t270 _ ?side1 ?side2 ?side3 ?side4 ?side5 ?side6 ?side7 ?side8 A44.out).mono ?_
        (case side1 => repeat (first | exact (Kd.V_reads' HO258.out).2.2 | (with_reducible refine Kd.C_alloc ?_ _) | (with_reducible refine Kd.C_drewN ?_ _) | (with_reducible refine Kd.C_drew ?_)))
        (case side2 => exact (Kd.V_reads' HO258.out).2.1)
        (case side3 => repeat (first | exact (Kd.V_reads' HO261.out).2.2 | (with_reducible refine Kd.C_alloc ?_ _) | (with_reducible refine Kd.C_drewN ?_ _) | (with_reducible refine Kd.C_drew ?_)))
        (case side4 => exact (Kd.V_reads' HO261.out).2.1)
        (case side5 => repeat (first | exact (Kd.R_reads' HO266.out).2.2 | (with_reducible refine Kd.C_alloc ?_ _) | (with_reducible refine Kd.C_drewN ?_ _) | (with_reducible refine Kd.C_drew ?_)))
        (case side6 => exact (Kd.R_reads' HO266.out).2.1)
        (case side7 => repeat (first | exact (Kd.N_reads' HO269.out).2.2 | (with_reducible refine Kd.C_alloc ?_ _) | (with_reducible refine Kd.C_drewN ?_ _) | (with_reducible refine Kd.C_drew ?_)))
        (case side8 => exact (Kd.N_reads' HO269.out).2.1)
        rintro e w50 ⟨rfl, hb⟩
        refine ⟨_, rfl, ?_⟩
        have n0_ := zX (Kd.R_below (by (with_reducible repeat (first | apply za | apply zg | apply zh)); exact HO241.out) hb)
        have n1_ := zX (Kd.N_below (by (with_reducible repeat (first | apply ze | apply zo | apply zp)); exact HO244.out) hb)
        have n2_ := zX (Kd.R_below (by (with_reducible repeat (first | apply za | apply zg | apply zh)); exact HO252.out) hb)
        have n3_ := zX (Kd.N_below (by (with_reducible repeat (first | apply ze | apply zo | apply zp)); exact HO255.out) hb)
        have n4_ := zX (Kd.V_below (by (with_reducible repeat (first | apply zb | apply zc | apply zd)); exact HO258.out) hb)
        have n5_ := zX (Kd.V_below (by (with_reducible repeat (first | apply zb | apply zc | apply zd)); exact HO261.out) hb)
        have n6_ := zX (Kd.R_below (by (with_reducible repeat (first | apply za | apply zg | apply zh)); exact HO266.out) hb)
        have n7_ := zX (Kd.N_below (by (with_reducible repeat (first | apply ze | apply zo | apply zp)); exact HO269.out) hb)
        have n8_ := zX (zm (g := gb235) (o := .cells #[.int .i64 a0_0, .int .i64 a0_1, .int .i64 a0_2, .int .i64 a0_3, .int .i64 a0_4] 23 (0, 0)) (by (with_reducible repeat (first | refine zL ?_ _ | refine zM ?_ | refine zJ ?_ _)); exact BK235.out) hb)
        have n9_ := zX (zm (g := gb236) (o := .cells #[.slice Ao19 t239.length co19, .slice Ao21 t242.length co21] 27 (0, 0)) (by (with_reducible repeat (first | refine zL ?_ _ | refine zM ?_ | refine zJ ?_ _)); exact BK236.out) hb)
        have n10_ := zX (zm (g := gb237) (o := .cells #[.int .i64 t245, .string t246, .string t247, .string t248, .int .i64 t249] 29 (0, 0)) (by (with_reducible repeat (first | refine zL ?_ _ | refine zM ?_ | refine zJ ?_ _)); exact BK237.out) hb)
        have n11_ := zX (zm (g := gb263) (o := .cells #[.slice Ao36 t256.length co36, .slice Ao38 t259.length co38] 39 (0, 0)) (by (with_reducible repeat (first | refine zL ?_ _ | refine zM ?_ | refine zJ ?_ _)); exact BK263.out) hb)
        have n12_ := zX (zT (by repeat (first | (with_reducible first | exact HB.out | apply zF | apply zE | apply zG | refine zK ?_ GE235.out | refine zK ?_ GE236.out | refine zK ?_ GE237.out | refine zK ?_ GE263.out) | exact HB.out)) hb)
        clear HO241
        clear HO244
        clear HO252
        clear HO255
        clear HO258
        clear HO261
        clear HO266
        clear HO269
        clear BK235
        clear BK236
        clear BK237
        clear BK263
        clear HB
        have HO241 := n0_
        have HO244 := n1_
        have HO252 := n2_
        have HO255 := n3_
        have HO258 := n4_
        have HO261 := n5_
        have HO266 := n6_
        have HO269 := n7_
        have BK235 := n8_
        have BK236 := n9_
        have BK237 := n10_
        have BK263 := n11_
        have HB := n12_
        clear n0_ n1_ n2_ n3_ n4_ n5_ n6_ n7_ n8_ n9_ n10_ n11_ n12_
        (try clear hb)
        (try clear hb2)
        (try clear hk)
        (try clear hi)
        refine hK.out _ _ ⟨(zH BK263.out 0).trans rfl, (zH BK263.out 1).trans rfl, (zH BK236.out 0).trans rfl, (zH BK236.out 1).trans rfl⟩ (fun hHeld => ?_)
        clear hK K
        refine norm_ (a' := ?_) ?_ ?_
        rotate_left
        · show Act.put _ (some 35) _ = _
          simp only [Act.put, zA, zC, zD, i64_w, i32_w]
          rfl
        refine pure_ (i := 7) (N := some 36) (v := ?_) (a' := ?_) #[true, true, true, true, true, true, true, true, false] rfl rfl (any_of HT_.out (by kernel_rfl)) (fun _ _ _ h => h) (Or.inl ⟨by rfl, ?_⟩) ?_ ?_
        rotate_left
        · intro w'
          go_simp
          with_reducible rfl
        rotate_left
        · simp only [Act.put, zA, zC, zD, i64_w, i32_w]
          rfl
        refine pure_ (i := 8) (N := some 37) (v := ?_) (a' := ?_) #[true, true, true, true, true, true, true, true, true] rfl rfl (any_of HT_.out (by kernel_rfl)) (fun _ _ _ h => h) (Or.inl ⟨by rfl, ?_⟩) ?_ ?_
        rotate_left
        · intro w'
          go_simp
          with_reducible rfl
        rotate_left
        · simp only [Act.put, zA, zC, zD, i64_w, i32_w]
          rfl
        refine done_ (done_of HT_.out (by kernel_rfl)) ?_
        try go_wp2
        go_meet
        case rel => exact ⟨_, (!t270), (by first | rfl | (simp; done) | (simp [*]; done)), H', ⟨by first | omega | exact Nat.le_refl _⟩, ⟨by (with_reducible repeat (first | apply za | apply zg | apply zh)); exact Kd.R_mono HO241.out (fun _ hk => trivial)⟩, ⟨by (with_reducible repeat (first | apply ze | apply zo | apply zp)); exact Kd.N_mono HO244.out (fun _ hk => ⟨hk.1.1.1, ⟨hk.1.1.2.2.2.1, ⟨hk.1.1.2.2.2.2.1, ⟨hk.1.1.2.2.2.2.2.1, hk.1.1.2.2.2.2.2.2⟩⟩⟩⟩)⟩, ⟨by (with_reducible repeat (first | apply zb | apply zc | apply zd)); exact Kd.V_mono HO258.out (fun _ hk => ⟨hk.1.1.1, ⟨hk.1.1.2.1, ⟨hk.1.1.2.2.1, ⟨hk.1.1.2.2.2.1, ⟨hk.1.1.2.2.2.2.1, hk.1.1.2.2.2.2.2⟩⟩⟩⟩⟩)⟩, ⟨by (with_reducible repeat (first | apply zb | apply zc | apply zd)); exact Kd.V_mono HO261.out (fun _ hk => ⟨hk.1.1.1, ⟨hk.1.1.2.1, ⟨hk.1.1.2.2.1, ⟨hk.1.1.2.2.2.1, ⟨hk.1.1.2.2.2.2.1, hk.1.1.2.2.2.2.2⟩⟩⟩⟩⟩)⟩, ⟨by (with_reducible repeat (first | refine zL ?_ _ | refine zM ?_ | refine zJ ?_ _)); exact BK235.out⟩, ⟨by (with_reducible repeat (first | refine zL ?_ _ | refine zM ?_ | refine zJ ?_ _)); exact BK236.out⟩, ⟨by (with_reducible repeat (first | refine zL ?_ _ | refine zM ?_ | refine zJ ?_ _)); exact BK237.out⟩, ⟨by (with_reducible repeat (first | refine zL ?_ _ | refine zM ?_ | refine zJ ?_ _)); exact BK263.out⟩, ⟨by repeat (first | (with_reducible first | exact HB.out | apply zF | apply zE | apply zG | refine zK ?_ GE235.out | refine zK ?_ GE236.out | refine zK ?_ GE237.out | refine zK ?_ GE263.out) | exact HB.out)⟩⟩
    case rest =>
      clear HC11
      try clear c1
      try clear c2
      try clear p2
      try clear c4
      try clear c10
      try clear c12
      try clear c22
      try clear c40
      obtain ⟨kq, x37_10, rfl, HA, HJ10, HO_237000, HO_237001, HO_264000, HO_264001, BK235, BK236, BK237, BK263, HB⟩ := hcut
      cases kq with
      | zero => exact absurd HA.out (by simp [boscagelaw31_ModelKeeps.j0])
      | succ kj10 =>
        have H := HA.out
        clear HA
        simp only [boscagelaw31_ModelKeeps.j0] at H
        by_cases c51 : x37_10 = true
        · subst c51
          have H1 : (some false) = some r := by rw [if_pos rfl] at H; exact H
          clear H
          have H := H1
          clear H1
          obtain rfl := zQ H
          go_wp2
          go_ret
          exact ⟨by first | rfl | (simp [errW_none, errW_some] <;> rfl) | (simp [*, errW_none, errW_some] <;> rfl), by repeat (first | (with_reducible first | exact HB.out | apply zF | apply zE | apply zG | refine zK ?_ GE235.out | refine zK ?_ GE236.out | refine zK ?_ GE237.out | refine zK ?_ GE263.out) | exact HB.out)⟩
        · replace c51 := Bool.eq_false_iff.mpr c51
          subst c51
          have H1 : ((boscageref31_At.f kj10 t239 t242 a3).bind fun bt271 => ((boscagelaw31_Back.f kj10 t256 t259).bind fun bt275 => ((boscageref31_At.f kj10 bt275.1 bt275.2 a3).bind fun bt281 => (if t245 = 8 then (if t249 = a3 then (some true) else (if (bt271.2 == bt281.2) = true then ((boscageref31_Same.f kj10 bt271.1 ([] : List (S61)) bt281.1 ([] : List (S61))).bind fun t285 => (some t285)) else (some false))) else (if (bt271.2 == bt281.2) = true then ((boscageref31_Same.f kj10 bt271.1 ([] : List (S61)) bt281.1 ([] : List (S61))).bind fun t286 => (some t286)) else (some false)))))) = some r := by rw [if_neg (show ¬ (false = true) by decide)] at H; exact H
          clear H
          have H := H1
          clear H1
          replace H := Option.bind_eq_some_iff.mp H
          obtain ⟨⟨t271, t274⟩, A520, H⟩ := H
          replace H : ((boscagelaw31_Back.f kj10 t256 t259).bind fun bt275 => ((boscageref31_At.f kj10 bt275.1 bt275.2 a3).bind fun bt281 => (if t245 = 8 then (if t249 = a3 then (some true) else (if (t274 == bt281.2) = true then ((boscageref31_Same.f kj10 t271 ([] : List (S61)) bt281.1 ([] : List (S61))).bind fun t285 => (some t285)) else (some false))) else (if (t274 == bt281.2) = true then ((boscageref31_Same.f kj10 t271 ([] : List (S61)) bt281.1 ([] : List (S61))).bind fun t286 => (some t286)) else (some false))))) = some r := H
          have A52 := zX A520
          clear A520
          replace H := Option.bind_eq_some_iff.mp H
          obtain ⟨⟨t275, t278⟩, A530, H⟩ := H
          replace H : ((boscageref31_At.f kj10 t275 t278 a3).bind fun bt281 => (if t245 = 8 then (if t249 = a3 then (some true) else (if (t274 == bt281.2) = true then ((boscageref31_Same.f kj10 t271 ([] : List (S61)) bt281.1 ([] : List (S61))).bind fun t285 => (some t285)) else (some false))) else (if (t274 == bt281.2) = true then ((boscageref31_Same.f kj10 t271 ([] : List (S61)) bt281.1 ([] : List (S61))).bind fun t286 => (some t286)) else (some false)))) = some r := H
          have A53 := zX A530
          clear A530
          replace H := Option.bind_eq_some_iff.mp H
          obtain ⟨⟨t281, t284⟩, A540, H⟩ := H
          replace H : (if t245 = 8 then (if t249 = a3 then (some true) else (if (t274 == t284) = true then ((boscageref31_Same.f kj10 t271 ([] : List (S61)) t281 ([] : List (S61))).bind fun t285 => (some t285)) else (some false))) else (if (t274 == t284) = true then ((boscageref31_Same.f kj10 t271 ([] : List (S61)) t281 ([] : List (S61))).bind fun t286 => (some t286)) else (some false))) = some r := H
          have A54 := zX A540
          clear A540
          by_cases c55 : t245 = 8
          · rw [if_pos c55] at H
            have c55b0 : (t245 == 8) = true := beq_iff_eq.mpr c55
            have c55b1 : (t245 != 8) = false := bne_eq_false_iff_eq.mpr c55
            clear c55
            by_cases c56 : t249 = a3
            · rw [if_pos c56] at H
              have c56b0 : (t249 == a3) = true := beq_iff_eq.mpr c56
              have c56b1 : (t249 != a3) = false := bne_eq_false_iff_eq.mpr c56
              clear c56
              obtain rfl := zQ H
              have hnb57 := NB236_235.out
              have hnc57 := NB235_236.out
              have hnb58 := NB236_237.out
              have hnc58 := NB237_236.out
              have hnb59 := NB236_263.out
              have hnc59 := NB263_236.out
              have hcz60_0 : wc.cell? ⟨gb236, 0, none⟩ = some (.slice Ao19 t239.length co19) := (zH BK236.out 0).trans rfl
              have hcz60_1 : wc.cell? ⟨gb236, 1, none⟩ = some (.slice Ao21 t242.length co21) := (zH BK236.out 1).trans rfl
              have hfz60_0 := zI BK236.out 0
              have hfz60_1 := zI BK236.out 1
              go_wp2_with (first | ((with_reducible refine gate_callee (f := 23) rfl ?_); refine goesL_ (some 41) rfl rfl Tryd.func23 (by kernel_rfl) rfl #[.agg #[.slice Ao19 t239.length co19, .slice Ao21 t242.length co21], .int .i64 a3] rfl (by (try simp only [zS, zU, zV]); first | done | rfl | (simp only [zO, zN]; rfl)) ?_; (with_reducible refine (boscageref31_At.calls kj10 _ _ t239 (fun k_ => (some k_ ≠ (.slice Ao19 t239.length co19 : Value).ownBlock ∧ (k_ ≠ gb235 ∧ (k_ ≠ gb236 ∧ (k_ ≠ gb237 ∧ k_ ≠ gb263))))) _ _ t242 a3 t271 t274 _ ?side1 ?side2 ?side3 A52.out).mono ?_); (case side1 => repeat (first | exact (Kd.R_reads' HO_237000.out).2.2 | (with_reducible refine Kd.C_alloc ?_ _) | (with_reducible refine Kd.C_drewN ?_ _) | (with_reducible refine Kd.C_drew ?_))); (case side2 => exact (Kd.R_reads' HO_237000.out).2.1); (case side3 => exact Kd.N_V (HO_237001.out)); rintro e w61 ⟨v272, rfl, ho0, hb⟩; refine ⟨_, rfl, ?_⟩; have n0_ := zX (Kd.R_below (by (with_reducible repeat (first | apply za | apply zg | apply zh)); exact HO_237000.out) hb); have n1_ := zX (Kd.N_below (by (with_reducible repeat (first | apply ze | apply zo | apply zp)); exact HO_237001.out) hb); have n2_ := zX (Kd.V_below (by (with_reducible repeat (first | apply zb | apply zc | apply zd)); exact HO_264000.out) hb); have n3_ := zX (Kd.V_below (by (with_reducible repeat (first | apply zb | apply zc | apply zd)); exact HO_264001.out) hb); have n4_ := zX (Kd.V_lower (Kd.V_mono (ok' := fun k_ => some k_ ≠ (.slice Ao19 t239.length co19 : Value).ownBlock ∧ k_ ≠ gb235 ∧ k_ ≠ gb236 ∧ k_ ≠ gb237 ∧ k_ ≠ gb263) ho0 (fun k_ hk_ => ⟨zj hk_ (fun hs_ => hs_.1) (fun hn_ => (Kd.fresh' (Kd.R_lt (by (with_reducible repeat (first | apply za | apply zg | apply zh)); exact HO_237000.out)) k_ hn_)), zj hk_ (fun hs_ => hs_.2.1) (fun hn_ => (zl (g := gb235) (o := .cells #[.int .i64 a0_0, .int .i64 a0_1, .int .i64 a0_2, .int .i64 a0_3, .int .i64 a0_4] 23 (0, 0)) (by (with_reducible repeat (first | refine zL ?_ _ | refine zM ?_ | refine zJ ?_ _)); exact BK235.out) k_ hn_)), zj hk_ (fun hs_ => hs_.2.2.1) (fun hn_ => (zl (g := gb236) (o := .cells #[.slice Ao19 t239.length co19, .slice Ao21 t242.length co21] 27 (0, 0)) (by (with_reducible repeat (first | refine zL ?_ _ | refine zM ?_ | refine zJ ?_ _)); exact BK236.out) k_ hn_)), zj hk_ (fun hs_ => hs_.2.2.2.1) (fun hn_ => (zl (g := gb237) (o := .cells #[.int .i64 t245, .string t246, .string t247, .string t248, .int .i64 t249] 29 (0, 0)) (by (with_reducible repeat (first | refine zL ?_ _ | refine zM ?_ | refine zJ ?_ _)); exact BK237.out) k_ hn_)), zj hk_ (fun hs_ => hs_.2.2.2.2) (fun hn_ => (zl (g := gb263) (o := .cells #[.slice Ao36 t256.length co36, .slice Ao38 t259.length co38] 39 (0, 0)) (by (with_reducible repeat (first | refine zL ?_ _ | refine zM ?_ | refine zJ ?_ _)); exact BK263.out) k_ hn_))⟩)) (zY (by repeat (first | (with_reducible first | exact HB.out | apply zF | apply zE | apply zG | refine zK ?_ GE235.out | refine zK ?_ GE236.out | refine zK ?_ GE237.out | refine zK ?_ GE263.out) | exact HB.out)))); have n5_ := zX (zm (g := gb235) (o := .cells #[.int .i64 a0_0, .int .i64 a0_1, .int .i64 a0_2, .int .i64 a0_3, .int .i64 a0_4] 23 (0, 0)) (by (with_reducible repeat (first | refine zL ?_ _ | refine zM ?_ | refine zJ ?_ _)); exact BK235.out) hb); have n6_ := zX (zm (g := gb236) (o := .cells #[.slice Ao19 t239.length co19, .slice Ao21 t242.length co21] 27 (0, 0)) (by (with_reducible repeat (first | refine zL ?_ _ | refine zM ?_ | refine zJ ?_ _)); exact BK236.out) hb); have n7_ := zX (zm (g := gb237) (o := .cells #[.int .i64 t245, .string t246, .string t247, .string t248, .int .i64 t249] 29 (0, 0)) (by (with_reducible repeat (first | refine zL ?_ _ | refine zM ?_ | refine zJ ?_ _)); exact BK237.out) hb); have n8_ := zX (zm (g := gb263) (o := .cells #[.slice Ao36 t256.length co36, .slice Ao38 t259.length co38] 39 (0, 0)) (by (with_reducible repeat (first | refine zL ?_ _ | refine zM ?_ | refine zJ ?_ _)); exact BK263.out) hb); have n9_ := zX (zT (by repeat (first | (with_reducible first | exact HB.out | apply zF | apply zE | apply zG | refine zK ?_ GE235.out | refine zK ?_ GE236.out | refine zK ?_ GE237.out | refine zK ?_ GE263.out) | exact HB.out)) hb); clear HO_237000; clear HO_237001; clear HO_264000; clear HO_264001; clear BK235; clear BK236; clear BK237; clear BK263; clear HB; have HO_237000 := n0_; have HO_237001 := n1_; have HO_264000 := n2_; have HO_264001 := n3_; have HO273 := n4_; have BK235 := n5_; have BK236 := n6_; have BK237 := n7_; have BK263 := n8_; have HB := n9_; clear n0_ n1_ n2_ n3_ n4_ n5_ n6_ n7_ n8_ n9_; (try clear hb); (try clear hb2); (try clear hk); (try clear hi); (try clear ho0); have hnb62 := NB263_235.out; have hnc62 := NB235_263.out; have hnb63 := NB263_237.out; have hnc63 := NB237_263.out; have hcz64_0 : w61.cell? ⟨gb263, 0, none⟩ = some (.slice Ao36 t256.length co36) := (zH BK263.out 0).trans rfl; have hcz64_1 : w61.cell? ⟨gb263, 1, none⟩ = some (.slice Ao38 t259.length co38) := (zH BK263.out 1).trans rfl; have hfz64_0 := zI BK263.out 0; have hfz64_1 := zI BK263.out 1) | ((with_reducible refine gate_callee (f := 15) rfl ?_); refine goesL_ (some 46) rfl rfl Tryd.func15 (by kernel_rfl) rfl #[.agg #[.slice Ao36 t256.length co36, .slice Ao38 t259.length co38]] rfl (by (try simp only [zS, zU, zV]); first | done | rfl | (simp only [zO, zN]; rfl)) ?_; (with_reducible refine (boscagelaw31_Back.calls kj10 (fun k_ => (some k_ ≠ (.slice Ao19 t239.length co19 : Value).ownBlock ∧ (some k_ ≠ (.slice Ao21 t242.length co21 : Value).ownBlock ∧ (k_ ≠ gb235 ∧ (k_ ≠ gb236 ∧ (k_ ≠ gb237 ∧ k_ ≠ gb263)))))) _ _ t256 (fun k_ => (some k_ ≠ (.slice Ao19 t239.length co19 : Value).ownBlock ∧ (some k_ ≠ (.slice Ao21 t242.length co21 : Value).ownBlock ∧ (k_ ≠ gb235 ∧ (k_ ≠ gb236 ∧ (k_ ≠ gb237 ∧ k_ ≠ gb263)))))) _ _ t259 t275 t278 _ ?side1 ?side2 A53.out).mono ?_); (case side1 => exact HO_264000.out); (case side2 => exact HO_264001.out); rintro e w65 ⟨v276, v279, rfl, ho0, ho1, hb⟩; refine ⟨_, rfl, ?_⟩; have n0_ := zX (Kd.R_below (by (with_reducible repeat (first | apply za | apply zg | apply zh)); exact HO_237000.out) hb); have n1_ := zX (Kd.N_elder' (by (with_reducible repeat (first | apply ze | apply zo | apply zp)); exact HO_237001.out) (Kd.N_base (by first | exact ho1 | exact Kd.S_N ho1)) hb); have n2_ := zX (Kd.V_elder' (by (with_reducible repeat (first | apply zb | apply zc | apply zd)); exact HO_264000.out) (Kd.N_base (by first | exact ho1 | exact Kd.S_N ho1)) hb); have n3_ := zX (Kd.V_elder' (by (with_reducible repeat (first | apply zb | apply zc | apply zd)); exact HO_264001.out) (Kd.N_base (by first | exact ho1 | exact Kd.S_N ho1)) hb); have n4_ := zX (Kd.V_elder' (by (with_reducible repeat (first | apply zb | apply zc | apply zd)); exact HO273.out) (Kd.N_base (by first | exact ho1 | exact Kd.S_N ho1)) hb); have n5_ := zX (Kd.V_lower (Kd.V_mono (ok' := fun k_ => some k_ ≠ (v279 : Value).ownBlock ∧ some k_ ≠ (.slice Ao19 t239.length co19 : Value).ownBlock ∧ some k_ ≠ (.slice Ao21 t242.length co21 : Value).ownBlock ∧ k_ ≠ gb235 ∧ k_ ≠ gb236 ∧ k_ ≠ gb237 ∧ k_ ≠ gb263) ho0 (fun k_ hk_ => ⟨hk_.2, zj hk_.1 (fun hs_ => zj hs_ (fun hs_ => hs_.1) (fun hs_ => hs_.1)) (fun hn_ => (Kd.fresh' (Kd.R_lt (by (with_reducible repeat (first | apply za | apply zg | apply zh)); exact HO_237000.out)) k_ hn_)), zj hk_.1 (fun hs_ => zj hs_ (fun hs_ => hs_.2.1) (fun hs_ => hs_.2.1)) (fun hn_ => (Kd.fresh' (Kd.N_lt (by (with_reducible repeat (first | apply ze | apply zo | apply zp)); exact HO_237001.out)) k_ hn_)), zj hk_.1 (fun hs_ => zj hs_ (fun hs_ => hs_.2.2.1) (fun hs_ => hs_.2.2.1)) (fun hn_ => (zl (g := gb235) (o := .cells #[.int .i64 a0_0, .int .i64 a0_1, .int .i64 a0_2, .int .i64 a0_3, .int .i64 a0_4] 23 (0, 0)) (by (with_reducible repeat (first | refine zL ?_ _ | refine zM ?_ | refine zJ ?_ _)); exact BK235.out) k_ hn_)), zj hk_.1 (fun hs_ => zj hs_ (fun hs_ => hs_.2.2.2.1) (fun hs_ => hs_.2.2.2.1)) (fun hn_ => (zl (g := gb236) (o := .cells #[.slice Ao19 t239.length co19, .slice Ao21 t242.length co21] 27 (0, 0)) (by (with_reducible repeat (first | refine zL ?_ _ | refine zM ?_ | refine zJ ?_ _)); exact BK236.out) k_ hn_)), zj hk_.1 (fun hs_ => zj hs_ (fun hs_ => hs_.2.2.2.2.1) (fun hs_ => hs_.2.2.2.2.1)) (fun hn_ => (zl (g := gb237) (o := .cells #[.int .i64 t245, .string t246, .string t247, .string t248, .int .i64 t249] 29 (0, 0)) (by (with_reducible repeat (first | refine zL ?_ _ | refine zM ?_ | refine zJ ?_ _)); exact BK237.out) k_ hn_)), zj hk_.1 (fun hs_ => zj hs_ (fun hs_ => hs_.2.2.2.2.2) (fun hs_ => hs_.2.2.2.2.2)) (fun hn_ => (zl (g := gb263) (o := .cells #[.slice Ao36 t256.length co36, .slice Ao38 t259.length co38] 39 (0, 0)) (by (with_reducible repeat (first | refine zL ?_ _ | refine zM ?_ | refine zJ ?_ _)); exact BK263.out) k_ hn_))⟩)) (zY (by repeat (first | (with_reducible first | exact HB.out | apply zF | apply zE | apply zG | refine zK ?_ GE235.out | refine zK ?_ GE236.out | refine zK ?_ GE237.out | refine zK ?_ GE263.out) | exact HB.out)))); have n6_ := zX (Kd.N_lower (Kd.N_mono (ok' := fun k_ => some k_ ≠ (.slice Ao19 t239.length co19 : Value).ownBlock ∧ some k_ ≠ (.slice Ao21 t242.length co21 : Value).ownBlock ∧ k_ ≠ gb235 ∧ k_ ≠ gb236 ∧ k_ ≠ gb237 ∧ k_ ≠ gb263) ho1 (fun k_ hk_ => ⟨zj hk_ (fun hs_ => zj hs_ (fun hs_ => hs_.1) (fun hs_ => hs_.1)) (fun hn_ => (Kd.fresh' (Kd.R_lt (by (with_reducible repeat (first | apply za | apply zg | apply zh)); exact HO_237000.out)) k_ hn_)), zj hk_ (fun hs_ => zj hs_ (fun hs_ => hs_.2.1) (fun hs_ => hs_.2.1)) (fun hn_ => (Kd.fresh' (Kd.N_lt (by (with_reducible repeat (first | apply ze | apply zo | apply zp)); exact HO_237001.out)) k_ hn_)), zj hk_ (fun hs_ => zj hs_ (fun hs_ => hs_.2.2.1) (fun hs_ => hs_.2.2.1)) (fun hn_ => (zl (g := gb235) (o := .cells #[.int .i64 a0_0, .int .i64 a0_1, .int .i64 a0_2, .int .i64 a0_3, .int .i64 a0_4] 23 (0, 0)) (by (with_reducible repeat (first | refine zL ?_ _ | refine zM ?_ | refine zJ ?_ _)); exact BK235.out) k_ hn_)), zj hk_ (fun hs_ => zj hs_ (fun hs_ => hs_.2.2.2.1) (fun hs_ => hs_.2.2.2.1)) (fun hn_ => (zl (g := gb236) (o := .cells #[.slice Ao19 t239.length co19, .slice Ao21 t242.length co21] 27 (0, 0)) (by (with_reducible repeat (first | refine zL ?_ _ | refine zM ?_ | refine zJ ?_ _)); exact BK236.out) k_ hn_)), zj hk_ (fun hs_ => zj hs_ (fun hs_ => hs_.2.2.2.2.1) (fun hs_ => hs_.2.2.2.2.1)) (fun hn_ => (zl (g := gb237) (o := .cells #[.int .i64 t245, .string t246, .string t247, .string t248, .int .i64 t249] 29 (0, 0)) (by (with_reducible repeat (first | refine zL ?_ _ | refine zM ?_ | refine zJ ?_ _)); exact BK237.out) k_ hn_)), zj hk_ (fun hs_ => zj hs_ (fun hs_ => hs_.2.2.2.2.2) (fun hs_ => hs_.2.2.2.2.2)) (fun hn_ => (zl (g := gb263) (o := .cells #[.slice Ao36 t256.length co36, .slice Ao38 t259.length co38] 39 (0, 0)) (by (with_reducible repeat (first | refine zL ?_ _ | refine zM ?_ | refine zJ ?_ _)); exact BK263.out) k_ hn_))⟩)) (zY (by repeat (first | (with_reducible first | exact HB.out | apply zF | apply zE | apply zG | refine zK ?_ GE235.out | refine zK ?_ GE236.out | refine zK ?_ GE237.out | refine zK ?_ GE263.out) | exact HB.out)))); have n7_ := zX (zm (g := gb235) (o := .cells #[.int .i64 a0_0, .int .i64 a0_1, .int .i64 a0_2, .int .i64 a0_3, .int .i64 a0_4] 23 (0, 0)) (by (with_reducible repeat (first | refine zL ?_ _ | refine zM ?_ | refine zJ ?_ _)); exact BK235.out) hb); have n8_ := zX (zm (g := gb236) (o := .cells #[.slice Ao19 t239.length co19, .slice Ao21 t242.length co21] 27 (0, 0)) (by (with_reducible repeat (first | refine zL ?_ _ | refine zM ?_ | refine zJ ?_ _)); exact BK236.out) hb); have n9_ := zX (zm (g := gb237) (o := .cells #[.int .i64 t245, .string t246, .string t247, .string t248, .int .i64 t249] 29 (0, 0)) (by (with_reducible repeat (first | refine zL ?_ _ | refine zM ?_ | refine zJ ?_ _)); exact BK237.out) hb); have n10_ := zX (zm (g := gb263) (o := .cells #[.slice Ao36 t256.length co36, .slice Ao38 t259.length co38] 39 (0, 0)) (by (with_reducible repeat (first | refine zL ?_ _ | refine zM ?_ | refine zJ ?_ _)); exact BK263.out) hb); have n11_ := zX (zT (by repeat (first | (with_reducible first | exact HB.out | apply zF | apply zE | apply zG | refine zK ?_ GE235.out | refine zK ?_ GE236.out | refine zK ?_ GE237.out | refine zK ?_ GE263.out) | exact HB.out)) hb); clear HO_237000; clear HO_237001; clear HO_264000; clear HO_264001; clear HO273; clear BK235; clear BK236; clear BK237; clear BK263; clear HB; have HO_237000 := n0_; have HO_237001 := n1_; have HO_264000 := n2_; have HO_264001 := n3_; have HO273 := n4_; have HO277 := n5_; have HO280 := n6_; have BK235 := n7_; have BK236 := n8_; have BK237 := n9_; have BK263 := n10_; have HB := n11_; clear n0_ n1_ n2_ n3_ n4_ n5_ n6_ n7_ n8_ n9_ n10_ n11_; (try clear hb); (try clear hb2); (try clear hk); (try clear hi); (try clear ho0); (try clear ho1); obtain ⟨Ao66, co66, eo66⟩ := Kd.V_slice HO277.out; subst eo66; obtain ⟨Ao67, co67, eo67⟩ := Kd.N_slice HO280.out; subst eo67) | ((with_reducible refine gate_callee (f := 23) rfl ?_); refine goesL_ (some 48) rfl rfl Tryd.func23 (by kernel_rfl) rfl #[.agg #[.slice Ao66 t275.length co66, .slice Ao67 t278.length co67], .int .i64 a3] rfl (by (try simp only [zS, zU, zV]); first | done | rfl | (simp only [zO, zN]; rfl)) ?_; (with_reducible refine (boscageref31_At.calls kj10 _ _ t275 (fun k_ => (some k_ ≠ (.slice Ao19 t239.length co19 : Value).ownBlock ∧ (some k_ ≠ (.slice Ao21 t242.length co21 : Value).ownBlock ∧ (k_ ≠ gb235 ∧ (k_ ≠ gb236 ∧ (k_ ≠ gb237 ∧ k_ ≠ gb263)))))) _ _ t278 a3 t281 t284 _ ?side1 ?side2 ?side3 A54.out).mono ?_); (case side1 => repeat (first | exact (Kd.V_reads' HO277.out).2.2 | (with_reducible refine Kd.C_alloc ?_ _) | (with_reducible refine Kd.C_drewN ?_ _) | (with_reducible refine Kd.C_drew ?_))); (case side2 => exact (Kd.V_reads' HO277.out).2.1); (case side3 => exact Kd.N_V (HO280.out)); rintro e w68 ⟨v282, rfl, ho0, hb⟩; refine ⟨_, rfl, ?_⟩; have n0_ := zX (Kd.R_below (by (with_reducible repeat (first | apply za | apply zg | apply zh)); exact HO_237000.out) hb); have n1_ := zX (Kd.N_below (by (with_reducible repeat (first | apply ze | apply zo | apply zp)); exact HO_237001.out) hb); have n2_ := zX (Kd.V_below (by (with_reducible repeat (first | apply zb | apply zc | apply zd)); exact HO_264000.out) hb); have n3_ := zX (Kd.V_below (by (with_reducible repeat (first | apply zb | apply zc | apply zd)); exact HO_264001.out) hb); have n4_ := zX (Kd.V_below (by (with_reducible repeat (first | apply zb | apply zc | apply zd)); exact HO273.out) hb); have n5_ := zX (Kd.V_below (by (with_reducible repeat (first | apply zb | apply zc | apply zd)); exact HO277.out) hb); have n6_ := zX (Kd.N_below (by (with_reducible repeat (first | apply ze | apply zo | apply zp)); exact HO280.out) hb); have n7_ := zX (Kd.V_lower (Kd.V_mono (ok' := fun k_ => some k_ ≠ (.slice Ao19 t239.length co19 : Value).ownBlock ∧ some k_ ≠ (.slice Ao21 t242.length co21 : Value).ownBlock ∧ k_ ≠ gb235 ∧ k_ ≠ gb236 ∧ k_ ≠ gb237 ∧ k_ ≠ gb263) ho0 (fun k_ hk_ => ⟨zj hk_ (fun hs_ => hs_.1) (fun hn_ => (Kd.fresh' (Kd.R_lt (by (with_reducible repeat (first | apply za | apply zg | apply zh)); exact HO_237000.out)) k_ hn_)), zj hk_ (fun hs_ => hs_.2.1) (fun hn_ => (Kd.fresh' (Kd.N_lt (by (with_reducible repeat (first | apply ze | apply zo | apply zp)); exact HO_237001.out)) k_ hn_)), zj hk_ (fun hs_ => hs_.2.2.1) (fun hn_ => (zl (g := gb235) (o := .cells #[.int .i64 a0_0, .int .i64 a0_1, .int .i64 a0_2, .int .i64 a0_3, .int .i64 a0_4] 23 (0, 0)) (by (with_reducible repeat (first | refine zL ?_ _ | refine zM ?_ | refine zJ ?_ _)); exact BK235.out) k_ hn_)), zj hk_ (fun hs_ => hs_.2.2.2.1) (fun hn_ => (zl (g := gb236) (o := .cells #[.slice Ao19 t239.length co19, .slice Ao21 t242.length co21] 27 (0, 0)) (by (with_reducible repeat (first | refine zL ?_ _ | refine zM ?_ | refine zJ ?_ _)); exact BK236.out) k_ hn_)), zj hk_ (fun hs_ => hs_.2.2.2.2.1) (fun hn_ => (zl (g := gb237) (o := .cells #[.int .i64 t245, .string t246, .string t247, .string t248, .int .i64 t249] 29 (0, 0)) (by (with_reducible repeat (first | refine zL ?_ _ | refine zM ?_ | refine zJ ?_ _)); exact BK237.out) k_ hn_)), zj hk_ (fun hs_ => hs_.2.2.2.2.2) (fun hn_ => (zl (g := gb263) (o := .cells #[.slice Ao36 t256.length co36, .slice Ao38 t259.length co38] 39 (0, 0)) (by (with_reducible repeat (first | refine zL ?_ _ | refine zM ?_ | refine zJ ?_ _)); exact BK263.out) k_ hn_))⟩)) (zY (by repeat (first | (with_reducible first | exact HB.out | apply zF | apply zE | apply zG | refine zK ?_ GE235.out | refine zK ?_ GE236.out | refine zK ?_ GE237.out | refine zK ?_ GE263.out) | exact HB.out)))); have n8_ := zX (zm (g := gb235) (o := .cells #[.int .i64 a0_0, .int .i64 a0_1, .int .i64 a0_2, .int .i64 a0_3, .int .i64 a0_4] 23 (0, 0)) (by (with_reducible repeat (first | refine zL ?_ _ | refine zM ?_ | refine zJ ?_ _)); exact BK235.out) hb); have n9_ := zX (zm (g := gb236) (o := .cells #[.slice Ao19 t239.length co19, .slice Ao21 t242.length co21] 27 (0, 0)) (by (with_reducible repeat (first | refine zL ?_ _ | refine zM ?_ | refine zJ ?_ _)); exact BK236.out) hb); have n10_ := zX (zm (g := gb237) (o := .cells #[.int .i64 t245, .string t246, .string t247, .string t248, .int .i64 t249] 29 (0, 0)) (by (with_reducible repeat (first | refine zL ?_ _ | refine zM ?_ | refine zJ ?_ _)); exact BK237.out) hb); have n11_ := zX (zm (g := gb263) (o := .cells #[.slice Ao36 t256.length co36, .slice Ao38 t259.length co38] 39 (0, 0)) (by (with_reducible repeat (first | refine zL ?_ _ | refine zM ?_ | refine zJ ?_ _)); exact BK263.out) hb); have n12_ := zX (zT (by repeat (first | (with_reducible first | exact HB.out | apply zF | apply zE | apply zG | refine zK ?_ GE235.out | refine zK ?_ GE236.out | refine zK ?_ GE237.out | refine zK ?_ GE263.out) | exact HB.out)) hb); clear HO_237000; clear HO_237001; clear HO_264000; clear HO_264001; clear HO273; clear HO277; clear HO280; clear BK235; clear BK236; clear BK237; clear BK263; clear HB; have HO_237000 := n0_; have HO_237001 := n1_; have HO_264000 := n2_; have HO_264001 := n3_; have HO273 := n4_; have HO277 := n5_; have HO280 := n6_; have HO283 := n7_; have BK235 := n8_; have BK236 := n9_; have BK237 := n10_; have BK263 := n11_; have HB := n12_; clear n0_ n1_ n2_ n3_ n4_ n5_ n6_ n7_ n8_ n9_ n10_ n11_ n12_; (try clear hb); (try clear hb2); (try clear hk); (try clear hi); (try clear ho0); have hnb69 := NB237_235.out; have hnc69 := NB235_237.out; have hcz70_0 : w68.cell? ⟨gb237, 0, none⟩ = some (.int .i64 t245) := (zH BK237.out 0).trans rfl; have hcz70_1 : w68.cell? ⟨gb237, 1, none⟩ = some (.string t246) := (zH BK237.out 1).trans rfl; have hcz70_2 : w68.cell? ⟨gb237, 2, none⟩ = some (.string t247) := (zH BK237.out 2).trans rfl; have hcz70_3 : w68.cell? ⟨gb237, 3, none⟩ = some (.string t248) := (zH BK237.out 3).trans rfl; have hcz70_4 : w68.cell? ⟨gb237, 4, none⟩ = some (.int .i64 t249) := (zH BK237.out 4).trans rfl; have hfz70_0 := zI BK237.out 0; have hfz70_1 := zI BK237.out 1; have hfz70_2 := zI BK237.out 2; have hfz70_3 := zI BK237.out 3; have hfz70_4 := zI BK237.out 4))
              go_ret
              exact ⟨by first | rfl | (simp [errW_none, errW_some] <;> rfl) | (simp [*, errW_none, errW_some] <;> rfl), by repeat (first | (with_reducible first | exact HB.out | apply zF | apply zE | apply zG | refine zK ?_ GE235.out | refine zK ?_ GE236.out | refine zK ?_ GE237.out | refine zK ?_ GE263.out) | exact HB.out)⟩
            · rw [if_neg c56] at H
              have c56b0 : (t249 == a3) = false := beq_eq_false_iff_ne.mpr c56
              have c56b1 : (t249 != a3) = true := bne_iff_ne.mpr c56
              by_cases c71 : (t274 == t284) = true
              · rw [if_pos c71] at H
                have c71b0 : (t274 == t284) = true := c71
                (try (have c71b1 : decide (t274 = t284) = true := by simpa using c71))
                (try (have c71b2 : (t274 == t284) = true := by simpa using c71))
                clear c71
                replace H := Option.bind_eq_some_iff.mp H
                obtain ⟨t285, A720, H⟩ := H
                replace H : (some t285) = some r := H
                have A72 := zX A720
                clear A720
                obtain rfl := zQ H
                have hnb73 := NB236_235.out
                have hnc73 := NB235_236.out
                have hnb74 := NB236_237.out
                have hnc74 := NB237_236.out
                have hnb75 := NB236_263.out
                have hnc75 := NB263_236.out
                have hcz76_0 : wc.cell? ⟨gb236, 0, none⟩ = some (.slice Ao19 t239.length co19) := (zH BK236.out 0).trans rfl
                have hcz76_1 : wc.cell? ⟨gb236, 1, none⟩ = some (.slice Ao21 t242.length co21) := (zH BK236.out 1).trans rfl
                have hfz76_0 := zI BK236.out 0
                have hfz76_1 := zI BK236.out 1
                go_wp2_with (first | ((with_reducible refine gate_callee (f := 23) rfl ?_); refine goesL_ (some 41) rfl rfl Tryd.func23 (by kernel_rfl) rfl #[.agg #[.slice Ao19 t239.length co19, .slice Ao21 t242.length co21], .int .i64 a3] rfl (by (try simp only [zS, zU, zV]); first | done | rfl | (simp only [zO, zN]; rfl)) ?_; (with_reducible refine (boscageref31_At.calls kj10 _ _ t239 (fun k_ => (some k_ ≠ (.slice Ao19 t239.length co19 : Value).ownBlock ∧ (k_ ≠ gb235 ∧ (k_ ≠ gb236 ∧ (k_ ≠ gb237 ∧ k_ ≠ gb263))))) _ _ t242 a3 t271 t274 _ ?side1 ?side2 ?side3 A52.out).mono ?_); (case side1 => repeat (first | exact (Kd.R_reads' HO_237000.out).2.2 | (with_reducible refine Kd.C_alloc ?_ _) | (with_reducible refine Kd.C_drewN ?_ _) | (with_reducible refine Kd.C_drew ?_))); (case side2 => exact (Kd.R_reads' HO_237000.out).2.1); (case side3 => exact Kd.N_V (HO_237001.out)); rintro e w77 ⟨v272, rfl, ho0, hb⟩; refine ⟨_, rfl, ?_⟩; have n0_ := zX (Kd.R_below (by (with_reducible repeat (first | apply za | apply zg | apply zh)); exact HO_237000.out) hb); have n1_ := zX (Kd.N_below (by (with_reducible repeat (first | apply ze | apply zo | apply zp)); exact HO_237001.out) hb); have n2_ := zX (Kd.V_below (by (with_reducible repeat (first | apply zb | apply zc | apply zd)); exact HO_264000.out) hb); have n3_ := zX (Kd.V_below (by (with_reducible repeat (first | apply zb | apply zc | apply zd)); exact HO_264001.out) hb); have n4_ := zX (Kd.V_lower (Kd.V_mono (ok' := fun k_ => some k_ ≠ (.slice Ao19 t239.length co19 : Value).ownBlock ∧ k_ ≠ gb235 ∧ k_ ≠ gb236 ∧ k_ ≠ gb237 ∧ k_ ≠ gb263) ho0 (fun k_ hk_ => ⟨zj hk_ (fun hs_ => hs_.1) (fun hn_ => (Kd.fresh' (Kd.R_lt (by (with_reducible repeat (first | apply za | apply zg | apply zh)); exact HO_237000.out)) k_ hn_)), zj hk_ (fun hs_ => hs_.2.1) (fun hn_ => (zl (g := gb235) (o := .cells #[.int .i64 a0_0, .int .i64 a0_1, .int .i64 a0_2, .int .i64 a0_3, .int .i64 a0_4] 23 (0, 0)) (by (with_reducible repeat (first | refine zL ?_ _ | refine zM ?_ | refine zJ ?_ _)); exact BK235.out) k_ hn_)), zj hk_ (fun hs_ => hs_.2.2.1) (fun hn_ => (zl (g := gb236) (o := .cells #[.slice Ao19 t239.length co19, .slice Ao21 t242.length co21] 27 (0, 0)) (by (with_reducible repeat (first | refine zL ?_ _ | refine zM ?_ | refine zJ ?_ _)); exact BK236.out) k_ hn_)), zj hk_ (fun hs_ => hs_.2.2.2.1) (fun hn_ => (zl (g := gb237) (o := .cells #[.int .i64 t245, .string t246, .string t247, .string t248, .int .i64 t249] 29 (0, 0)) (by (with_reducible repeat (first | refine zL ?_ _ | refine zM ?_ | refine zJ ?_ _)); exact BK237.out) k_ hn_)), zj hk_ (fun hs_ => hs_.2.2.2.2) (fun hn_ => (zl (g := gb263) (o := .cells #[.slice Ao36 t256.length co36, .slice Ao38 t259.length co38] 39 (0, 0)) (by (with_reducible repeat (first | refine zL ?_ _ | refine zM ?_ | refine zJ ?_ _)); exact BK263.out) k_ hn_))⟩)) (zY (by repeat (first | (with_reducible first | exact HB.out | apply zF | apply zE | apply zG | refine zK ?_ GE235.out | refine zK ?_ GE236.out | refine zK ?_ GE237.out | refine zK ?_ GE263.out) | exact HB.out)))); have n5_ := zX (zm (g := gb235) (o := .cells #[.int .i64 a0_0, .int .i64 a0_1, .int .i64 a0_2, .int .i64 a0_3, .int .i64 a0_4] 23 (0, 0)) (by (with_reducible repeat (first | refine zL ?_ _ | refine zM ?_ | refine zJ ?_ _)); exact BK235.out) hb); have n6_ := zX (zm (g := gb236) (o := .cells #[.slice Ao19 t239.length co19, .slice Ao21 t242.length co21] 27 (0, 0)) (by (with_reducible repeat (first | refine zL ?_ _ | refine zM ?_ | refine zJ ?_ _)); exact BK236.out) hb); have n7_ := zX (zm (g := gb237) (o := .cells #[.int .i64 t245, .string t246, .string t247, .string t248, .int .i64 t249] 29 (0, 0)) (by (with_reducible repeat (first | refine zL ?_ _ | refine zM ?_ | refine zJ ?_ _)); exact BK237.out) hb); have n8_ := zX (zm (g := gb263) (o := .cells #[.slice Ao36 t256.length co36, .slice Ao38 t259.length co38] 39 (0, 0)) (by (with_reducible repeat (first | refine zL ?_ _ | refine zM ?_ | refine zJ ?_ _)); exact BK263.out) hb); have n9_ := zX (zT (by repeat (first | (with_reducible first | exact HB.out | apply zF | apply zE | apply zG | refine zK ?_ GE235.out | refine zK ?_ GE236.out | refine zK ?_ GE237.out | refine zK ?_ GE263.out) | exact HB.out)) hb); clear HO_237000; clear HO_237001; clear HO_264000; clear HO_264001; clear BK235; clear BK236; clear BK237; clear BK263; clear HB; have HO_237000 := n0_; have HO_237001 := n1_; have HO_264000 := n2_; have HO_264001 := n3_; have HO273 := n4_; have BK235 := n5_; have BK236 := n6_; have BK237 := n7_; have BK263 := n8_; have HB := n9_; clear n0_ n1_ n2_ n3_ n4_ n5_ n6_ n7_ n8_ n9_; (try clear hb); (try clear hb2); (try clear hk); (try clear hi); (try clear ho0); have hnb78 := NB263_235.out; have hnc78 := NB235_263.out; have hnb79 := NB263_237.out; have hnc79 := NB237_263.out; have hcz80_0 : w77.cell? ⟨gb263, 0, none⟩ = some (.slice Ao36 t256.length co36) := (zH BK263.out 0).trans rfl; have hcz80_1 : w77.cell? ⟨gb263, 1, none⟩ = some (.slice Ao38 t259.length co38) := (zH BK263.out 1).trans rfl; have hfz80_0 := zI BK263.out 0; have hfz80_1 := zI BK263.out 1) | ((with_reducible refine gate_callee (f := 15) rfl ?_); refine goesL_ (some 46) rfl rfl Tryd.func15 (by kernel_rfl) rfl #[.agg #[.slice Ao36 t256.length co36, .slice Ao38 t259.length co38]] rfl (by (try simp only [zS, zU, zV]); first | done | rfl | (simp only [zO, zN]; rfl)) ?_; (with_reducible refine (boscagelaw31_Back.calls kj10 (fun k_ => (some k_ ≠ (.slice Ao19 t239.length co19 : Value).ownBlock ∧ (some k_ ≠ (.slice Ao21 t242.length co21 : Value).ownBlock ∧ (k_ ≠ gb235 ∧ (k_ ≠ gb236 ∧ (k_ ≠ gb237 ∧ k_ ≠ gb263)))))) _ _ t256 (fun k_ => (some k_ ≠ (.slice Ao19 t239.length co19 : Value).ownBlock ∧ (some k_ ≠ (.slice Ao21 t242.length co21 : Value).ownBlock ∧ (k_ ≠ gb235 ∧ (k_ ≠ gb236 ∧ (k_ ≠ gb237 ∧ k_ ≠ gb263)))))) _ _ t259 t275 t278 _ ?side1 ?side2 A53.out).mono ?_); (case side1 => exact HO_264000.out); (case side2 => exact HO_264001.out); rintro e w81 ⟨v276, v279, rfl, ho0, ho1, hb⟩; refine ⟨_, rfl, ?_⟩; have n0_ := zX (Kd.R_below (by (with_reducible repeat (first | apply za | apply zg | apply zh)); exact HO_237000.out) hb); have n1_ := zX (Kd.N_elder' (by (with_reducible repeat (first | apply ze | apply zo | apply zp)); exact HO_237001.out) (Kd.N_base (by first | exact ho1 | exact Kd.S_N ho1)) hb); have n2_ := zX (Kd.V_elder' (by (with_reducible repeat (first | apply zb | apply zc | apply zd)); exact HO_264000.out) (Kd.N_base (by first | exact ho1 | exact Kd.S_N ho1)) hb); have n3_ := zX (Kd.V_elder' (by (with_reducible repeat (first | apply zb | apply zc | apply zd)); exact HO_264001.out) (Kd.N_base (by first | exact ho1 | exact Kd.S_N ho1)) hb); have n4_ := zX (Kd.V_elder' (by (with_reducible repeat (first | apply zb | apply zc | apply zd)); exact HO273.out) (Kd.N_base (by first | exact ho1 | exact Kd.S_N ho1)) hb); have n5_ := zX (Kd.V_lower (Kd.V_mono (ok' := fun k_ => some k_ ≠ (v279 : Value).ownBlock ∧ some k_ ≠ (.slice Ao19 t239.length co19 : Value).ownBlock ∧ some k_ ≠ (.slice Ao21 t242.length co21 : Value).ownBlock ∧ k_ ≠ gb235 ∧ k_ ≠ gb236 ∧ k_ ≠ gb237 ∧ k_ ≠ gb263) ho0 (fun k_ hk_ => ⟨hk_.2, zj hk_.1 (fun hs_ => zj hs_ (fun hs_ => hs_.1) (fun hs_ => hs_.1)) (fun hn_ => (Kd.fresh' (Kd.R_lt (by (with_reducible repeat (first | apply za | apply zg | apply zh)); exact HO_237000.out)) k_ hn_)), zj hk_.1 (fun hs_ => zj hs_ (fun hs_ => hs_.2.1) (fun hs_ => hs_.2.1)) (fun hn_ => (Kd.fresh' (Kd.N_lt (by (with_reducible repeat (first | apply ze | apply zo | apply zp)); exact HO_237001.out)) k_ hn_)), zj hk_.1 (fun hs_ => zj hs_ (fun hs_ => hs_.2.2.1) (fun hs_ => hs_.2.2.1)) (fun hn_ => (zl (g := gb235) (o := .cells #[.int .i64 a0_0, .int .i64 a0_1, .int .i64 a0_2, .int .i64 a0_3, .int .i64 a0_4] 23 (0, 0)) (by (with_reducible repeat (first | refine zL ?_ _ | refine zM ?_ | refine zJ ?_ _)); exact BK235.out) k_ hn_)), zj hk_.1 (fun hs_ => zj hs_ (fun hs_ => hs_.2.2.2.1) (fun hs_ => hs_.2.2.2.1)) (fun hn_ => (zl (g := gb236) (o := .cells #[.slice Ao19 t239.length co19, .slice Ao21 t242.length co21] 27 (0, 0)) (by (with_reducible repeat (first | refine zL ?_ _ | refine zM ?_ | refine zJ ?_ _)); exact BK236.out) k_ hn_)), zj hk_.1 (fun hs_ => zj hs_ (fun hs_ => hs_.2.2.2.2.1) (fun hs_ => hs_.2.2.2.2.1)) (fun hn_ => (zl (g := gb237) (o := .cells #[.int .i64 t245, .string t246, .string t247, .string t248, .int .i64 t249] 29 (0, 0)) (by (with_reducible repeat (first | refine zL ?_ _ | refine zM ?_ | refine zJ ?_ _)); exact BK237.out) k_ hn_)), zj hk_.1 (fun hs_ => zj hs_ (fun hs_ => hs_.2.2.2.2.2) (fun hs_ => hs_.2.2.2.2.2)) (fun hn_ => (zl (g := gb263) (o := .cells #[.slice Ao36 t256.length co36, .slice Ao38 t259.length co38] 39 (0, 0)) (by (with_reducible repeat (first | refine zL ?_ _ | refine zM ?_ | refine zJ ?_ _)); exact BK263.out) k_ hn_))⟩)) (zY (by repeat (first | (with_reducible first | exact HB.out | apply zF | apply zE | apply zG | refine zK ?_ GE235.out | refine zK ?_ GE236.out | refine zK ?_ GE237.out | refine zK ?_ GE263.out) | exact HB.out)))); have n6_ := zX (Kd.N_lower (Kd.N_mono (ok' := fun k_ => some k_ ≠ (.slice Ao19 t239.length co19 : Value).ownBlock ∧ some k_ ≠ (.slice Ao21 t242.length co21 : Value).ownBlock ∧ k_ ≠ gb235 ∧ k_ ≠ gb236 ∧ k_ ≠ gb237 ∧ k_ ≠ gb263) ho1 (fun k_ hk_ => ⟨zj hk_ (fun hs_ => zj hs_ (fun hs_ => hs_.1) (fun hs_ => hs_.1)) (fun hn_ => (Kd.fresh' (Kd.R_lt (by (with_reducible repeat (first | apply za | apply zg | apply zh)); exact HO_237000.out)) k_ hn_)), zj hk_ (fun hs_ => zj hs_ (fun hs_ => hs_.2.1) (fun hs_ => hs_.2.1)) (fun hn_ => (Kd.fresh' (Kd.N_lt (by (with_reducible repeat (first | apply ze | apply zo | apply zp)); exact HO_237001.out)) k_ hn_)), zj hk_ (fun hs_ => zj hs_ (fun hs_ => hs_.2.2.1) (fun hs_ => hs_.2.2.1)) (fun hn_ => (zl (g := gb235) (o := .cells #[.int .i64 a0_0, .int .i64 a0_1, .int .i64 a0_2, .int .i64 a0_3, .int .i64 a0_4] 23 (0, 0)) (by (with_reducible repeat (first | refine zL ?_ _ | refine zM ?_ | refine zJ ?_ _)); exact BK235.out) k_ hn_)), zj hk_ (fun hs_ => zj hs_ (fun hs_ => hs_.2.2.2.1) (fun hs_ => hs_.2.2.2.1)) (fun hn_ => (zl (g := gb236) (o := .cells #[.slice Ao19 t239.length co19, .slice Ao21 t242.length co21] 27 (0, 0)) (by (with_reducible repeat (first | refine zL ?_ _ | refine zM ?_ | refine zJ ?_ _)); exact BK236.out) k_ hn_)), zj hk_ (fun hs_ => zj hs_ (fun hs_ => hs_.2.2.2.2.1) (fun hs_ => hs_.2.2.2.2.1)) (fun hn_ => (zl (g := gb237) (o := .cells #[.int .i64 t245, .string t246, .string t247, .string t248, .int .i64 t249] 29 (0, 0)) (by (with_reducible repeat (first | refine zL ?_ _ | refine zM ?_ | refine zJ ?_ _)); exact BK237.out) k_ hn_)), zj hk_ (fun hs_ => zj hs_ (fun hs_ => hs_.2.2.2.2.2) (fun hs_ => hs_.2.2.2.2.2)) (fun hn_ => (zl (g := gb263) (o := .cells #[.slice Ao36 t256.length co36, .slice Ao38 t259.length co38] 39 (0, 0)) (by (with_reducible repeat (first | refine zL ?_ _ | refine zM ?_ | refine zJ ?_ _)); exact BK263.out) k_ hn_))⟩)) (zY (by repeat (first | (with_reducible first | exact HB.out | apply zF | apply zE | apply zG | refine zK ?_ GE235.out | refine zK ?_ GE236.out | refine zK ?_ GE237.out | refine zK ?_ GE263.out) | exact HB.out)))); have n7_ := zX (zm (g := gb235) (o := .cells #[.int .i64 a0_0, .int .i64 a0_1, .int .i64 a0_2, .int .i64 a0_3, .int .i64 a0_4] 23 (0, 0)) (by (with_reducible repeat (first | refine zL ?_ _ | refine zM ?_ | refine zJ ?_ _)); exact BK235.out) hb); have n8_ := zX (zm (g := gb236) (o := .cells #[.slice Ao19 t239.length co19, .slice Ao21 t242.length co21] 27 (0, 0)) (by (with_reducible repeat (first | refine zL ?_ _ | refine zM ?_ | refine zJ ?_ _)); exact BK236.out) hb); have n9_ := zX (zm (g := gb237) (o := .cells #[.int .i64 t245, .string t246, .string t247, .string t248, .int .i64 t249] 29 (0, 0)) (by (with_reducible repeat (first | refine zL ?_ _ | refine zM ?_ | refine zJ ?_ _)); exact BK237.out) hb); have n10_ := zX (zm (g := gb263) (o := .cells #[.slice Ao36 t256.length co36, .slice Ao38 t259.length co38] 39 (0, 0)) (by (with_reducible repeat (first | refine zL ?_ _ | refine zM ?_ | refine zJ ?_ _)); exact BK263.out) hb); have n11_ := zX (zT (by repeat (first | (with_reducible first | exact HB.out | apply zF | apply zE | apply zG | refine zK ?_ GE235.out | refine zK ?_ GE236.out | refine zK ?_ GE237.out | refine zK ?_ GE263.out) | exact HB.out)) hb); clear HO_237000; clear HO_237001; clear HO_264000; clear HO_264001; clear HO273; clear BK235; clear BK236; clear BK237; clear BK263; clear HB; have HO_237000 := n0_; have HO_237001 := n1_; have HO_264000 := n2_; have HO_264001 := n3_; have HO273 := n4_; have HO277 := n5_; have HO280 := n6_; have BK235 := n7_; have BK236 := n8_; have BK237 := n9_; have BK263 := n10_; have HB := n11_; clear n0_ n1_ n2_ n3_ n4_ n5_ n6_ n7_ n8_ n9_ n10_ n11_; (try clear hb); (try clear hb2); (try clear hk); (try clear hi); (try clear ho0); (try clear ho1); obtain ⟨Ao82, co82, eo82⟩ := Kd.V_slice HO277.out; subst eo82; obtain ⟨Ao83, co83, eo83⟩ := Kd.N_slice HO280.out; subst eo83) | ((with_reducible refine gate_callee (f := 23) rfl ?_); refine goesL_ (some 48) rfl rfl Tryd.func23 (by kernel_rfl) rfl #[.agg #[.slice Ao82 t275.length co82, .slice Ao83 t278.length co83], .int .i64 a3] rfl (by (try simp only [zS, zU, zV]); first | done | rfl | (simp only [zO, zN]; rfl)) ?_; (with_reducible refine (boscageref31_At.calls kj10 _ _ t275 (fun k_ => (some k_ ≠ (.slice Ao19 t239.length co19 : Value).ownBlock ∧ (some k_ ≠ (.slice Ao21 t242.length co21 : Value).ownBlock ∧ (k_ ≠ gb235 ∧ (k_ ≠ gb236 ∧ (k_ ≠ gb237 ∧ k_ ≠ gb263)))))) _ _ t278 a3 t281 t284 _ ?side1 ?side2 ?side3 A54.out).mono ?_); (case side1 => repeat (first | exact (Kd.V_reads' HO277.out).2.2 | (with_reducible refine Kd.C_alloc ?_ _) | (with_reducible refine Kd.C_drewN ?_ _) | (with_reducible refine Kd.C_drew ?_))); (case side2 => exact (Kd.V_reads' HO277.out).2.1); (case side3 => exact Kd.N_V (HO280.out)); rintro e w84 ⟨v282, rfl, ho0, hb⟩; refine ⟨_, rfl, ?_⟩; have n0_ := zX (Kd.R_below (by (with_reducible repeat (first | apply za | apply zg | apply zh)); exact HO_237000.out) hb); have n1_ := zX (Kd.N_below (by (with_reducible repeat (first | apply ze | apply zo | apply zp)); exact HO_237001.out) hb); have n2_ := zX (Kd.V_below (by (with_reducible repeat (first | apply zb | apply zc | apply zd)); exact HO_264000.out) hb); have n3_ := zX (Kd.V_below (by (with_reducible repeat (first | apply zb | apply zc | apply zd)); exact HO_264001.out) hb); have n4_ := zX (Kd.V_below (by (with_reducible repeat (first | apply zb | apply zc | apply zd)); exact HO273.out) hb); have n5_ := zX (Kd.V_below (by (with_reducible repeat (first | apply zb | apply zc | apply zd)); exact HO277.out) hb); have n6_ := zX (Kd.N_below (by (with_reducible repeat (first | apply ze | apply zo | apply zp)); exact HO280.out) hb); have n7_ := zX (Kd.V_lower (Kd.V_mono (ok' := fun k_ => some k_ ≠ (.slice Ao19 t239.length co19 : Value).ownBlock ∧ some k_ ≠ (.slice Ao21 t242.length co21 : Value).ownBlock ∧ k_ ≠ gb235 ∧ k_ ≠ gb236 ∧ k_ ≠ gb237 ∧ k_ ≠ gb263) ho0 (fun k_ hk_ => ⟨zj hk_ (fun hs_ => hs_.1) (fun hn_ => (Kd.fresh' (Kd.R_lt (by (with_reducible repeat (first | apply za | apply zg | apply zh)); exact HO_237000.out)) k_ hn_)), zj hk_ (fun hs_ => hs_.2.1) (fun hn_ => (Kd.fresh' (Kd.N_lt (by (with_reducible repeat (first | apply ze | apply zo | apply zp)); exact HO_237001.out)) k_ hn_)), zj hk_ (fun hs_ => hs_.2.2.1) (fun hn_ => (zl (g := gb235) (o := .cells #[.int .i64 a0_0, .int .i64 a0_1, .int .i64 a0_2, .int .i64 a0_3, .int .i64 a0_4] 23 (0, 0)) (by (with_reducible repeat (first | refine zL ?_ _ | refine zM ?_ | refine zJ ?_ _)); exact BK235.out) k_ hn_)), zj hk_ (fun hs_ => hs_.2.2.2.1) (fun hn_ => (zl (g := gb236) (o := .cells #[.slice Ao19 t239.length co19, .slice Ao21 t242.length co21] 27 (0, 0)) (by (with_reducible repeat (first | refine zL ?_ _ | refine zM ?_ | refine zJ ?_ _)); exact BK236.out) k_ hn_)), zj hk_ (fun hs_ => hs_.2.2.2.2.1) (fun hn_ => (zl (g := gb237) (o := .cells #[.int .i64 t245, .string t246, .string t247, .string t248, .int .i64 t249] 29 (0, 0)) (by (with_reducible repeat (first | refine zL ?_ _ | refine zM ?_ | refine zJ ?_ _)); exact BK237.out) k_ hn_)), zj hk_ (fun hs_ => hs_.2.2.2.2.2) (fun hn_ => (zl (g := gb263) (o := .cells #[.slice Ao36 t256.length co36, .slice Ao38 t259.length co38] 39 (0, 0)) (by (with_reducible repeat (first | refine zL ?_ _ | refine zM ?_ | refine zJ ?_ _)); exact BK263.out) k_ hn_))⟩)) (zY (by repeat (first | (with_reducible first | exact HB.out | apply zF | apply zE | apply zG | refine zK ?_ GE235.out | refine zK ?_ GE236.out | refine zK ?_ GE237.out | refine zK ?_ GE263.out) | exact HB.out)))); have n8_ := zX (zm (g := gb235) (o := .cells #[.int .i64 a0_0, .int .i64 a0_1, .int .i64 a0_2, .int .i64 a0_3, .int .i64 a0_4] 23 (0, 0)) (by (with_reducible repeat (first | refine zL ?_ _ | refine zM ?_ | refine zJ ?_ _)); exact BK235.out) hb); have n9_ := zX (zm (g := gb236) (o := .cells #[.slice Ao19 t239.length co19, .slice Ao21 t242.length co21] 27 (0, 0)) (by (with_reducible repeat (first | refine zL ?_ _ | refine zM ?_ | refine zJ ?_ _)); exact BK236.out) hb); have n10_ := zX (zm (g := gb237) (o := .cells #[.int .i64 t245, .string t246, .string t247, .string t248, .int .i64 t249] 29 (0, 0)) (by (with_reducible repeat (first | refine zL ?_ _ | refine zM ?_ | refine zJ ?_ _)); exact BK237.out) hb); have n11_ := zX (zm (g := gb263) (o := .cells #[.slice Ao36 t256.length co36, .slice Ao38 t259.length co38] 39 (0, 0)) (by (with_reducible repeat (first | refine zL ?_ _ | refine zM ?_ | refine zJ ?_ _)); exact BK263.out) hb); have n12_ := zX (zT (by repeat (first | (with_reducible first | exact HB.out | apply zF | apply zE | apply zG | refine zK ?_ GE235.out | refine zK ?_ GE236.out | refine zK ?_ GE237.out | refine zK ?_ GE263.out) | exact HB.out)) hb); clear HO_237000; clear HO_237001; clear HO_264000; clear HO_264001; clear HO273; clear HO277; clear HO280; clear BK235; clear BK236; clear BK237; clear BK263; clear HB; have HO_237000 := n0_; have HO_237001 := n1_; have HO_264000 := n2_; have HO_264001 := n3_; have HO273 := n4_; have HO277 := n5_; have HO280 := n6_; have HO283 := n7_; have BK235 := n8_; have BK236 := n9_; have BK237 := n10_; have BK263 := n11_; have HB := n12_; clear n0_ n1_ n2_ n3_ n4_ n5_ n6_ n7_ n8_ n9_ n10_ n11_ n12_; (try clear hb); (try clear hb2); (try clear hk); (try clear hi); (try clear ho0); have hnb85 := NB237_235.out; have hnc85 := NB235_237.out; have hcz86_0 : w84.cell? ⟨gb237, 0, none⟩ = some (.int .i64 t245) := (zH BK237.out 0).trans rfl; have hcz86_1 : w84.cell? ⟨gb237, 1, none⟩ = some (.string t246) := (zH BK237.out 1).trans rfl; have hcz86_2 : w84.cell? ⟨gb237, 2, none⟩ = some (.string t247) := (zH BK237.out 2).trans rfl; have hcz86_3 : w84.cell? ⟨gb237, 3, none⟩ = some (.string t248) := (zH BK237.out 3).trans rfl; have hcz86_4 : w84.cell? ⟨gb237, 4, none⟩ = some (.int .i64 t249) := (zH BK237.out 4).trans rfl; have hfz86_0 := zI BK237.out 0; have hfz86_1 := zI BK237.out 1; have hfz86_2 := zI BK237.out 2; have hfz86_3 := zI BK237.out 3; have hfz86_4 := zI BK237.out 4; obtain ⟨Ao87, co87, eo87⟩ := Kd.V_slice HO273.out; subst eo87; obtain ⟨Ao88, co88, eo88⟩ := Kd.V_slice HO283.out; subst eo88) | (go_at_call 14; (refine (boscageref31_Same.calls kj10 _ _ t271 _ _ ([] : List (S61)) _ _ t281 _ _ ([] : List (S61)) t285 _ ?side1 ?side2 ?side3 ?side4 ?side5 ?side6 ?side7 ?side8 A72.out).mono ?_); (case side1 => repeat (first | exact (Kd.V_reads' HO273.out).2.2 | (with_reducible refine Kd.C_alloc ?_ _) | (with_reducible refine Kd.C_drewN ?_ _) | (with_reducible refine Kd.C_drew ?_))); (case side2 => exact (Kd.V_reads' HO273.out).2.1); (case side3 => exact Kd.C_nil _ _); (case side4 => exact Nat.le_refl _); (case side5 => repeat (first | exact (Kd.V_reads' HO283.out).2.2 | (with_reducible refine Kd.C_alloc ?_ _) | (with_reducible refine Kd.C_drewN ?_ _) | (with_reducible refine Kd.C_drew ?_))); (case side6 => exact (Kd.V_reads' HO283.out).2.1); (case side7 => exact Kd.C_nil _ _); (case side8 => exact Nat.le_refl _); rintro e w89 ⟨rfl, hb⟩; have n0_ := zX (Kd.R_below (by (with_reducible repeat (first | apply za | apply zg | apply zh)); exact HO_237000.out) hb); have n1_ := zX (Kd.N_below (by (with_reducible repeat (first | apply ze | apply zo | apply zp)); exact HO_237001.out) hb); have n2_ := zX (Kd.V_below (by (with_reducible repeat (first | apply zb | apply zc | apply zd)); exact HO_264000.out) hb); have n3_ := zX (Kd.V_below (by (with_reducible repeat (first | apply zb | apply zc | apply zd)); exact HO_264001.out) hb); have n4_ := zX (Kd.V_below (by (with_reducible repeat (first | apply zb | apply zc | apply zd)); exact HO273.out) hb); have n5_ := zX (Kd.V_below (by (with_reducible repeat (first | apply zb | apply zc | apply zd)); exact HO277.out) hb); have n6_ := zX (Kd.N_below (by (with_reducible repeat (first | apply ze | apply zo | apply zp)); exact HO280.out) hb); have n7_ := zX (Kd.V_below (by (with_reducible repeat (first | apply zb | apply zc | apply zd)); exact HO283.out) hb); have n8_ := zX (zm (g := gb235) (o := .cells #[.int .i64 a0_0, .int .i64 a0_1, .int .i64 a0_2, .int .i64 a0_3, .int .i64 a0_4] 23 (0, 0)) (by (with_reducible repeat (first | refine zL ?_ _ | refine zM ?_ | refine zJ ?_ _)); exact BK235.out) hb); have n9_ := zX (zm (g := gb236) (o := .cells #[.slice Ao19 t239.length co19, .slice Ao21 t242.length co21] 27 (0, 0)) (by (with_reducible repeat (first | refine zL ?_ _ | refine zM ?_ | refine zJ ?_ _)); exact BK236.out) hb); have n10_ := zX (zm (g := gb237) (o := .cells #[.int .i64 t245, .string t246, .string t247, .string t248, .int .i64 t249] 29 (0, 0)) (by (with_reducible repeat (first | refine zL ?_ _ | refine zM ?_ | refine zJ ?_ _)); exact BK237.out) hb); have n11_ := zX (zm (g := gb263) (o := .cells #[.slice Ao36 t256.length co36, .slice Ao38 t259.length co38] 39 (0, 0)) (by (with_reducible repeat (first | refine zL ?_ _ | refine zM ?_ | refine zJ ?_ _)); exact BK263.out) hb); have n12_ := zX (zT (by repeat (first | (with_reducible first | exact HB.out | apply zF | apply zE | apply zG | refine zK ?_ GE235.out | refine zK ?_ GE236.out | refine zK ?_ GE237.out | refine zK ?_ GE263.out) | exact HB.out)) hb); clear HO_237000; clear HO_237001; clear HO_264000; clear HO_264001; clear HO273; clear HO277; clear HO280; clear HO283; clear BK235; clear BK236; clear BK237; clear BK263; clear HB; have HO_237000 := n0_; have HO_237001 := n1_; have HO_264000 := n2_; have HO_264001 := n3_; have HO273 := n4_; have HO277 := n5_; have HO280 := n6_; have HO283 := n7_; have BK235 := n8_; have BK236 := n9_; have BK237 := n10_; have BK263 := n11_; have HB := n12_; clear n0_ n1_ n2_ n3_ n4_ n5_ n6_ n7_ n8_ n9_ n10_ n11_ n12_; (try clear hb); (try clear hb2); (try clear hk); (try clear hi)))
                go_ret
                exact ⟨by first | rfl | (simp [errW_none, errW_some] <;> rfl) | (simp [*, errW_none, errW_some] <;> rfl), by repeat (first | (with_reducible first | exact HB.out | apply zF | apply zE | apply zG | refine zK ?_ GE235.out | refine zK ?_ GE236.out | refine zK ?_ GE237.out | refine zK ?_ GE263.out) | exact HB.out)⟩
              · rw [if_neg c71] at H
                have c71b0 : (t274 == t284) = false := by simpa using c71
                (try (have c71b1 : decide (t274 = t284) = false := by simpa using c71))
                (try (have c71b2 : (t274 == t284) = false := by simpa using c71))
                (try (have c71b3 : ¬ (t274 = t284) := by simpa using c71))
                clear c71
                obtain rfl := zQ H
                have hnb90 := NB236_235.out
                have hnc90 := NB235_236.out
                have hnb91 := NB236_237.out
                have hnc91 := NB237_236.out
                have hnb92 := NB236_263.out
                have hnc92 := NB263_236.out
                have hcz93_0 : wc.cell? ⟨gb236, 0, none⟩ = some (.slice Ao19 t239.length co19) := (zH BK236.out 0).trans rfl
                have hcz93_1 : wc.cell? ⟨gb236, 1, none⟩ = some (.slice Ao21 t242.length co21) := (zH BK236.out 1).trans rfl
                have hfz93_0 := zI BK236.out 0
                have hfz93_1 := zI BK236.out 1
                go_wp2_with (first | ((with_reducible refine gate_callee (f := 23) rfl ?_); refine goesL_ (some 41) rfl rfl Tryd.func23 (by kernel_rfl) rfl #[.agg #[.slice Ao19 t239.length co19, .slice Ao21 t242.length co21], .int .i64 a3] rfl (by (try simp only [zS, zU, zV]); first | done | rfl | (simp only [zO, zN]; rfl)) ?_; (with_reducible refine (boscageref31_At.calls kj10 _ _ t239 (fun k_ => (some k_ ≠ (.slice Ao19 t239.length co19 : Value).ownBlock ∧ (k_ ≠ gb235 ∧ (k_ ≠ gb236 ∧ (k_ ≠ gb237 ∧ k_ ≠ gb263))))) _ _ t242 a3 t271 t274 _ ?side1 ?side2 ?side3 A52.out).mono ?_); (case side1 => repeat (first | exact (Kd.R_reads' HO_237000.out).2.2 | (with_reducible refine Kd.C_alloc ?_ _) | (with_reducible refine Kd.C_drewN ?_ _) | (with_reducible refine Kd.C_drew ?_))); (case side2 => exact (Kd.R_reads' HO_237000.out).2.1); (case side3 => exact Kd.N_V (HO_237001.out)); rintro e w94 ⟨v272, rfl, ho0, hb⟩; refine ⟨_, rfl, ?_⟩; have n0_ := zX (Kd.R_below (by (with_reducible repeat (first | apply za | apply zg | apply zh)); exact HO_237000.out) hb); have n1_ := zX (Kd.N_below (by (with_reducible repeat (first | apply ze | apply zo | apply zp)); exact HO_237001.out) hb); have n2_ := zX (Kd.V_below (by (with_reducible repeat (first | apply zb | apply zc | apply zd)); exact HO_264000.out) hb); have n3_ := zX (Kd.V_below (by (with_reducible repeat (first | apply zb | apply zc | apply zd)); exact HO_264001.out) hb); have n4_ := zX (Kd.V_lower (Kd.V_mono (ok' := fun k_ => some k_ ≠ (.slice Ao19 t239.length co19 : Value).ownBlock ∧ k_ ≠ gb235 ∧ k_ ≠ gb236 ∧ k_ ≠ gb237 ∧ k_ ≠ gb263) ho0 (fun k_ hk_ => ⟨zj hk_ (fun hs_ => hs_.1) (fun hn_ => (Kd.fresh' (Kd.R_lt (by (with_reducible repeat (first | apply za | apply zg | apply zh)); exact HO_237000.out)) k_ hn_)), zj hk_ (fun hs_ => hs_.2.1) (fun hn_ => (zl (g := gb235) (o := .cells #[.int .i64 a0_0, .int .i64 a0_1, .int .i64 a0_2, .int .i64 a0_3, .int .i64 a0_4] 23 (0, 0)) (by (with_reducible repeat (first | refine zL ?_ _ | refine zM ?_ | refine zJ ?_ _)); exact BK235.out) k_ hn_)), zj hk_ (fun hs_ => hs_.2.2.1) (fun hn_ => (zl (g := gb236) (o := .cells #[.slice Ao19 t239.length co19, .slice Ao21 t242.length co21] 27 (0, 0)) (by (with_reducible repeat (first | refine zL ?_ _ | refine zM ?_ | refine zJ ?_ _)); exact BK236.out) k_ hn_)), zj hk_ (fun hs_ => hs_.2.2.2.1) (fun hn_ => (zl (g := gb237) (o := .cells #[.int .i64 t245, .string t246, .string t247, .string t248, .int .i64 t249] 29 (0, 0)) (by (with_reducible repeat (first | refine zL ?_ _ | refine zM ?_ | refine zJ ?_ _)); exact BK237.out) k_ hn_)), zj hk_ (fun hs_ => hs_.2.2.2.2) (fun hn_ => (zl (g := gb263) (o := .cells #[.slice Ao36 t256.length co36, .slice Ao38 t259.length co38] 39 (0, 0)) (by (with_reducible repeat (first | refine zL ?_ _ | refine zM ?_ | refine zJ ?_ _)); exact BK263.out) k_ hn_))⟩)) (zY (by repeat (first | (with_reducible first | exact HB.out | apply zF | apply zE | apply zG | refine zK ?_ GE235.out | refine zK ?_ GE236.out | refine zK ?_ GE237.out | refine zK ?_ GE263.out) | exact HB.out)))); have n5_ := zX (zm (g := gb235) (o := .cells #[.int .i64 a0_0, .int .i64 a0_1, .int .i64 a0_2, .int .i64 a0_3, .int .i64 a0_4] 23 (0, 0)) (by (with_reducible repeat (first | refine zL ?_ _ | refine zM ?_ | refine zJ ?_ _)); exact BK235.out) hb); have n6_ := zX (zm (g := gb236) (o := .cells #[.slice Ao19 t239.length co19, .slice Ao21 t242.length co21] 27 (0, 0)) (by (with_reducible repeat (first | refine zL ?_ _ | refine zM ?_ | refine zJ ?_ _)); exact BK236.out) hb); have n7_ := zX (zm (g := gb237) (o := .cells #[.int .i64 t245, .string t246, .string t247, .string t248, .int .i64 t249] 29 (0, 0)) (by (with_reducible repeat (first | refine zL ?_ _ | refine zM ?_ | refine zJ ?_ _)); exact BK237.out) hb); have n8_ := zX (zm (g := gb263) (o := .cells #[.slice Ao36 t256.length co36, .slice Ao38 t259.length co38] 39 (0, 0)) (by (with_reducible repeat (first | refine zL ?_ _ | refine zM ?_ | refine zJ ?_ _)); exact BK263.out) hb); have n9_ := zX (zT (by repeat (first | (with_reducible first | exact HB.out | apply zF | apply zE | apply zG | refine zK ?_ GE235.out | refine zK ?_ GE236.out | refine zK ?_ GE237.out | refine zK ?_ GE263.out) | exact HB.out)) hb); clear HO_237000; clear HO_237001; clear HO_264000; clear HO_264001; clear BK235; clear BK236; clear BK237; clear BK263; clear HB; have HO_237000 := n0_; have HO_237001 := n1_; have HO_264000 := n2_; have HO_264001 := n3_; have HO273 := n4_; have BK235 := n5_; have BK236 := n6_; have BK237 := n7_; have BK263 := n8_; have HB := n9_; clear n0_ n1_ n2_ n3_ n4_ n5_ n6_ n7_ n8_ n9_; (try clear hb); (try clear hb2); (try clear hk); (try clear hi); (try clear ho0); have hnb95 := NB263_235.out; have hnc95 := NB235_263.out; have hnb96 := NB263_237.out; have hnc96 := NB237_263.out; have hcz97_0 : w94.cell? ⟨gb263, 0, none⟩ = some (.slice Ao36 t256.length co36) := (zH BK263.out 0).trans rfl; have hcz97_1 : w94.cell? ⟨gb263, 1, none⟩ = some (.slice Ao38 t259.length co38) := (zH BK263.out 1).trans rfl; have hfz97_0 := zI BK263.out 0; have hfz97_1 := zI BK263.out 1) | ((with_reducible refine gate_callee (f := 15) rfl ?_); refine goesL_ (some 46) rfl rfl Tryd.func15 (by kernel_rfl) rfl #[.agg #[.slice Ao36 t256.length co36, .slice Ao38 t259.length co38]] rfl (by (try simp only [zS, zU, zV]); first | done | rfl | (simp only [zO, zN]; rfl)) ?_; (with_reducible refine (boscagelaw31_Back.calls kj10 (fun k_ => (some k_ ≠ (.slice Ao19 t239.length co19 : Value).ownBlock ∧ (some k_ ≠ (.slice Ao21 t242.length co21 : Value).ownBlock ∧ (k_ ≠ gb235 ∧ (k_ ≠ gb236 ∧ (k_ ≠ gb237 ∧ k_ ≠ gb263)))))) _ _ t256 (fun k_ => (some k_ ≠ (.slice Ao19 t239.length co19 : Value).ownBlock ∧ (some k_ ≠ (.slice Ao21 t242.length co21 : Value).ownBlock ∧ (k_ ≠ gb235 ∧ (k_ ≠ gb236 ∧ (k_ ≠ gb237 ∧ k_ ≠ gb263)))))) _ _ t259 t275 t278 _ ?side1 ?side2 A53.out).mono ?_); (case side1 => exact HO_264000.out); (case side2 => exact HO_264001.out); rintro e w98 ⟨v276, v279, rfl, ho0, ho1, hb⟩; refine ⟨_, rfl, ?_⟩; have n0_ := zX (Kd.R_below (by (with_reducible repeat (first | apply za | apply zg | apply zh)); exact HO_237000.out) hb); have n1_ := zX (Kd.N_elder' (by (with_reducible repeat (first | apply ze | apply zo | apply zp)); exact HO_237001.out) (Kd.N_base (by first | exact ho1 | exact Kd.S_N ho1)) hb); have n2_ := zX (Kd.V_elder' (by (with_reducible repeat (first | apply zb | apply zc | apply zd)); exact HO_264000.out) (Kd.N_base (by first | exact ho1 | exact Kd.S_N ho1)) hb); have n3_ := zX (Kd.V_elder' (by (with_reducible repeat (first | apply zb | apply zc | apply zd)); exact HO_264001.out) (Kd.N_base (by first | exact ho1 | exact Kd.S_N ho1)) hb); have n4_ := zX (Kd.V_elder' (by (with_reducible repeat (first | apply zb | apply zc | apply zd)); exact HO273.out) (Kd.N_base (by first | exact ho1 | exact Kd.S_N ho1)) hb); have n5_ := zX (Kd.V_lower (Kd.V_mono (ok' := fun k_ => some k_ ≠ (v279 : Value).ownBlock ∧ some k_ ≠ (.slice Ao19 t239.length co19 : Value).ownBlock ∧ some k_ ≠ (.slice Ao21 t242.length co21 : Value).ownBlock ∧ k_ ≠ gb235 ∧ k_ ≠ gb236 ∧ k_ ≠ gb237 ∧ k_ ≠ gb263) ho0 (fun k_ hk_ => ⟨hk_.2, zj hk_.1 (fun hs_ => zj hs_ (fun hs_ => hs_.1) (fun hs_ => hs_.1)) (fun hn_ => (Kd.fresh' (Kd.R_lt (by (with_reducible repeat (first | apply za | apply zg | apply zh)); exact HO_237000.out)) k_ hn_)), zj hk_.1 (fun hs_ => zj hs_ (fun hs_ => hs_.2.1) (fun hs_ => hs_.2.1)) (fun hn_ => (Kd.fresh' (Kd.N_lt (by (with_reducible repeat (first | apply ze | apply zo | apply zp)); exact HO_237001.out)) k_ hn_)), zj hk_.1 (fun hs_ => zj hs_ (fun hs_ => hs_.2.2.1) (fun hs_ => hs_.2.2.1)) (fun hn_ => (zl (g := gb235) (o := .cells #[.int .i64 a0_0, .int .i64 a0_1, .int .i64 a0_2, .int .i64 a0_3, .int .i64 a0_4] 23 (0, 0)) (by (with_reducible repeat (first | refine zL ?_ _ | refine zM ?_ | refine zJ ?_ _)); exact BK235.out) k_ hn_)), zj hk_.1 (fun hs_ => zj hs_ (fun hs_ => hs_.2.2.2.1) (fun hs_ => hs_.2.2.2.1)) (fun hn_ => (zl (g := gb236) (o := .cells #[.slice Ao19 t239.length co19, .slice Ao21 t242.length co21] 27 (0, 0)) (by (with_reducible repeat (first | refine zL ?_ _ | refine zM ?_ | refine zJ ?_ _)); exact BK236.out) k_ hn_)), zj hk_.1 (fun hs_ => zj hs_ (fun hs_ => hs_.2.2.2.2.1) (fun hs_ => hs_.2.2.2.2.1)) (fun hn_ => (zl (g := gb237) (o := .cells #[.int .i64 t245, .string t246, .string t247, .string t248, .int .i64 t249] 29 (0, 0)) (by (with_reducible repeat (first | refine zL ?_ _ | refine zM ?_ | refine zJ ?_ _)); exact BK237.out) k_ hn_)), zj hk_.1 (fun hs_ => zj hs_ (fun hs_ => hs_.2.2.2.2.2) (fun hs_ => hs_.2.2.2.2.2)) (fun hn_ => (zl (g := gb263) (o := .cells #[.slice Ao36 t256.length co36, .slice Ao38 t259.length co38] 39 (0, 0)) (by (with_reducible repeat (first | refine zL ?_ _ | refine zM ?_ | refine zJ ?_ _)); exact BK263.out) k_ hn_))⟩)) (zY (by repeat (first | (with_reducible first | exact HB.out | apply zF | apply zE | apply zG | refine zK ?_ GE235.out | refine zK ?_ GE236.out | refine zK ?_ GE237.out | refine zK ?_ GE263.out) | exact HB.out)))); have n6_ := zX (Kd.N_lower (Kd.N_mono (ok' := fun k_ => some k_ ≠ (.slice Ao19 t239.length co19 : Value).ownBlock ∧ some k_ ≠ (.slice Ao21 t242.length co21 : Value).ownBlock ∧ k_ ≠ gb235 ∧ k_ ≠ gb236 ∧ k_ ≠ gb237 ∧ k_ ≠ gb263) ho1 (fun k_ hk_ => ⟨zj hk_ (fun hs_ => zj hs_ (fun hs_ => hs_.1) (fun hs_ => hs_.1)) (fun hn_ => (Kd.fresh' (Kd.R_lt (by (with_reducible repeat (first | apply za | apply zg | apply zh)); exact HO_237000.out)) k_ hn_)), zj hk_ (fun hs_ => zj hs_ (fun hs_ => hs_.2.1) (fun hs_ => hs_.2.1)) (fun hn_ => (Kd.fresh' (Kd.N_lt (by (with_reducible repeat (first | apply ze | apply zo | apply zp)); exact HO_237001.out)) k_ hn_)), zj hk_ (fun hs_ => zj hs_ (fun hs_ => hs_.2.2.1) (fun hs_ => hs_.2.2.1)) (fun hn_ => (zl (g := gb235) (o := .cells #[.int .i64 a0_0, .int .i64 a0_1, .int .i64 a0_2, .int .i64 a0_3, .int .i64 a0_4] 23 (0, 0)) (by (with_reducible repeat (first | refine zL ?_ _ | refine zM ?_ | refine zJ ?_ _)); exact BK235.out) k_ hn_)), zj hk_ (fun hs_ => zj hs_ (fun hs_ => hs_.2.2.2.1) (fun hs_ => hs_.2.2.2.1)) (fun hn_ => (zl (g := gb236) (o := .cells #[.slice Ao19 t239.length co19, .slice Ao21 t242.length co21] 27 (0, 0)) (by (with_reducible repeat (first | refine zL ?_ _ | refine zM ?_ | refine zJ ?_ _)); exact BK236.out) k_ hn_)), zj hk_ (fun hs_ => zj hs_ (fun hs_ => hs_.2.2.2.2.1) (fun hs_ => hs_.2.2.2.2.1)) (fun hn_ => (zl (g := gb237) (o := .cells #[.int .i64 t245, .string t246, .string t247, .string t248, .int .i64 t249] 29 (0, 0)) (by (with_reducible repeat (first | refine zL ?_ _ | refine zM ?_ | refine zJ ?_ _)); exact BK237.out) k_ hn_)), zj hk_ (fun hs_ => zj hs_ (fun hs_ => hs_.2.2.2.2.2) (fun hs_ => hs_.2.2.2.2.2)) (fun hn_ => (zl (g := gb263) (o := .cells #[.slice Ao36 t256.length co36, .slice Ao38 t259.length co38] 39 (0, 0)) (by (with_reducible repeat (first | refine zL ?_ _ | refine zM ?_ | refine zJ ?_ _)); exact BK263.out) k_ hn_))⟩)) (zY (by repeat (first | (with_reducible first | exact HB.out | apply zF | apply zE | apply zG | refine zK ?_ GE235.out | refine zK ?_ GE236.out | refine zK ?_ GE237.out | refine zK ?_ GE263.out) | exact HB.out)))); have n7_ := zX (zm (g := gb235) (o := .cells #[.int .i64 a0_0, .int .i64 a0_1, .int .i64 a0_2, .int .i64 a0_3, .int .i64 a0_4] 23 (0, 0)) (by (with_reducible repeat (first | refine zL ?_ _ | refine zM ?_ | refine zJ ?_ _)); exact BK235.out) hb); have n8_ := zX (zm (g := gb236) (o := .cells #[.slice Ao19 t239.length co19, .slice Ao21 t242.length co21] 27 (0, 0)) (by (with_reducible repeat (first | refine zL ?_ _ | refine zM ?_ | refine zJ ?_ _)); exact BK236.out) hb); have n9_ := zX (zm (g := gb237) (o := .cells #[.int .i64 t245, .string t246, .string t247, .string t248, .int .i64 t249] 29 (0, 0)) (by (with_reducible repeat (first | refine zL ?_ _ | refine zM ?_ | refine zJ ?_ _)); exact BK237.out) hb); have n10_ := zX (zm (g := gb263) (o := .cells #[.slice Ao36 t256.length co36, .slice Ao38 t259.length co38] 39 (0, 0)) (by (with_reducible repeat (first | refine zL ?_ _ | refine zM ?_ | refine zJ ?_ _)); exact BK263.out) hb); have n11_ := zX (zT (by repeat (first | (with_reducible first | exact HB.out | apply zF | apply zE | apply zG | refine zK ?_ GE235.out | refine zK ?_ GE236.out | refine zK ?_ GE237.out | refine zK ?_ GE263.out) | exact HB.out)) hb); clear HO_237000; clear HO_237001; clear HO_264000; clear HO_264001; clear HO273; clear BK235; clear BK236; clear BK237; clear BK263; clear HB; have HO_237000 := n0_; have HO_237001 := n1_; have HO_264000 := n2_; have HO_264001 := n3_; have HO273 := n4_; have HO277 := n5_; have HO280 := n6_; have BK235 := n7_; have BK236 := n8_; have BK237 := n9_; have BK263 := n10_; have HB := n11_; clear n0_ n1_ n2_ n3_ n4_ n5_ n6_ n7_ n8_ n9_ n10_ n11_; (try clear hb); (try clear hb2); (try clear hk); (try clear hi); (try clear ho0); (try clear ho1); obtain ⟨Ao99, co99, eo99⟩ := Kd.V_slice HO277.out; subst eo99; obtain ⟨Ao100, co100, eo100⟩ := Kd.N_slice HO280.out; subst eo100) | ((with_reducible refine gate_callee (f := 23) rfl ?_); refine goesL_ (some 48) rfl rfl Tryd.func23 (by kernel_rfl) rfl #[.agg #[.slice Ao99 t275.length co99, .slice Ao100 t278.length co100], .int .i64 a3] rfl (by (try simp only [zS, zU, zV]); first | done | rfl | (simp only [zO, zN]; rfl)) ?_; (with_reducible refine (boscageref31_At.calls kj10 _ _ t275 (fun k_ => (some k_ ≠ (.slice Ao19 t239.length co19 : Value).ownBlock ∧ (some k_ ≠ (.slice Ao21 t242.length co21 : Value).ownBlock ∧ (k_ ≠ gb235 ∧ (k_ ≠ gb236 ∧ (k_ ≠ gb237 ∧ k_ ≠ gb263)))))) _ _ t278 a3 t281 t284 _ ?side1 ?side2 ?side3 A54.out).mono ?_); (case side1 => repeat (first | exact (Kd.V_reads' HO277.out).2.2 | (with_reducible refine Kd.C_alloc ?_ _) | (with_reducible refine Kd.C_drewN ?_ _) | (with_reducible refine Kd.C_drew ?_))); (case side2 => exact (Kd.V_reads' HO277.out).2.1); (case side3 => exact Kd.N_V (HO280.out)); rintro e w101 ⟨v282, rfl, ho0, hb⟩; refine ⟨_, rfl, ?_⟩; have n0_ := zX (Kd.R_below (by (with_reducible repeat (first | apply za | apply zg | apply zh)); exact HO_237000.out) hb); have n1_ := zX (Kd.N_below (by (with_reducible repeat (first | apply ze | apply zo | apply zp)); exact HO_237001.out) hb); have n2_ := zX (Kd.V_below (by (with_reducible repeat (first | apply zb | apply zc | apply zd)); exact HO_264000.out) hb); have n3_ := zX (Kd.V_below (by (with_reducible repeat (first | apply zb | apply zc | apply zd)); exact HO_264001.out) hb); have n4_ := zX (Kd.V_below (by (with_reducible repeat (first | apply zb | apply zc | apply zd)); exact HO273.out) hb); have n5_ := zX (Kd.V_below (by (with_reducible repeat (first | apply zb | apply zc | apply zd)); exact HO277.out) hb); have n6_ := zX (Kd.N_below (by (with_reducible repeat (first | apply ze | apply zo | apply zp)); exact HO280.out) hb); have n7_ := zX (Kd.V_lower (Kd.V_mono (ok' := fun k_ => some k_ ≠ (.slice Ao19 t239.length co19 : Value).ownBlock ∧ some k_ ≠ (.slice Ao21 t242.length co21 : Value).ownBlock ∧ k_ ≠ gb235 ∧ k_ ≠ gb236 ∧ k_ ≠ gb237 ∧ k_ ≠ gb263) ho0 (fun k_ hk_ => ⟨zj hk_ (fun hs_ => hs_.1) (fun hn_ => (Kd.fresh' (Kd.R_lt (by (with_reducible repeat (first | apply za | apply zg | apply zh)); exact HO_237000.out)) k_ hn_)), zj hk_ (fun hs_ => hs_.2.1) (fun hn_ => (Kd.fresh' (Kd.N_lt (by (with_reducible repeat (first | apply ze | apply zo | apply zp)); exact HO_237001.out)) k_ hn_)), zj hk_ (fun hs_ => hs_.2.2.1) (fun hn_ => (zl (g := gb235) (o := .cells #[.int .i64 a0_0, .int .i64 a0_1, .int .i64 a0_2, .int .i64 a0_3, .int .i64 a0_4] 23 (0, 0)) (by (with_reducible repeat (first | refine zL ?_ _ | refine zM ?_ | refine zJ ?_ _)); exact BK235.out) k_ hn_)), zj hk_ (fun hs_ => hs_.2.2.2.1) (fun hn_ => (zl (g := gb236) (o := .cells #[.slice Ao19 t239.length co19, .slice Ao21 t242.length co21] 27 (0, 0)) (by (with_reducible repeat (first | refine zL ?_ _ | refine zM ?_ | refine zJ ?_ _)); exact BK236.out) k_ hn_)), zj hk_ (fun hs_ => hs_.2.2.2.2.1) (fun hn_ => (zl (g := gb237) (o := .cells #[.int .i64 t245, .string t246, .string t247, .string t248, .int .i64 t249] 29 (0, 0)) (by (with_reducible repeat (first | refine zL ?_ _ | refine zM ?_ | refine zJ ?_ _)); exact BK237.out) k_ hn_)), zj hk_ (fun hs_ => hs_.2.2.2.2.2) (fun hn_ => (zl (g := gb263) (o := .cells #[.slice Ao36 t256.length co36, .slice Ao38 t259.length co38] 39 (0, 0)) (by (with_reducible repeat (first | refine zL ?_ _ | refine zM ?_ | refine zJ ?_ _)); exact BK263.out) k_ hn_))⟩)) (zY (by repeat (first | (with_reducible first | exact HB.out | apply zF | apply zE | apply zG | refine zK ?_ GE235.out | refine zK ?_ GE236.out | refine zK ?_ GE237.out | refine zK ?_ GE263.out) | exact HB.out)))); have n8_ := zX (zm (g := gb235) (o := .cells #[.int .i64 a0_0, .int .i64 a0_1, .int .i64 a0_2, .int .i64 a0_3, .int .i64 a0_4] 23 (0, 0)) (by (with_reducible repeat (first | refine zL ?_ _ | refine zM ?_ | refine zJ ?_ _)); exact BK235.out) hb); have n9_ := zX (zm (g := gb236) (o := .cells #[.slice Ao19 t239.length co19, .slice Ao21 t242.length co21] 27 (0, 0)) (by (with_reducible repeat (first | refine zL ?_ _ | refine zM ?_ | refine zJ ?_ _)); exact BK236.out) hb); have n10_ := zX (zm (g := gb237) (o := .cells #[.int .i64 t245, .string t246, .string t247, .string t248, .int .i64 t249] 29 (0, 0)) (by (with_reducible repeat (first | refine zL ?_ _ | refine zM ?_ | refine zJ ?_ _)); exact BK237.out) hb); have n11_ := zX (zm (g := gb263) (o := .cells #[.slice Ao36 t256.length co36, .slice Ao38 t259.length co38] 39 (0, 0)) (by (with_reducible repeat (first | refine zL ?_ _ | refine zM ?_ | refine zJ ?_ _)); exact BK263.out) hb); have n12_ := zX (zT (by repeat (first | (with_reducible first | exact HB.out | apply zF | apply zE | apply zG | refine zK ?_ GE235.out | refine zK ?_ GE236.out | refine zK ?_ GE237.out | refine zK ?_ GE263.out) | exact HB.out)) hb); clear HO_237000; clear HO_237001; clear HO_264000; clear HO_264001; clear HO273; clear HO277; clear HO280; clear BK235; clear BK236; clear BK237; clear BK263; clear HB; have HO_237000 := n0_; have HO_237001 := n1_; have HO_264000 := n2_; have HO_264001 := n3_; have HO273 := n4_; have HO277 := n5_; have HO280 := n6_; have HO283 := n7_; have BK235 := n8_; have BK236 := n9_; have BK237 := n10_; have BK263 := n11_; have HB := n12_; clear n0_ n1_ n2_ n3_ n4_ n5_ n6_ n7_ n8_ n9_ n10_ n11_ n12_; (try clear hb); (try clear hb2); (try clear hk); (try clear hi); (try clear ho0); have hnb102 := NB237_235.out; have hnc102 := NB235_237.out; have hcz103_0 : w101.cell? ⟨gb237, 0, none⟩ = some (.int .i64 t245) := (zH BK237.out 0).trans rfl; have hcz103_1 : w101.cell? ⟨gb237, 1, none⟩ = some (.string t246) := (zH BK237.out 1).trans rfl; have hcz103_2 : w101.cell? ⟨gb237, 2, none⟩ = some (.string t247) := (zH BK237.out 2).trans rfl; have hcz103_3 : w101.cell? ⟨gb237, 3, none⟩ = some (.string t248) := (zH BK237.out 3).trans rfl; have hcz103_4 : w101.cell? ⟨gb237, 4, none⟩ = some (.int .i64 t249) := (zH BK237.out 4).trans rfl; have hfz103_0 := zI BK237.out 0; have hfz103_1 := zI BK237.out 1; have hfz103_2 := zI BK237.out 2; have hfz103_3 := zI BK237.out 3; have hfz103_4 := zI BK237.out 4))
                go_ret
                exact ⟨by first | rfl | (simp [errW_none, errW_some] <;> rfl) | (simp [*, errW_none, errW_some] <;> rfl), by repeat (first | (with_reducible first | exact HB.out | apply zF | apply zE | apply zG | refine zK ?_ GE235.out | refine zK ?_ GE236.out | refine zK ?_ GE237.out | refine zK ?_ GE263.out) | exact HB.out)⟩
          · rw [if_neg c55] at H
            have c55b0 : (t245 == 8) = false := beq_eq_false_iff_ne.mpr c55
            have c55b1 : (t245 != 8) = true := bne_iff_ne.mpr c55
            by_cases c104 : (t274 == t284) = true
            · rw [if_pos c104] at H
              have c104b0 : (t274 == t284) = true := c104
              (try (have c104b1 : decide (t274 = t284) = true := by simpa using c104))
              (try (have c104b2 : (t274 == t284) = true := by simpa using c104))
              clear c104
              replace H := Option.bind_eq_some_iff.mp H
              obtain ⟨t286, A1050, H⟩ := H
              replace H : (some t286) = some r := H
              have A105 := zX A1050
              clear A1050
              obtain rfl := zQ H
              have hnb106 := NB236_235.out
              have hnc106 := NB235_236.out
              have hnb107 := NB236_237.out
              have hnc107 := NB237_236.out
              have hnb108 := NB236_263.out
              have hnc108 := NB263_236.out
              have hcz109_0 : wc.cell? ⟨gb236, 0, none⟩ = some (.slice Ao19 t239.length co19) := (zH BK236.out 0).trans rfl
              have hcz109_1 : wc.cell? ⟨gb236, 1, none⟩ = some (.slice Ao21 t242.length co21) := (zH BK236.out 1).trans rfl
              have hfz109_0 := zI BK236.out 0
              have hfz109_1 := zI BK236.out 1
              go_wp2_with (first | ((with_reducible refine gate_callee (f := 23) rfl ?_); refine goesL_ (some 41) rfl rfl Tryd.func23 (by kernel_rfl) rfl #[.agg #[.slice Ao19 t239.length co19, .slice Ao21 t242.length co21], .int .i64 a3] rfl (by (try simp only [zS, zU, zV]); first | done | rfl | (simp only [zO, zN]; rfl)) ?_; (with_reducible refine (boscageref31_At.calls kj10 _ _ t239 (fun k_ => (some k_ ≠ (.slice Ao19 t239.length co19 : Value).ownBlock ∧ (k_ ≠ gb235 ∧ (k_ ≠ gb236 ∧ (k_ ≠ gb237 ∧ k_ ≠ gb263))))) _ _ t242 a3 t271 t274 _ ?side1 ?side2 ?side3 A52.out).mono ?_); (case side1 => repeat (first | exact (Kd.R_reads' HO_237000.out).2.2 | (with_reducible refine Kd.C_alloc ?_ _) | (with_reducible refine Kd.C_drewN ?_ _) | (with_reducible refine Kd.C_drew ?_))); (case side2 => exact (Kd.R_reads' HO_237000.out).2.1); (case side3 => exact Kd.N_V (HO_237001.out)); rintro e w110 ⟨v272, rfl, ho0, hb⟩; refine ⟨_, rfl, ?_⟩; have n0_ := zX (Kd.R_below (by (with_reducible repeat (first | apply za | apply zg | apply zh)); exact HO_237000.out) hb); have n1_ := zX (Kd.N_below (by (with_reducible repeat (first | apply ze | apply zo | apply zp)); exact HO_237001.out) hb); have n2_ := zX (Kd.V_below (by (with_reducible repeat (first | apply zb | apply zc | apply zd)); exact HO_264000.out) hb); have n3_ := zX (Kd.V_below (by (with_reducible repeat (first | apply zb | apply zc | apply zd)); exact HO_264001.out) hb); have n4_ := zX (Kd.V_lower (Kd.V_mono (ok' := fun k_ => some k_ ≠ (.slice Ao19 t239.length co19 : Value).ownBlock ∧ k_ ≠ gb235 ∧ k_ ≠ gb236 ∧ k_ ≠ gb237 ∧ k_ ≠ gb263) ho0 (fun k_ hk_ => ⟨zj hk_ (fun hs_ => hs_.1) (fun hn_ => (Kd.fresh' (Kd.R_lt (by (with_reducible repeat (first | apply za | apply zg | apply zh)); exact HO_237000.out)) k_ hn_)), zj hk_ (fun hs_ => hs_.2.1) (fun hn_ => (zl (g := gb235) (o := .cells #[.int .i64 a0_0, .int .i64 a0_1, .int .i64 a0_2, .int .i64 a0_3, .int .i64 a0_4] 23 (0, 0)) (by (with_reducible repeat (first | refine zL ?_ _ | refine zM ?_ | refine zJ ?_ _)); exact BK235.out) k_ hn_)), zj hk_ (fun hs_ => hs_.2.2.1) (fun hn_ => (zl (g := gb236) (o := .cells #[.slice Ao19 t239.length co19, .slice Ao21 t242.length co21] 27 (0, 0)) (by (with_reducible repeat (first | refine zL ?_ _ | refine zM ?_ | refine zJ ?_ _)); exact BK236.out) k_ hn_)), zj hk_ (fun hs_ => hs_.2.2.2.1) (fun hn_ => (zl (g := gb237) (o := .cells #[.int .i64 t245, .string t246, .string t247, .string t248, .int .i64 t249] 29 (0, 0)) (by (with_reducible repeat (first | refine zL ?_ _ | refine zM ?_ | refine zJ ?_ _)); exact BK237.out) k_ hn_)), zj hk_ (fun hs_ => hs_.2.2.2.2) (fun hn_ => (zl (g := gb263) (o := .cells #[.slice Ao36 t256.length co36, .slice Ao38 t259.length co38] 39 (0, 0)) (by (with_reducible repeat (first | refine zL ?_ _ | refine zM ?_ | refine zJ ?_ _)); exact BK263.out) k_ hn_))⟩)) (zY (by repeat (first | (with_reducible first | exact HB.out | apply zF | apply zE | apply zG | refine zK ?_ GE235.out | refine zK ?_ GE236.out | refine zK ?_ GE237.out | refine zK ?_ GE263.out) | exact HB.out)))); have n5_ := zX (zm (g := gb235) (o := .cells #[.int .i64 a0_0, .int .i64 a0_1, .int .i64 a0_2, .int .i64 a0_3, .int .i64 a0_4] 23 (0, 0)) (by (with_reducible repeat (first | refine zL ?_ _ | refine zM ?_ | refine zJ ?_ _)); exact BK235.out) hb); have n6_ := zX (zm (g := gb236) (o := .cells #[.slice Ao19 t239.length co19, .slice Ao21 t242.length co21] 27 (0, 0)) (by (with_reducible repeat (first | refine zL ?_ _ | refine zM ?_ | refine zJ ?_ _)); exact BK236.out) hb); have n7_ := zX (zm (g := gb237) (o := .cells #[.int .i64 t245, .string t246, .string t247, .string t248, .int .i64 t249] 29 (0, 0)) (by (with_reducible repeat (first | refine zL ?_ _ | refine zM ?_ | refine zJ ?_ _)); exact BK237.out) hb); have n8_ := zX (zm (g := gb263) (o := .cells #[.slice Ao36 t256.length co36, .slice Ao38 t259.length co38] 39 (0, 0)) (by (with_reducible repeat (first | refine zL ?_ _ | refine zM ?_ | refine zJ ?_ _)); exact BK263.out) hb); have n9_ := zX (zT (by repeat (first | (with_reducible first | exact HB.out | apply zF | apply zE | apply zG | refine zK ?_ GE235.out | refine zK ?_ GE236.out | refine zK ?_ GE237.out | refine zK ?_ GE263.out) | exact HB.out)) hb); clear HO_237000; clear HO_237001; clear HO_264000; clear HO_264001; clear BK235; clear BK236; clear BK237; clear BK263; clear HB; have HO_237000 := n0_; have HO_237001 := n1_; have HO_264000 := n2_; have HO_264001 := n3_; have HO273 := n4_; have BK235 := n5_; have BK236 := n6_; have BK237 := n7_; have BK263 := n8_; have HB := n9_; clear n0_ n1_ n2_ n3_ n4_ n5_ n6_ n7_ n8_ n9_; (try clear hb); (try clear hb2); (try clear hk); (try clear hi); (try clear ho0); have hnb111 := NB263_235.out; have hnc111 := NB235_263.out; have hnb112 := NB263_237.out; have hnc112 := NB237_263.out; have hcz113_0 : w110.cell? ⟨gb263, 0, none⟩ = some (.slice Ao36 t256.length co36) := (zH BK263.out 0).trans rfl; have hcz113_1 : w110.cell? ⟨gb263, 1, none⟩ = some (.slice Ao38 t259.length co38) := (zH BK263.out 1).trans rfl; have hfz113_0 := zI BK263.out 0; have hfz113_1 := zI BK263.out 1) | ((with_reducible refine gate_callee (f := 15) rfl ?_); refine goesL_ (some 46) rfl rfl Tryd.func15 (by kernel_rfl) rfl #[.agg #[.slice Ao36 t256.length co36, .slice Ao38 t259.length co38]] rfl (by (try simp only [zS, zU, zV]); first | done | rfl | (simp only [zO, zN]; rfl)) ?_; (with_reducible refine (boscagelaw31_Back.calls kj10 (fun k_ => (some k_ ≠ (.slice Ao19 t239.length co19 : Value).ownBlock ∧ (some k_ ≠ (.slice Ao21 t242.length co21 : Value).ownBlock ∧ (k_ ≠ gb235 ∧ (k_ ≠ gb236 ∧ (k_ ≠ gb237 ∧ k_ ≠ gb263)))))) _ _ t256 (fun k_ => (some k_ ≠ (.slice Ao19 t239.length co19 : Value).ownBlock ∧ (some k_ ≠ (.slice Ao21 t242.length co21 : Value).ownBlock ∧ (k_ ≠ gb235 ∧ (k_ ≠ gb236 ∧ (k_ ≠ gb237 ∧ k_ ≠ gb263)))))) _ _ t259 t275 t278 _ ?side1 ?side2 A53.out).mono ?_); (case side1 => exact HO_264000.out); (case side2 => exact HO_264001.out); rintro e w114 ⟨v276, v279, rfl, ho0, ho1, hb⟩; refine ⟨_, rfl, ?_⟩; have n0_ := zX (Kd.R_below (by (with_reducible repeat (first | apply za | apply zg | apply zh)); exact HO_237000.out) hb); have n1_ := zX (Kd.N_elder' (by (with_reducible repeat (first | apply ze | apply zo | apply zp)); exact HO_237001.out) (Kd.N_base (by first | exact ho1 | exact Kd.S_N ho1)) hb); have n2_ := zX (Kd.V_elder' (by (with_reducible repeat (first | apply zb | apply zc | apply zd)); exact HO_264000.out) (Kd.N_base (by first | exact ho1 | exact Kd.S_N ho1)) hb); have n3_ := zX (Kd.V_elder' (by (with_reducible repeat (first | apply zb | apply zc | apply zd)); exact HO_264001.out) (Kd.N_base (by first | exact ho1 | exact Kd.S_N ho1)) hb); have n4_ := zX (Kd.V_elder' (by (with_reducible repeat (first | apply zb | apply zc | apply zd)); exact HO273.out) (Kd.N_base (by first | exact ho1 | exact Kd.S_N ho1)) hb); have n5_ := zX (Kd.V_lower (Kd.V_mono (ok' := fun k_ => some k_ ≠ (v279 : Value).ownBlock ∧ some k_ ≠ (.slice Ao19 t239.length co19 : Value).ownBlock ∧ some k_ ≠ (.slice Ao21 t242.length co21 : Value).ownBlock ∧ k_ ≠ gb235 ∧ k_ ≠ gb236 ∧ k_ ≠ gb237 ∧ k_ ≠ gb263) ho0 (fun k_ hk_ => ⟨hk_.2, zj hk_.1 (fun hs_ => zj hs_ (fun hs_ => hs_.1) (fun hs_ => hs_.1)) (fun hn_ => (Kd.fresh' (Kd.R_lt (by (with_reducible repeat (first | apply za | apply zg | apply zh)); exact HO_237000.out)) k_ hn_)), zj hk_.1 (fun hs_ => zj hs_ (fun hs_ => hs_.2.1) (fun hs_ => hs_.2.1)) (fun hn_ => (Kd.fresh' (Kd.N_lt (by (with_reducible repeat (first | apply ze | apply zo | apply zp)); exact HO_237001.out)) k_ hn_)), zj hk_.1 (fun hs_ => zj hs_ (fun hs_ => hs_.2.2.1) (fun hs_ => hs_.2.2.1)) (fun hn_ => (zl (g := gb235) (o := .cells #[.int .i64 a0_0, .int .i64 a0_1, .int .i64 a0_2, .int .i64 a0_3, .int .i64 a0_4] 23 (0, 0)) (by (with_reducible repeat (first | refine zL ?_ _ | refine zM ?_ | refine zJ ?_ _)); exact BK235.out) k_ hn_)), zj hk_.1 (fun hs_ => zj hs_ (fun hs_ => hs_.2.2.2.1) (fun hs_ => hs_.2.2.2.1)) (fun hn_ => (zl (g := gb236) (o := .cells #[.slice Ao19 t239.length co19, .slice Ao21 t242.length co21] 27 (0, 0)) (by (with_reducible repeat (first | refine zL ?_ _ | refine zM ?_ | refine zJ ?_ _)); exact BK236.out) k_ hn_)), zj hk_.1 (fun hs_ => zj hs_ (fun hs_ => hs_.2.2.2.2.1) (fun hs_ => hs_.2.2.2.2.1)) (fun hn_ => (zl (g := gb237) (o := .cells #[.int .i64 t245, .string t246, .string t247, .string t248, .int .i64 t249] 29 (0, 0)) (by (with_reducible repeat (first | refine zL ?_ _ | refine zM ?_ | refine zJ ?_ _)); exact BK237.out) k_ hn_)), zj hk_.1 (fun hs_ => zj hs_ (fun hs_ => hs_.2.2.2.2.2) (fun hs_ => hs_.2.2.2.2.2)) (fun hn_ => (zl (g := gb263) (o := .cells #[.slice Ao36 t256.length co36, .slice Ao38 t259.length co38] 39 (0, 0)) (by (with_reducible repeat (first | refine zL ?_ _ | refine zM ?_ | refine zJ ?_ _)); exact BK263.out) k_ hn_))⟩)) (zY (by repeat (first | (with_reducible first | exact HB.out | apply zF | apply zE | apply zG | refine zK ?_ GE235.out | refine zK ?_ GE236.out | refine zK ?_ GE237.out | refine zK ?_ GE263.out) | exact HB.out)))); have n6_ := zX (Kd.N_lower (Kd.N_mono (ok' := fun k_ => some k_ ≠ (.slice Ao19 t239.length co19 : Value).ownBlock ∧ some k_ ≠ (.slice Ao21 t242.length co21 : Value).ownBlock ∧ k_ ≠ gb235 ∧ k_ ≠ gb236 ∧ k_ ≠ gb237 ∧ k_ ≠ gb263) ho1 (fun k_ hk_ => ⟨zj hk_ (fun hs_ => zj hs_ (fun hs_ => hs_.1) (fun hs_ => hs_.1)) (fun hn_ => (Kd.fresh' (Kd.R_lt (by (with_reducible repeat (first | apply za | apply zg | apply zh)); exact HO_237000.out)) k_ hn_)), zj hk_ (fun hs_ => zj hs_ (fun hs_ => hs_.2.1) (fun hs_ => hs_.2.1)) (fun hn_ => (Kd.fresh' (Kd.N_lt (by (with_reducible repeat (first | apply ze | apply zo | apply zp)); exact HO_237001.out)) k_ hn_)), zj hk_ (fun hs_ => zj hs_ (fun hs_ => hs_.2.2.1) (fun hs_ => hs_.2.2.1)) (fun hn_ => (zl (g := gb235) (o := .cells #[.int .i64 a0_0, .int .i64 a0_1, .int .i64 a0_2, .int .i64 a0_3, .int .i64 a0_4] 23 (0, 0)) (by (with_reducible repeat (first | refine zL ?_ _ | refine zM ?_ | refine zJ ?_ _)); exact BK235.out) k_ hn_)), zj hk_ (fun hs_ => zj hs_ (fun hs_ => hs_.2.2.2.1) (fun hs_ => hs_.2.2.2.1)) (fun hn_ => (zl (g := gb236) (o := .cells #[.slice Ao19 t239.length co19, .slice Ao21 t242.length co21] 27 (0, 0)) (by (with_reducible repeat (first | refine zL ?_ _ | refine zM ?_ | refine zJ ?_ _)); exact BK236.out) k_ hn_)), zj hk_ (fun hs_ => zj hs_ (fun hs_ => hs_.2.2.2.2.1) (fun hs_ => hs_.2.2.2.2.1)) (fun hn_ => (zl (g := gb237) (o := .cells #[.int .i64 t245, .string t246, .string t247, .string t248, .int .i64 t249] 29 (0, 0)) (by (with_reducible repeat (first | refine zL ?_ _ | refine zM ?_ | refine zJ ?_ _)); exact BK237.out) k_ hn_)), zj hk_ (fun hs_ => zj hs_ (fun hs_ => hs_.2.2.2.2.2) (fun hs_ => hs_.2.2.2.2.2)) (fun hn_ => (zl (g := gb263) (o := .cells #[.slice Ao36 t256.length co36, .slice Ao38 t259.length co38] 39 (0, 0)) (by (with_reducible repeat (first | refine zL ?_ _ | refine zM ?_ | refine zJ ?_ _)); exact BK263.out) k_ hn_))⟩)) (zY (by repeat (first | (with_reducible first | exact HB.out | apply zF | apply zE | apply zG | refine zK ?_ GE235.out | refine zK ?_ GE236.out | refine zK ?_ GE237.out | refine zK ?_ GE263.out) | exact HB.out)))); have n7_ := zX (zm (g := gb235) (o := .cells #[.int .i64 a0_0, .int .i64 a0_1, .int .i64 a0_2, .int .i64 a0_3, .int .i64 a0_4] 23 (0, 0)) (by (with_reducible repeat (first | refine zL ?_ _ | refine zM ?_ | refine zJ ?_ _)); exact BK235.out) hb); have n8_ := zX (zm (g := gb236) (o := .cells #[.slice Ao19 t239.length co19, .slice Ao21 t242.length co21] 27 (0, 0)) (by (with_reducible repeat (first | refine zL ?_ _ | refine zM ?_ | refine zJ ?_ _)); exact BK236.out) hb); have n9_ := zX (zm (g := gb237) (o := .cells #[.int .i64 t245, .string t246, .string t247, .string t248, .int .i64 t249] 29 (0, 0)) (by (with_reducible repeat (first | refine zL ?_ _ | refine zM ?_ | refine zJ ?_ _)); exact BK237.out) hb); have n10_ := zX (zm (g := gb263) (o := .cells #[.slice Ao36 t256.length co36, .slice Ao38 t259.length co38] 39 (0, 0)) (by (with_reducible repeat (first | refine zL ?_ _ | refine zM ?_ | refine zJ ?_ _)); exact BK263.out) hb); have n11_ := zX (zT (by repeat (first | (with_reducible first | exact HB.out | apply zF | apply zE | apply zG | refine zK ?_ GE235.out | refine zK ?_ GE236.out | refine zK ?_ GE237.out | refine zK ?_ GE263.out) | exact HB.out)) hb); clear HO_237000; clear HO_237001; clear HO_264000; clear HO_264001; clear HO273; clear BK235; clear BK236; clear BK237; clear BK263; clear HB; have HO_237000 := n0_; have HO_237001 := n1_; have HO_264000 := n2_; have HO_264001 := n3_; have HO273 := n4_; have HO277 := n5_; have HO280 := n6_; have BK235 := n7_; have BK236 := n8_; have BK237 := n9_; have BK263 := n10_; have HB := n11_; clear n0_ n1_ n2_ n3_ n4_ n5_ n6_ n7_ n8_ n9_ n10_ n11_; (try clear hb); (try clear hb2); (try clear hk); (try clear hi); (try clear ho0); (try clear ho1); obtain ⟨Ao115, co115, eo115⟩ := Kd.V_slice HO277.out; subst eo115; obtain ⟨Ao116, co116, eo116⟩ := Kd.N_slice HO280.out; subst eo116) | ((with_reducible refine gate_callee (f := 23) rfl ?_); refine goesL_ (some 48) rfl rfl Tryd.func23 (by kernel_rfl) rfl #[.agg #[.slice Ao115 t275.length co115, .slice Ao116 t278.length co116], .int .i64 a3] rfl (by (try simp only [zS, zU, zV]); first | done | rfl | (simp only [zO, zN]; rfl)) ?_; (with_reducible refine (boscageref31_At.calls kj10 _ _ t275 (fun k_ => (some k_ ≠ (.slice Ao19 t239.length co19 : Value).ownBlock ∧ (some k_ ≠ (.slice Ao21 t242.length co21 : Value).ownBlock ∧ (k_ ≠ gb235 ∧ (k_ ≠ gb236 ∧ (k_ ≠ gb237 ∧ k_ ≠ gb263)))))) _ _ t278 a3 t281 t284 _ ?side1 ?side2 ?side3 A54.out).mono ?_); (case side1 => repeat (first | exact (Kd.V_reads' HO277.out).2.2 | (with_reducible refine Kd.C_alloc ?_ _) | (with_reducible refine Kd.C_drewN ?_ _) | (with_reducible refine Kd.C_drew ?_))); (case side2 => exact (Kd.V_reads' HO277.out).2.1); (case side3 => exact Kd.N_V (HO280.out)); rintro e w117 ⟨v282, rfl, ho0, hb⟩; refine ⟨_, rfl, ?_⟩; have n0_ := zX (Kd.R_below (by (with_reducible repeat (first | apply za | apply zg | apply zh)); exact HO_237000.out) hb); have n1_ := zX (Kd.N_below (by (with_reducible repeat (first | apply ze | apply zo | apply zp)); exact HO_237001.out) hb); have n2_ := zX (Kd.V_below (by (with_reducible repeat (first | apply zb | apply zc | apply zd)); exact HO_264000.out) hb); have n3_ := zX (Kd.V_below (by (with_reducible repeat (first | apply zb | apply zc | apply zd)); exact HO_264001.out) hb); have n4_ := zX (Kd.V_below (by (with_reducible repeat (first | apply zb | apply zc | apply zd)); exact HO273.out) hb); have n5_ := zX (Kd.V_below (by (with_reducible repeat (first | apply zb | apply zc | apply zd)); exact HO277.out) hb); have n6_ := zX (Kd.N_below (by (with_reducible repeat (first | apply ze | apply zo | apply zp)); exact HO280.out) hb); have n7_ := zX (Kd.V_lower (Kd.V_mono (ok' := fun k_ => some k_ ≠ (.slice Ao19 t239.length co19 : Value).ownBlock ∧ some k_ ≠ (.slice Ao21 t242.length co21 : Value).ownBlock ∧ k_ ≠ gb235 ∧ k_ ≠ gb236 ∧ k_ ≠ gb237 ∧ k_ ≠ gb263) ho0 (fun k_ hk_ => ⟨zj hk_ (fun hs_ => hs_.1) (fun hn_ => (Kd.fresh' (Kd.R_lt (by (with_reducible repeat (first | apply za | apply zg | apply zh)); exact HO_237000.out)) k_ hn_)), zj hk_ (fun hs_ => hs_.2.1) (fun hn_ => (Kd.fresh' (Kd.N_lt (by (with_reducible repeat (first | apply ze | apply zo | apply zp)); exact HO_237001.out)) k_ hn_)), zj hk_ (fun hs_ => hs_.2.2.1) (fun hn_ => (zl (g := gb235) (o := .cells #[.int .i64 a0_0, .int .i64 a0_1, .int .i64 a0_2, .int .i64 a0_3, .int .i64 a0_4] 23 (0, 0)) (by (with_reducible repeat (first | refine zL ?_ _ | refine zM ?_ | refine zJ ?_ _)); exact BK235.out) k_ hn_)), zj hk_ (fun hs_ => hs_.2.2.2.1) (fun hn_ => (zl (g := gb236) (o := .cells #[.slice Ao19 t239.length co19, .slice Ao21 t242.length co21] 27 (0, 0)) (by (with_reducible repeat (first | refine zL ?_ _ | refine zM ?_ | refine zJ ?_ _)); exact BK236.out) k_ hn_)), zj hk_ (fun hs_ => hs_.2.2.2.2.1) (fun hn_ => (zl (g := gb237) (o := .cells #[.int .i64 t245, .string t246, .string t247, .string t248, .int .i64 t249] 29 (0, 0)) (by (with_reducible repeat (first | refine zL ?_ _ | refine zM ?_ | refine zJ ?_ _)); exact BK237.out) k_ hn_)), zj hk_ (fun hs_ => hs_.2.2.2.2.2) (fun hn_ => (zl (g := gb263) (o := .cells #[.slice Ao36 t256.length co36, .slice Ao38 t259.length co38] 39 (0, 0)) (by (with_reducible repeat (first | refine zL ?_ _ | refine zM ?_ | refine zJ ?_ _)); exact BK263.out) k_ hn_))⟩)) (zY (by repeat (first | (with_reducible first | exact HB.out | apply zF | apply zE | apply zG | refine zK ?_ GE235.out | refine zK ?_ GE236.out | refine zK ?_ GE237.out | refine zK ?_ GE263.out) | exact HB.out)))); have n8_ := zX (zm (g := gb235) (o := .cells #[.int .i64 a0_0, .int .i64 a0_1, .int .i64 a0_2, .int .i64 a0_3, .int .i64 a0_4] 23 (0, 0)) (by (with_reducible repeat (first | refine zL ?_ _ | refine zM ?_ | refine zJ ?_ _)); exact BK235.out) hb); have n9_ := zX (zm (g := gb236) (o := .cells #[.slice Ao19 t239.length co19, .slice Ao21 t242.length co21] 27 (0, 0)) (by (with_reducible repeat (first | refine zL ?_ _ | refine zM ?_ | refine zJ ?_ _)); exact BK236.out) hb); have n10_ := zX (zm (g := gb237) (o := .cells #[.int .i64 t245, .string t246, .string t247, .string t248, .int .i64 t249] 29 (0, 0)) (by (with_reducible repeat (first | refine zL ?_ _ | refine zM ?_ | refine zJ ?_ _)); exact BK237.out) hb); have n11_ := zX (zm (g := gb263) (o := .cells #[.slice Ao36 t256.length co36, .slice Ao38 t259.length co38] 39 (0, 0)) (by (with_reducible repeat (first | refine zL ?_ _ | refine zM ?_ | refine zJ ?_ _)); exact BK263.out) hb); have n12_ := zX (zT (by repeat (first | (with_reducible first | exact HB.out | apply zF | apply zE | apply zG | refine zK ?_ GE235.out | refine zK ?_ GE236.out | refine zK ?_ GE237.out | refine zK ?_ GE263.out) | exact HB.out)) hb); clear HO_237000; clear HO_237001; clear HO_264000; clear HO_264001; clear HO273; clear HO277; clear HO280; clear BK235; clear BK236; clear BK237; clear BK263; clear HB; have HO_237000 := n0_; have HO_237001 := n1_; have HO_264000 := n2_; have HO_264001 := n3_; have HO273 := n4_; have HO277 := n5_; have HO280 := n6_; have HO283 := n7_; have BK235 := n8_; have BK236 := n9_; have BK237 := n10_; have BK263 := n11_; have HB := n12_; clear n0_ n1_ n2_ n3_ n4_ n5_ n6_ n7_ n8_ n9_ n10_ n11_ n12_; (try clear hb); (try clear hb2); (try clear hk); (try clear hi); (try clear ho0); have hnb118 := NB237_235.out; have hnc118 := NB235_237.out; have hcz119_0 : w117.cell? ⟨gb237, 0, none⟩ = some (.int .i64 t245) := (zH BK237.out 0).trans rfl; have hcz119_1 : w117.cell? ⟨gb237, 1, none⟩ = some (.string t246) := (zH BK237.out 1).trans rfl; have hcz119_2 : w117.cell? ⟨gb237, 2, none⟩ = some (.string t247) := (zH BK237.out 2).trans rfl; have hcz119_3 : w117.cell? ⟨gb237, 3, none⟩ = some (.string t248) := (zH BK237.out 3).trans rfl; have hcz119_4 : w117.cell? ⟨gb237, 4, none⟩ = some (.int .i64 t249) := (zH BK237.out 4).trans rfl; have hfz119_0 := zI BK237.out 0; have hfz119_1 := zI BK237.out 1; have hfz119_2 := zI BK237.out 2; have hfz119_3 := zI BK237.out 3; have hfz119_4 := zI BK237.out 4; obtain ⟨Ao120, co120, eo120⟩ := Kd.V_slice HO273.out; subst eo120; obtain ⟨Ao121, co121, eo121⟩ := Kd.V_slice HO283.out; subst eo121) | (go_at_call 14; (refine (boscageref31_Same.calls kj10 _ _ t271 _ _ ([] : List (S61)) _ _ t281 _ _ ([] : List (S61)) t286 _ ?side1 ?side2 ?side3 ?side4 ?side5 ?side6 ?side7 ?side8 A105.out).mono ?_); (case side1 => repeat (first | exact (Kd.V_reads' HO273.out).2.2 | (with_reducible refine Kd.C_alloc ?_ _) | (with_reducible refine Kd.C_drewN ?_ _) | (with_reducible refine Kd.C_drew ?_))); (case side2 => exact (Kd.V_reads' HO273.out).2.1); (case side3 => exact Kd.C_nil _ _); (case side4 => exact Nat.le_refl _); (case side5 => repeat (first | exact (Kd.V_reads' HO283.out).2.2 | (with_reducible refine Kd.C_alloc ?_ _) | (with_reducible refine Kd.C_drewN ?_ _) | (with_reducible refine Kd.C_drew ?_))); (case side6 => exact (Kd.V_reads' HO283.out).2.1); (case side7 => exact Kd.C_nil _ _); (case side8 => exact Nat.le_refl _); rintro e w122 ⟨rfl, hb⟩; have n0_ := zX (Kd.R_below (by (with_reducible repeat (first | apply za | apply zg | apply zh)); exact HO_237000.out) hb); have n1_ := zX (Kd.N_below (by (with_reducible repeat (first | apply ze | apply zo | apply zp)); exact HO_237001.out) hb); have n2_ := zX (Kd.V_below (by (with_reducible repeat (first | apply zb | apply zc | apply zd)); exact HO_264000.out) hb); have n3_ := zX (Kd.V_below (by (with_reducible repeat (first | apply zb | apply zc | apply zd)); exact HO_264001.out) hb); have n4_ := zX (Kd.V_below (by (with_reducible repeat (first | apply zb | apply zc | apply zd)); exact HO273.out) hb); have n5_ := zX (Kd.V_below (by (with_reducible repeat (first | apply zb | apply zc | apply zd)); exact HO277.out) hb); have n6_ := zX (Kd.N_below (by (with_reducible repeat (first | apply ze | apply zo | apply zp)); exact HO280.out) hb); have n7_ := zX (Kd.V_below (by (with_reducible repeat (first | apply zb | apply zc | apply zd)); exact HO283.out) hb); have n8_ := zX (zm (g := gb235) (o := .cells #[.int .i64 a0_0, .int .i64 a0_1, .int .i64 a0_2, .int .i64 a0_3, .int .i64 a0_4] 23 (0, 0)) (by (with_reducible repeat (first | refine zL ?_ _ | refine zM ?_ | refine zJ ?_ _)); exact BK235.out) hb); have n9_ := zX (zm (g := gb236) (o := .cells #[.slice Ao19 t239.length co19, .slice Ao21 t242.length co21] 27 (0, 0)) (by (with_reducible repeat (first | refine zL ?_ _ | refine zM ?_ | refine zJ ?_ _)); exact BK236.out) hb); have n10_ := zX (zm (g := gb237) (o := .cells #[.int .i64 t245, .string t246, .string t247, .string t248, .int .i64 t249] 29 (0, 0)) (by (with_reducible repeat (first | refine zL ?_ _ | refine zM ?_ | refine zJ ?_ _)); exact BK237.out) hb); have n11_ := zX (zm (g := gb263) (o := .cells #[.slice Ao36 t256.length co36, .slice Ao38 t259.length co38] 39 (0, 0)) (by (with_reducible repeat (first | refine zL ?_ _ | refine zM ?_ | refine zJ ?_ _)); exact BK263.out) hb); have n12_ := zX (zT (by repeat (first | (with_reducible first | exact HB.out | apply zF | apply zE | apply zG | refine zK ?_ GE235.out | refine zK ?_ GE236.out | refine zK ?_ GE237.out | refine zK ?_ GE263.out) | exact HB.out)) hb); clear HO_237000; clear HO_237001; clear HO_264000; clear HO_264001; clear HO273; clear HO277; clear HO280; clear HO283; clear BK235; clear BK236; clear BK237; clear BK263; clear HB; have HO_237000 := n0_; have HO_237001 := n1_; have HO_264000 := n2_; have HO_264001 := n3_; have HO273 := n4_; have HO277 := n5_; have HO280 := n6_; have HO283 := n7_; have BK235 := n8_; have BK236 := n9_; have BK237 := n10_; have BK263 := n11_; have HB := n12_; clear n0_ n1_ n2_ n3_ n4_ n5_ n6_ n7_ n8_ n9_ n10_ n11_ n12_; (try clear hb); (try clear hb2); (try clear hk); (try clear hi)))
              go_ret
              exact ⟨by first | rfl | (simp [errW_none, errW_some] <;> rfl) | (simp [*, errW_none, errW_some] <;> rfl), by repeat (first | (with_reducible first | exact HB.out | apply zF | apply zE | apply zG | refine zK ?_ GE235.out | refine zK ?_ GE236.out | refine zK ?_ GE237.out | refine zK ?_ GE263.out) | exact HB.out)⟩
            · rw [if_neg c104] at H
              have c104b0 : (t274 == t284) = false := by simpa using c104
              (try (have c104b1 : decide (t274 = t284) = false := by simpa using c104))
              (try (have c104b2 : (t274 == t284) = false := by simpa using c104))
              (try (have c104b3 : ¬ (t274 = t284) := by simpa using c104))
              clear c104
              obtain rfl := zQ H
              have hnb123 := NB236_235.out
              have hnc123 := NB235_236.out
              have hnb124 := NB236_237.out
              have hnc124 := NB237_236.out
              have hnb125 := NB236_263.out
              have hnc125 := NB263_236.out
              have hcz126_0 : wc.cell? ⟨gb236, 0, none⟩ = some (.slice Ao19 t239.length co19) := (zH BK236.out 0).trans rfl
              have hcz126_1 : wc.cell? ⟨gb236, 1, none⟩ = some (.slice Ao21 t242.length co21) := (zH BK236.out 1).trans rfl
              have hfz126_0 := zI BK236.out 0
              have hfz126_1 := zI BK236.out 1
              go_wp2_with (first | ((with_reducible refine gate_callee (f := 23) rfl ?_); refine goesL_ (some 41) rfl rfl Tryd.func23 (by kernel_rfl) rfl #[.agg #[.slice Ao19 t239.length co19, .slice Ao21 t242.length co21], .int .i64 a3] rfl (by (try simp only [zS, zU, zV]); first | done | rfl | (simp only [zO, zN]; rfl)) ?_; (with_reducible refine (boscageref31_At.calls kj10 _ _ t239 (fun k_ => (some k_ ≠ (.slice Ao19 t239.length co19 : Value).ownBlock ∧ (k_ ≠ gb235 ∧ (k_ ≠ gb236 ∧ (k_ ≠ gb237 ∧ k_ ≠ gb263))))) _ _ t242 a3 t271 t274 _ ?side1 ?side2 ?side3 A52.out).mono ?_); (case side1 => repeat (first | exact (Kd.R_reads' HO_237000.out).2.2 | (with_reducible refine Kd.C_alloc ?_ _) | (with_reducible refine Kd.C_drewN ?_ _) | (with_reducible refine Kd.C_drew ?_))); (case side2 => exact (Kd.R_reads' HO_237000.out).2.1); (case side3 => exact Kd.N_V (HO_237001.out)); rintro e w127 ⟨v272, rfl, ho0, hb⟩; refine ⟨_, rfl, ?_⟩; have n0_ := zX (Kd.R_below (by (with_reducible repeat (first | apply za | apply zg | apply zh)); exact HO_237000.out) hb); have n1_ := zX (Kd.N_below (by (with_reducible repeat (first | apply ze | apply zo | apply zp)); exact HO_237001.out) hb); have n2_ := zX (Kd.V_below (by (with_reducible repeat (first | apply zb | apply zc | apply zd)); exact HO_264000.out) hb); have n3_ := zX (Kd.V_below (by (with_reducible repeat (first | apply zb | apply zc | apply zd)); exact HO_264001.out) hb); have n4_ := zX (Kd.V_lower (Kd.V_mono (ok' := fun k_ => some k_ ≠ (.slice Ao19 t239.length co19 : Value).ownBlock ∧ k_ ≠ gb235 ∧ k_ ≠ gb236 ∧ k_ ≠ gb237 ∧ k_ ≠ gb263) ho0 (fun k_ hk_ => ⟨zj hk_ (fun hs_ => hs_.1) (fun hn_ => (Kd.fresh' (Kd.R_lt (by (with_reducible repeat (first | apply za | apply zg | apply zh)); exact HO_237000.out)) k_ hn_)), zj hk_ (fun hs_ => hs_.2.1) (fun hn_ => (zl (g := gb235) (o := .cells #[.int .i64 a0_0, .int .i64 a0_1, .int .i64 a0_2, .int .i64 a0_3, .int .i64 a0_4] 23 (0, 0)) (by (with_reducible repeat (first | refine zL ?_ _ | refine zM ?_ | refine zJ ?_ _)); exact BK235.out) k_ hn_)), zj hk_ (fun hs_ => hs_.2.2.1) (fun hn_ => (zl (g := gb236) (o := .cells #[.slice Ao19 t239.length co19, .slice Ao21 t242.length co21] 27 (0, 0)) (by (with_reducible repeat (first | refine zL ?_ _ | refine zM ?_ | refine zJ ?_ _)); exact BK236.out) k_ hn_)), zj hk_ (fun hs_ => hs_.2.2.2.1) (fun hn_ => (zl (g := gb237) (o := .cells #[.int .i64 t245, .string t246, .string t247, .string t248, .int .i64 t249] 29 (0, 0)) (by (with_reducible repeat (first | refine zL ?_ _ | refine zM ?_ | refine zJ ?_ _)); exact BK237.out) k_ hn_)), zj hk_ (fun hs_ => hs_.2.2.2.2) (fun hn_ => (zl (g := gb263) (o := .cells #[.slice Ao36 t256.length co36, .slice Ao38 t259.length co38] 39 (0, 0)) (by (with_reducible repeat (first | refine zL ?_ _ | refine zM ?_ | refine zJ ?_ _)); exact BK263.out) k_ hn_))⟩)) (zY (by repeat (first | (with_reducible first | exact HB.out | apply zF | apply zE | apply zG | refine zK ?_ GE235.out | refine zK ?_ GE236.out | refine zK ?_ GE237.out | refine zK ?_ GE263.out) | exact HB.out)))); have n5_ := zX (zm (g := gb235) (o := .cells #[.int .i64 a0_0, .int .i64 a0_1, .int .i64 a0_2, .int .i64 a0_3, .int .i64 a0_4] 23 (0, 0)) (by (with_reducible repeat (first | refine zL ?_ _ | refine zM ?_ | refine zJ ?_ _)); exact BK235.out) hb); have n6_ := zX (zm (g := gb236) (o := .cells #[.slice Ao19 t239.length co19, .slice Ao21 t242.length co21] 27 (0, 0)) (by (with_reducible repeat (first | refine zL ?_ _ | refine zM ?_ | refine zJ ?_ _)); exact BK236.out) hb); have n7_ := zX (zm (g := gb237) (o := .cells #[.int .i64 t245, .string t246, .string t247, .string t248, .int .i64 t249] 29 (0, 0)) (by (with_reducible repeat (first | refine zL ?_ _ | refine zM ?_ | refine zJ ?_ _)); exact BK237.out) hb); have n8_ := zX (zm (g := gb263) (o := .cells #[.slice Ao36 t256.length co36, .slice Ao38 t259.length co38] 39 (0, 0)) (by (with_reducible repeat (first | refine zL ?_ _ | refine zM ?_ | refine zJ ?_ _)); exact BK263.out) hb); have n9_ := zX (zT (by repeat (first | (with_reducible first | exact HB.out | apply zF | apply zE | apply zG | refine zK ?_ GE235.out | refine zK ?_ GE236.out | refine zK ?_ GE237.out | refine zK ?_ GE263.out) | exact HB.out)) hb); clear HO_237000; clear HO_237001; clear HO_264000; clear HO_264001; clear BK235; clear BK236; clear BK237; clear BK263; clear HB; have HO_237000 := n0_; have HO_237001 := n1_; have HO_264000 := n2_; have HO_264001 := n3_; have HO273 := n4_; have BK235 := n5_; have BK236 := n6_; have BK237 := n7_; have BK263 := n8_; have HB := n9_; clear n0_ n1_ n2_ n3_ n4_ n5_ n6_ n7_ n8_ n9_; (try clear hb); (try clear hb2); (try clear hk); (try clear hi); (try clear ho0); have hnb128 := NB263_235.out; have hnc128 := NB235_263.out; have hnb129 := NB263_237.out; have hnc129 := NB237_263.out; have hcz130_0 : w127.cell? ⟨gb263, 0, none⟩ = some (.slice Ao36 t256.length co36) := (zH BK263.out 0).trans rfl; have hcz130_1 : w127.cell? ⟨gb263, 1, none⟩ = some (.slice Ao38 t259.length co38) := (zH BK263.out 1).trans rfl; have hfz130_0 := zI BK263.out 0; have hfz130_1 := zI BK263.out 1) | ((with_reducible refine gate_callee (f := 15) rfl ?_); refine goesL_ (some 46) rfl rfl Tryd.func15 (by kernel_rfl) rfl #[.agg #[.slice Ao36 t256.length co36, .slice Ao38 t259.length co38]] rfl (by (try simp only [zS, zU, zV]); first | done | rfl | (simp only [zO, zN]; rfl)) ?_; (with_reducible refine (boscagelaw31_Back.calls kj10 (fun k_ => (some k_ ≠ (.slice Ao19 t239.length co19 : Value).ownBlock ∧ (some k_ ≠ (.slice Ao21 t242.length co21 : Value).ownBlock ∧ (k_ ≠ gb235 ∧ (k_ ≠ gb236 ∧ (k_ ≠ gb237 ∧ k_ ≠ gb263)))))) _ _ t256 (fun k_ => (some k_ ≠ (.slice Ao19 t239.length co19 : Value).ownBlock ∧ (some k_ ≠ (.slice Ao21 t242.length co21 : Value).ownBlock ∧ (k_ ≠ gb235 ∧ (k_ ≠ gb236 ∧ (k_ ≠ gb237 ∧ k_ ≠ gb263)))))) _ _ t259 t275 t278 _ ?side1 ?side2 A53.out).mono ?_); (case side1 => exact HO_264000.out); (case side2 => exact HO_264001.out); rintro e w131 ⟨v276, v279, rfl, ho0, ho1, hb⟩; refine ⟨_, rfl, ?_⟩; have n0_ := zX (Kd.R_below (by (with_reducible repeat (first | apply za | apply zg | apply zh)); exact HO_237000.out) hb); have n1_ := zX (Kd.N_elder' (by (with_reducible repeat (first | apply ze | apply zo | apply zp)); exact HO_237001.out) (Kd.N_base (by first | exact ho1 | exact Kd.S_N ho1)) hb); have n2_ := zX (Kd.V_elder' (by (with_reducible repeat (first | apply zb | apply zc | apply zd)); exact HO_264000.out) (Kd.N_base (by first | exact ho1 | exact Kd.S_N ho1)) hb); have n3_ := zX (Kd.V_elder' (by (with_reducible repeat (first | apply zb | apply zc | apply zd)); exact HO_264001.out) (Kd.N_base (by first | exact ho1 | exact Kd.S_N ho1)) hb); have n4_ := zX (Kd.V_elder' (by (with_reducible repeat (first | apply zb | apply zc | apply zd)); exact HO273.out) (Kd.N_base (by first | exact ho1 | exact Kd.S_N ho1)) hb); have n5_ := zX (Kd.V_lower (Kd.V_mono (ok' := fun k_ => some k_ ≠ (v279 : Value).ownBlock ∧ some k_ ≠ (.slice Ao19 t239.length co19 : Value).ownBlock ∧ some k_ ≠ (.slice Ao21 t242.length co21 : Value).ownBlock ∧ k_ ≠ gb235 ∧ k_ ≠ gb236 ∧ k_ ≠ gb237 ∧ k_ ≠ gb263) ho0 (fun k_ hk_ => ⟨hk_.2, zj hk_.1 (fun hs_ => zj hs_ (fun hs_ => hs_.1) (fun hs_ => hs_.1)) (fun hn_ => (Kd.fresh' (Kd.R_lt (by (with_reducible repeat (first | apply za | apply zg | apply zh)); exact HO_237000.out)) k_ hn_)), zj hk_.1 (fun hs_ => zj hs_ (fun hs_ => hs_.2.1) (fun hs_ => hs_.2.1)) (fun hn_ => (Kd.fresh' (Kd.N_lt (by (with_reducible repeat (first | apply ze | apply zo | apply zp)); exact HO_237001.out)) k_ hn_)), zj hk_.1 (fun hs_ => zj hs_ (fun hs_ => hs_.2.2.1) (fun hs_ => hs_.2.2.1)) (fun hn_ => (zl (g := gb235) (o := .cells #[.int .i64 a0_0, .int .i64 a0_1, .int .i64 a0_2, .int .i64 a0_3, .int .i64 a0_4] 23 (0, 0)) (by (with_reducible repeat (first | refine zL ?_ _ | refine zM ?_ | refine zJ ?_ _)); exact BK235.out) k_ hn_)), zj hk_.1 (fun hs_ => zj hs_ (fun hs_ => hs_.2.2.2.1) (fun hs_ => hs_.2.2.2.1)) (fun hn_ => (zl (g := gb236) (o := .cells #[.slice Ao19 t239.length co19, .slice Ao21 t242.length co21] 27 (0, 0)) (by (with_reducible repeat (first | refine zL ?_ _ | refine zM ?_ | refine zJ ?_ _)); exact BK236.out) k_ hn_)), zj hk_.1 (fun hs_ => zj hs_ (fun hs_ => hs_.2.2.2.2.1) (fun hs_ => hs_.2.2.2.2.1)) (fun hn_ => (zl (g := gb237) (o := .cells #[.int .i64 t245, .string t246, .string t247, .string t248, .int .i64 t249] 29 (0, 0)) (by (with_reducible repeat (first | refine zL ?_ _ | refine zM ?_ | refine zJ ?_ _)); exact BK237.out) k_ hn_)), zj hk_.1 (fun hs_ => zj hs_ (fun hs_ => hs_.2.2.2.2.2) (fun hs_ => hs_.2.2.2.2.2)) (fun hn_ => (zl (g := gb263) (o := .cells #[.slice Ao36 t256.length co36, .slice Ao38 t259.length co38] 39 (0, 0)) (by (with_reducible repeat (first | refine zL ?_ _ | refine zM ?_ | refine zJ ?_ _)); exact BK263.out) k_ hn_))⟩)) (zY (by repeat (first | (with_reducible first | exact HB.out | apply zF | apply zE | apply zG | refine zK ?_ GE235.out | refine zK ?_ GE236.out | refine zK ?_ GE237.out | refine zK ?_ GE263.out) | exact HB.out)))); have n6_ := zX (Kd.N_lower (Kd.N_mono (ok' := fun k_ => some k_ ≠ (.slice Ao19 t239.length co19 : Value).ownBlock ∧ some k_ ≠ (.slice Ao21 t242.length co21 : Value).ownBlock ∧ k_ ≠ gb235 ∧ k_ ≠ gb236 ∧ k_ ≠ gb237 ∧ k_ ≠ gb263) ho1 (fun k_ hk_ => ⟨zj hk_ (fun hs_ => zj hs_ (fun hs_ => hs_.1) (fun hs_ => hs_.1)) (fun hn_ => (Kd.fresh' (Kd.R_lt (by (with_reducible repeat (first | apply za | apply zg | apply zh)); exact HO_237000.out)) k_ hn_)), zj hk_ (fun hs_ => zj hs_ (fun hs_ => hs_.2.1) (fun hs_ => hs_.2.1)) (fun hn_ => (Kd.fresh' (Kd.N_lt (by (with_reducible repeat (first | apply ze | apply zo | apply zp)); exact HO_237001.out)) k_ hn_)), zj hk_ (fun hs_ => zj hs_ (fun hs_ => hs_.2.2.1) (fun hs_ => hs_.2.2.1)) (fun hn_ => (zl (g := gb235) (o := .cells #[.int .i64 a0_0, .int .i64 a0_1, .int .i64 a0_2, .int .i64 a0_3, .int .i64 a0_4] 23 (0, 0)) (by (with_reducible repeat (first | refine zL ?_ _ | refine zM ?_ | refine zJ ?_ _)); exact BK235.out) k_ hn_)), zj hk_ (fun hs_ => zj hs_ (fun hs_ => hs_.2.2.2.1) (fun hs_ => hs_.2.2.2.1)) (fun hn_ => (zl (g := gb236) (o := .cells #[.slice Ao19 t239.length co19, .slice Ao21 t242.length co21] 27 (0, 0)) (by (with_reducible repeat (first | refine zL ?_ _ | refine zM ?_ | refine zJ ?_ _)); exact BK236.out) k_ hn_)), zj hk_ (fun hs_ => zj hs_ (fun hs_ => hs_.2.2.2.2.1) (fun hs_ => hs_.2.2.2.2.1)) (fun hn_ => (zl (g := gb237) (o := .cells #[.int .i64 t245, .string t246, .string t247, .string t248, .int .i64 t249] 29 (0, 0)) (by (with_reducible repeat (first | refine zL ?_ _ | refine zM ?_ | refine zJ ?_ _)); exact BK237.out) k_ hn_)), zj hk_ (fun hs_ => zj hs_ (fun hs_ => hs_.2.2.2.2.2) (fun hs_ => hs_.2.2.2.2.2)) (fun hn_ => (zl (g := gb263) (o := .cells #[.slice Ao36 t256.length co36, .slice Ao38 t259.length co38] 39 (0, 0)) (by (with_reducible repeat (first | refine zL ?_ _ | refine zM ?_ | refine zJ ?_ _)); exact BK263.out) k_ hn_))⟩)) (zY (by repeat (first | (with_reducible first | exact HB.out | apply zF | apply zE | apply zG | refine zK ?_ GE235.out | refine zK ?_ GE236.out | refine zK ?_ GE237.out | refine zK ?_ GE263.out) | exact HB.out)))); have n7_ := zX (zm (g := gb235) (o := .cells #[.int .i64 a0_0, .int .i64 a0_1, .int .i64 a0_2, .int .i64 a0_3, .int .i64 a0_4] 23 (0, 0)) (by (with_reducible repeat (first | refine zL ?_ _ | refine zM ?_ | refine zJ ?_ _)); exact BK235.out) hb); have n8_ := zX (zm (g := gb236) (o := .cells #[.slice Ao19 t239.length co19, .slice Ao21 t242.length co21] 27 (0, 0)) (by (with_reducible repeat (first | refine zL ?_ _ | refine zM ?_ | refine zJ ?_ _)); exact BK236.out) hb); have n9_ := zX (zm (g := gb237) (o := .cells #[.int .i64 t245, .string t246, .string t247, .string t248, .int .i64 t249] 29 (0, 0)) (by (with_reducible repeat (first | refine zL ?_ _ | refine zM ?_ | refine zJ ?_ _)); exact BK237.out) hb); have n10_ := zX (zm (g := gb263) (o := .cells #[.slice Ao36 t256.length co36, .slice Ao38 t259.length co38] 39 (0, 0)) (by (with_reducible repeat (first | refine zL ?_ _ | refine zM ?_ | refine zJ ?_ _)); exact BK263.out) hb); have n11_ := zX (zT (by repeat (first | (with_reducible first | exact HB.out | apply zF | apply zE | apply zG | refine zK ?_ GE235.out | refine zK ?_ GE236.out | refine zK ?_ GE237.out | refine zK ?_ GE263.out) | exact HB.out)) hb); clear HO_237000; clear HO_237001; clear HO_264000; clear HO_264001; clear HO273; clear BK235; clear BK236; clear BK237; clear BK263; clear HB; have HO_237000 := n0_; have HO_237001 := n1_; have HO_264000 := n2_; have HO_264001 := n3_; have HO273 := n4_; have HO277 := n5_; have HO280 := n6_; have BK235 := n7_; have BK236 := n8_; have BK237 := n9_; have BK263 := n10_; have HB := n11_; clear n0_ n1_ n2_ n3_ n4_ n5_ n6_ n7_ n8_ n9_ n10_ n11_; (try clear hb); (try clear hb2); (try clear hk); (try clear hi); (try clear ho0); (try clear ho1); obtain ⟨Ao132, co132, eo132⟩ := Kd.V_slice HO277.out; subst eo132; obtain ⟨Ao133, co133, eo133⟩ := Kd.N_slice HO280.out; subst eo133) | ((with_reducible refine gate_callee (f := 23) rfl ?_); refine goesL_ (some 48) rfl rfl Tryd.func23 (by kernel_rfl) rfl #[.agg #[.slice Ao132 t275.length co132, .slice Ao133 t278.length co133], .int .i64 a3] rfl (by (try simp only [zS, zU, zV]); first | done | rfl | (simp only [zO, zN]; rfl)) ?_; (with_reducible refine (boscageref31_At.calls kj10 _ _ t275 (fun k_ => (some k_ ≠ (.slice Ao19 t239.length co19 : Value).ownBlock ∧ (some k_ ≠ (.slice Ao21 t242.length co21 : Value).ownBlock ∧ (k_ ≠ gb235 ∧ (k_ ≠ gb236 ∧ (k_ ≠ gb237 ∧ k_ ≠ gb263)))))) _ _ t278 a3 t281 t284 _ ?side1 ?side2 ?side3 A54.out).mono ?_); (case side1 => repeat (first | exact (Kd.V_reads' HO277.out).2.2 | (with_reducible refine Kd.C_alloc ?_ _) | (with_reducible refine Kd.C_drewN ?_ _) | (with_reducible refine Kd.C_drew ?_))); (case side2 => exact (Kd.V_reads' HO277.out).2.1); (case side3 => exact Kd.N_V (HO280.out)); rintro e w134 ⟨v282, rfl, ho0, hb⟩; refine ⟨_, rfl, ?_⟩; have n0_ := zX (Kd.R_below (by (with_reducible repeat (first | apply za | apply zg | apply zh)); exact HO_237000.out) hb); have n1_ := zX (Kd.N_below (by (with_reducible repeat (first | apply ze | apply zo | apply zp)); exact HO_237001.out) hb); have n2_ := zX (Kd.V_below (by (with_reducible repeat (first | apply zb | apply zc | apply zd)); exact HO_264000.out) hb); have n3_ := zX (Kd.V_below (by (with_reducible repeat (first | apply zb | apply zc | apply zd)); exact HO_264001.out) hb); have n4_ := zX (Kd.V_below (by (with_reducible repeat (first | apply zb | apply zc | apply zd)); exact HO273.out) hb); have n5_ := zX (Kd.V_below (by (with_reducible repeat (first | apply zb | apply zc | apply zd)); exact HO277.out) hb); have n6_ := zX (Kd.N_below (by (with_reducible repeat (first | apply ze | apply zo | apply zp)); exact HO280.out) hb); have n7_ := zX (Kd.V_lower (Kd.V_mono (ok' := fun k_ => some k_ ≠ (.slice Ao19 t239.length co19 : Value).ownBlock ∧ some k_ ≠ (.slice Ao21 t242.length co21 : Value).ownBlock ∧ k_ ≠ gb235 ∧ k_ ≠ gb236 ∧ k_ ≠ gb237 ∧ k_ ≠ gb263) ho0 (fun k_ hk_ => ⟨zj hk_ (fun hs_ => hs_.1) (fun hn_ => (Kd.fresh' (Kd.R_lt (by (with_reducible repeat (first | apply za | apply zg | apply zh)); exact HO_237000.out)) k_ hn_)), zj hk_ (fun hs_ => hs_.2.1) (fun hn_ => (Kd.fresh' (Kd.N_lt (by (with_reducible repeat (first | apply ze | apply zo | apply zp)); exact HO_237001.out)) k_ hn_)), zj hk_ (fun hs_ => hs_.2.2.1) (fun hn_ => (zl (g := gb235) (o := .cells #[.int .i64 a0_0, .int .i64 a0_1, .int .i64 a0_2, .int .i64 a0_3, .int .i64 a0_4] 23 (0, 0)) (by (with_reducible repeat (first | refine zL ?_ _ | refine zM ?_ | refine zJ ?_ _)); exact BK235.out) k_ hn_)), zj hk_ (fun hs_ => hs_.2.2.2.1) (fun hn_ => (zl (g := gb236) (o := .cells #[.slice Ao19 t239.length co19, .slice Ao21 t242.length co21] 27 (0, 0)) (by (with_reducible repeat (first | refine zL ?_ _ | refine zM ?_ | refine zJ ?_ _)); exact BK236.out) k_ hn_)), zj hk_ (fun hs_ => hs_.2.2.2.2.1) (fun hn_ => (zl (g := gb237) (o := .cells #[.int .i64 t245, .string t246, .string t247, .string t248, .int .i64 t249] 29 (0, 0)) (by (with_reducible repeat (first | refine zL ?_ _ | refine zM ?_ | refine zJ ?_ _)); exact BK237.out) k_ hn_)), zj hk_ (fun hs_ => hs_.2.2.2.2.2) (fun hn_ => (zl (g := gb263) (o := .cells #[.slice Ao36 t256.length co36, .slice Ao38 t259.length co38] 39 (0, 0)) (by (with_reducible repeat (first | refine zL ?_ _ | refine zM ?_ | refine zJ ?_ _)); exact BK263.out) k_ hn_))⟩)) (zY (by repeat (first | (with_reducible first | exact HB.out | apply zF | apply zE | apply zG | refine zK ?_ GE235.out | refine zK ?_ GE236.out | refine zK ?_ GE237.out | refine zK ?_ GE263.out) | exact HB.out)))); have n8_ := zX (zm (g := gb235) (o := .cells #[.int .i64 a0_0, .int .i64 a0_1, .int .i64 a0_2, .int .i64 a0_3, .int .i64 a0_4] 23 (0, 0)) (by (with_reducible repeat (first | refine zL ?_ _ | refine zM ?_ | refine zJ ?_ _)); exact BK235.out) hb); have n9_ := zX (zm (g := gb236) (o := .cells #[.slice Ao19 t239.length co19, .slice Ao21 t242.length co21] 27 (0, 0)) (by (with_reducible repeat (first | refine zL ?_ _ | refine zM ?_ | refine zJ ?_ _)); exact BK236.out) hb); have n10_ := zX (zm (g := gb237) (o := .cells #[.int .i64 t245, .string t246, .string t247, .string t248, .int .i64 t249] 29 (0, 0)) (by (with_reducible repeat (first | refine zL ?_ _ | refine zM ?_ | refine zJ ?_ _)); exact BK237.out) hb); have n11_ := zX (zm (g := gb263) (o := .cells #[.slice Ao36 t256.length co36, .slice Ao38 t259.length co38] 39 (0, 0)) (by (with_reducible repeat (first | refine zL ?_ _ | refine zM ?_ | refine zJ ?_ _)); exact BK263.out) hb); have n12_ := zX (zT (by repeat (first | (with_reducible first | exact HB.out | apply zF | apply zE | apply zG | refine zK ?_ GE235.out | refine zK ?_ GE236.out | refine zK ?_ GE237.out | refine zK ?_ GE263.out) | exact HB.out)) hb); clear HO_237000; clear HO_237001; clear HO_264000; clear HO_264001; clear HO273; clear HO277; clear HO280; clear BK235; clear BK236; clear BK237; clear BK263; clear HB; have HO_237000 := n0_; have HO_237001 := n1_; have HO_264000 := n2_; have HO_264001 := n3_; have HO273 := n4_; have HO277 := n5_; have HO280 := n6_; have HO283 := n7_; have BK235 := n8_; have BK236 := n9_; have BK237 := n10_; have BK263 := n11_; have HB := n12_; clear n0_ n1_ n2_ n3_ n4_ n5_ n6_ n7_ n8_ n9_ n10_ n11_ n12_; (try clear hb); (try clear hb2); (try clear hk); (try clear hi); (try clear ho0); have hnb135 := NB237_235.out; have hnc135 := NB235_237.out; have hcz136_0 : w134.cell? ⟨gb237, 0, none⟩ = some (.int .i64 t245) := (zH BK237.out 0).trans rfl; have hcz136_1 : w134.cell? ⟨gb237, 1, none⟩ = some (.string t246) := (zH BK237.out 1).trans rfl; have hcz136_2 : w134.cell? ⟨gb237, 2, none⟩ = some (.string t247) := (zH BK237.out 2).trans rfl; have hcz136_3 : w134.cell? ⟨gb237, 3, none⟩ = some (.string t248) := (zH BK237.out 3).trans rfl; have hcz136_4 : w134.cell? ⟨gb237, 4, none⟩ = some (.int .i64 t249) := (zH BK237.out 4).trans rfl; have hfz136_0 := zI BK237.out 0; have hfz136_1 := zI BK237.out 1; have hfz136_2 := zI BK237.out 2; have hfz136_3 := zI BK237.out 3; have hfz136_4 := zI BK237.out 4))
              go_ret
              exact ⟨by first | rfl | (simp [errW_none, errW_some] <;> rfl) | (simp [*, errW_none, errW_some] <;> rfl), by repeat (first | (with_reducible first | exact HB.out | apply zF | apply zE | apply zG | refine zK ?_ GE235.out | refine zK ?_ GE236.out | refine zK ?_ GE237.out | refine zK ?_ GE263.out) | exact HB.out)⟩
  · replace c6 := Bool.eq_false_iff.mpr c6
    subst c6
    have H1 : (some false) = some r := by rw [if_neg (show ¬ (false = true) by decide)] at H; exact H
    clear H
    have H := H1
    clear H1
    obtain rfl := zQ H
    go_enter Tryd.func6, Tryd.ntmps6
    go_wp2_with (first | ((with_reducible refine gate_dst (N := 4) rfl ?_); refine box_event ?hg (N := 4) ?hd (cs := #[.int .i64 a0_0, .int .i64 a0_1, .int .i64 a0_2, .int .i64 a0_3, .int .i64 a0_4]) (t := 23) ?hr ?_; (case hd => rfl); (case hg => rfl); (case hr => first | (go_simp; done) | (go_simp; rfl)); intro gb235 hg w137 hbox hb; have n0_ := zX (zT (by repeat (first | (with_reducible first | exact HB.out | apply zF | apply zE | apply zG) | exact HB.out)) hb); have n1_ := zX (hbox); have n2_ := zX ((by rw [hg]; exact (zY (by repeat (first | (with_reducible first | exact HB.out | apply zF | apply zE | apply zG) | exact HB.out))) : w.heap.size ≤ gb235)); have n3_ := zX ((by rw [hg]; exact (zY (by repeat (first | (with_reducible first | exact HB.out | apply zF | apply zE | apply zG) | exact HB.out))) : w.heap.size ≤ gb235)); clear HB; have HB := n0_; have BK235 := n1_; have GW235 := n2_; have GE235 := n3_; clear n0_ n1_ n2_ n3_; clear hb hbox hg) | ((with_reducible refine gate_dst (N := 5) rfl ?_); refine box_event ?hg (N := 5) ?hd (cs := #[.slice A1_0 l1_0.length c1_0, .slice A1_1 l1_1.length c1_1]) (t := 27) ?hr ?_; (case hd => rfl); (case hg => rfl); (case hr => first | (go_simp; done) | (go_simp; rfl)); intro gb236 hg w138 hbox hb; have n0_ := zX (zm (g := gb235) (o := .cells #[.int .i64 a0_0, .int .i64 a0_1, .int .i64 a0_2, .int .i64 a0_3, .int .i64 a0_4] 23 (0, 0)) (by (with_reducible repeat (first | refine zL ?_ _ | refine zM ?_ | refine zJ ?_ _)); exact BK235.out) hb); have n1_ := zX (zT (by repeat (first | (with_reducible first | exact HB.out | apply zF | apply zE | apply zG | refine zK ?_ GE235.out) | exact HB.out)) hb); have n2_ := zX (hbox); have n3_ := zX ((by rw [hg]; exact (zY (by repeat (first | (with_reducible first | exact HB.out | apply zF | apply zE | apply zG | refine zK ?_ GE235.out) | exact HB.out))) : w.heap.size ≤ gb236)); have n4_ := zX ((by rw [hg]; exact (zY (by repeat (first | (with_reducible first | exact HB.out | apply zF | apply zE | apply zG | refine zK ?_ GE235.out) | exact HB.out))) : w.heap.size ≤ gb236)); have n5_ := zX ((by rw [hg]; exact Nat.ne_of_lt (blk_lt (g := gb235) (o := .cells #[.int .i64 a0_0, .int .i64 a0_1, .int .i64 a0_2, .int .i64 a0_3, .int .i64 a0_4] 23 (0, 0)) (by (with_reducible repeat (first | refine zL ?_ _ | refine zM ?_ | refine zJ ?_ _)); exact BK235.out)) : gb235 ≠ gb236)); have n6_ := zX ((by rw [hg]; exact Nat.ne_of_gt (blk_lt (g := gb235) (o := .cells #[.int .i64 a0_0, .int .i64 a0_1, .int .i64 a0_2, .int .i64 a0_3, .int .i64 a0_4] 23 (0, 0)) (by (with_reducible repeat (first | refine zL ?_ _ | refine zM ?_ | refine zJ ?_ _)); exact BK235.out)) : gb236 ≠ gb235)); clear BK235; clear HB; have BK235 := n0_; have HB := n1_; have BK236 := n2_; have GW236 := n3_; have GE236 := n4_; have NB235_236 := n5_; have NB236_235 := n6_; clear n0_ n1_ n2_ n3_ n4_ n5_ n6_; clear hb hbox hg) | ((with_reducible refine gate_dst (N := 6) rfl ?_); refine box_event ?hg (N := 6) ?hd (cs := #[.int .i64 a2_0, .string a2_1, .string a2_2, .string a2_3, .int .i64 a2_4]) (t := 29) ?hr ?_; (case hd => rfl); (case hg => rfl); (case hr => first | (go_simp; done) | (go_simp; rfl)); intro gb237 hg w139 hbox hb; have n0_ := zX (zm (g := gb235) (o := .cells #[.int .i64 a0_0, .int .i64 a0_1, .int .i64 a0_2, .int .i64 a0_3, .int .i64 a0_4] 23 (0, 0)) (by (with_reducible repeat (first | refine zL ?_ _ | refine zM ?_ | refine zJ ?_ _)); exact BK235.out) hb); have n1_ := zX (zm (g := gb236) (o := .cells #[.slice A1_0 l1_0.length c1_0, .slice A1_1 l1_1.length c1_1] 27 (0, 0)) (by (with_reducible repeat (first | refine zL ?_ _ | refine zM ?_ | refine zJ ?_ _)); exact BK236.out) hb); have n2_ := zX (zT (by repeat (first | (with_reducible first | exact HB.out | apply zF | apply zE | apply zG | refine zK ?_ GE235.out | refine zK ?_ GE236.out) | exact HB.out)) hb); have n3_ := zX (hbox); have n4_ := zX ((by rw [hg]; exact (zY (by repeat (first | (with_reducible first | exact HB.out | apply zF | apply zE | apply zG | refine zK ?_ GE235.out | refine zK ?_ GE236.out) | exact HB.out))) : w.heap.size ≤ gb237)); have n5_ := zX ((by rw [hg]; exact (zY (by repeat (first | (with_reducible first | exact HB.out | apply zF | apply zE | apply zG | refine zK ?_ GE235.out | refine zK ?_ GE236.out) | exact HB.out))) : w.heap.size ≤ gb237)); have n6_ := zX ((by rw [hg]; exact Nat.ne_of_lt (blk_lt (g := gb235) (o := .cells #[.int .i64 a0_0, .int .i64 a0_1, .int .i64 a0_2, .int .i64 a0_3, .int .i64 a0_4] 23 (0, 0)) (by (with_reducible repeat (first | refine zL ?_ _ | refine zM ?_ | refine zJ ?_ _)); exact BK235.out)) : gb235 ≠ gb237)); have n7_ := zX ((by rw [hg]; exact Nat.ne_of_gt (blk_lt (g := gb235) (o := .cells #[.int .i64 a0_0, .int .i64 a0_1, .int .i64 a0_2, .int .i64 a0_3, .int .i64 a0_4] 23 (0, 0)) (by (with_reducible repeat (first | refine zL ?_ _ | refine zM ?_ | refine zJ ?_ _)); exact BK235.out)) : gb237 ≠ gb235)); have n8_ := zX ((by rw [hg]; exact Nat.ne_of_lt (blk_lt (g := gb236) (o := .cells #[.slice A1_0 l1_0.length c1_0, .slice A1_1 l1_1.length c1_1] 27 (0, 0)) (by (with_reducible repeat (first | refine zL ?_ _ | refine zM ?_ | refine zJ ?_ _)); exact BK236.out)) : gb236 ≠ gb237)); have n9_ := zX ((by rw [hg]; exact Nat.ne_of_gt (blk_lt (g := gb236) (o := .cells #[.slice A1_0 l1_0.length c1_0, .slice A1_1 l1_1.length c1_1] 27 (0, 0)) (by (with_reducible repeat (first | refine zL ?_ _ | refine zM ?_ | refine zJ ?_ _)); exact BK236.out)) : gb237 ≠ gb236)); clear BK235; clear BK236; clear HB; have BK235 := n0_; have BK236 := n1_; have HB := n2_; have BK237 := n3_; have GW237 := n4_; have GE237 := n5_; have NB235_237 := n6_; have NB237_235 := n7_; have NB236_237 := n8_; have NB237_236 := n9_; clear n0_ n1_ n2_ n3_ n4_ n5_ n6_ n7_ n8_ n9_; clear hb hbox hg) | ((with_reducible refine gate_callee (f := 18) rfl ?_); refine goesL_ (some 15) rfl rfl Tryd.func18 (by kernel_rfl) rfl #[] rfl (by (try simp only [zS, zU, zV]); first | done | rfl | (simp only [zO, zN]; rfl)) ?_; (with_reducible refine (boscagelaw31_works.calls  false _ ?side1 A5.out).mono ?_); (case side1 => exact laidU_below HLAID.out (by repeat (first | (with_reducible first | exact HB.out | apply zF | apply zE | apply zG | refine zK ?_ GE235.out | refine zK ?_ GE236.out | refine zK ?_ GE237.out) | exact HB.out))); rintro e w140 ⟨rfl, hb⟩; refine ⟨_, rfl, ?_⟩; have n0_ := zX (zm (g := gb235) (o := .cells #[.int .i64 a0_0, .int .i64 a0_1, .int .i64 a0_2, .int .i64 a0_3, .int .i64 a0_4] 23 (0, 0)) (by (with_reducible repeat (first | refine zL ?_ _ | refine zM ?_ | refine zJ ?_ _)); exact BK235.out) hb); have n1_ := zX (zm (g := gb236) (o := .cells #[.slice A1_0 l1_0.length c1_0, .slice A1_1 l1_1.length c1_1] 27 (0, 0)) (by (with_reducible repeat (first | refine zL ?_ _ | refine zM ?_ | refine zJ ?_ _)); exact BK236.out) hb); have n2_ := zX (zm (g := gb237) (o := .cells #[.int .i64 a2_0, .string a2_1, .string a2_2, .string a2_3, .int .i64 a2_4] 29 (0, 0)) (by (with_reducible repeat (first | refine zL ?_ _ | refine zM ?_ | refine zJ ?_ _)); exact BK237.out) hb); have n3_ := zX (zT (by repeat (first | (with_reducible first | exact HB.out | apply zF | apply zE | apply zG | refine zK ?_ GE235.out | refine zK ?_ GE236.out | refine zK ?_ GE237.out) | exact HB.out)) hb); clear BK235; clear BK236; clear BK237; clear HB; have BK235 := n0_; have BK236 := n1_; have BK237 := n2_; have HB := n3_; clear n0_ n1_ n2_ n3_; (try clear hb); (try clear hb2); (try clear hk); (try clear hi)))
    go_ret
    exact ⟨by first | rfl | (simp [errW_none, errW_some] <;> rfl) | (simp [*, errW_none, errW_some] <;> rfl), by repeat (first | (with_reducible first | exact HB.out | apply zF | apply zE | apply zG | refine zK ?_ GE235.out | refine zK ?_ GE236.out | refine zK ?_ GE237.out) | exact HB.out)⟩

end Go.Proofs.YthnococjdeafhaaDoor.PModelKeeps
