-- printed by a program of the session (wip/hyb/mkprint.py)
import Derived.Test.YtipdhjdlfdbkiaaPHistOpsx0
import Derived.Test.YtipdhjdlfdbkiaaPHistOpsx3
import Derived.Test.YtipdhjdlfdbkiaaPHistOpsx4
import Derived.Test.YtipdhjdlfdbkiaaPHistOpsx5
import Derived.Test.YtipdhjdlfdbkiaaPHistOpsx6
import Derived.Test.YtipdhjdlfdbkiaaPHistOpsx7
namespace Go.Proofs.Ytipdhjdlfdbkiaa.PHistOps
open Go.RowKit Go.Proofs.YtipdhjdlfdbkiaaW.PrintWords Go.Proofs.YtipdhjdlfdbkiaaW.PrintLast Go.Proofs.YtipdhjdlfdbkiaaW.PrintMore
attribute [local go_sem] max2_int min2_int max_two min_two max_three min_three max_four min_four   -- for this text's walks alone
set_option linter.unusedVariables false
set_option linter.unusedSimpArgs false

attribute [local go_sem high] eqA78
/-! ### boscagelaw32_HistOps: function 9 -/
mutual
def boscagelaw32_HistOps.j0 : Nat → List (S127) → Int → List (S78) → List Int → Bool → Option (Bool)
  | 0, _, _, _, _, _ => none
  | k + 1, x0, x3, x4, x6, x40 => if x40 = true then (some false) else (if x3 = 0 then ((ref32_Ops.f x0).bind fun t176 => (if (x4.length : Int) = (t176.length : Int) then ((boscageref32_Pending.f k x0).bind fun t179 => ((boscagebase_SameInts.f k x6 t179).bind fun t182 => (boscagelaw32_HistOps.j1 k x4 t176 (!t182)))) else (boscagelaw32_HistOps.j1 k x4 t176 true))) else (if (x4.length : Int) = 0 then (if (x6.length : Int) = 0 then ((boscagelaw32_works.f k).bind fun t175 => (some t175)) else (some false)) else (some false)))
def boscagelaw32_HistOps.j1 : Nat → List (S78) → List (S80) → Bool → Option (Bool)
  | 0, _, _, _ => none
  | k + 1, x4, x8, x67 => if x67 = true then (some false) else (boscagelaw32_HistOps.l0 k x4 x8 0)
def boscagelaw32_HistOps.l0 : Nat → List (S78) → List (S80) → Int → Option (Bool)
  | 0, _, _, _ => none
  | k + 1, x4, x8, x9 => if x9 < (x8.length : Int) then (if 0 ≤ x9 then (if x9 < (x4.length : Int) then ((boscagelaw32_Give.f ((rd_T80 x8 x9).f0) ((rd_T80 x8 x9).f1.f0) ((rd_T80 x8 x9).f1.f1) ((rd_T80 x8 x9).f1.f2) ((rd_T80 x8 x9).f1.f3) ((rd_T80 x8 x9).f1.f4) ((rd_T80 x8 x9).f2.f0) ((rd_T80 x8 x9).f2.f1) ((rd_T80 x8 x9).f2.f2) ((rd_T80 x8 x9).f2.f3) ((rd_T80 x8 x9).f2.f4) ((rd_T80 x8 x9).f3) ((rd_T80 x8 x9).f4) ((rd_T80 x8 x9).f5)).bind fun bt185 => (if (!(((rd_T78 x4 x9).f0) == bt185.1) || ((!(((rd_T78 x4 x9).f1.f0) == bt185.2.1) || (!((((rd_T78 x4 x9).f1.f1).toList) == bt185.2.2.1.toList) || (!((((rd_T78 x4 x9).f1.f2).toList) == bt185.2.2.2.1.toList) || (!((((rd_T78 x4 x9).f1.f3).toList) == bt185.2.2.2.2.1.toList) || (!(((rd_T78 x4 x9).f1.f4) == bt185.2.2.2.2.2.1)))))) || ((!(((rd_T78 x4 x9).f2.f0) == bt185.2.2.2.2.2.2.1) || (!(((rd_T78 x4 x9).f2.f1) == bt185.2.2.2.2.2.2.2.1) || (!((((rd_T78 x4 x9).f2.f2).toList) == bt185.2.2.2.2.2.2.2.2.1.toList) || (!((((rd_T78 x4 x9).f2.f3).toList) == bt185.2.2.2.2.2.2.2.2.2.1.toList) || (!(((rd_T78 x4 x9).f2.f4) == bt185.2.2.2.2.2.2.2.2.2.2.1)))))) || (!(((rd_T78 x4 x9).f3) == bt185.2.2.2.2.2.2.2.2.2.2.2.1) || (!(((rd_T78 x4 x9).f4) == bt185.2.2.2.2.2.2.2.2.2.2.2.2.1) || (!(((rd_T78 x4 x9).f5) == bt185.2.2.2.2.2.2.2.2.2.2.2.2.2))))))) = true then (some false) else (boscagelaw32_HistOps.l0 k x4 x8 (wrap64 (x9 + 1))))) else (none)) else (none)) else ((boscagelaw32_works.f k).bind fun t199 => (some t199))
end
def boscagelaw32_HistOps.f (k : Nat) (l0 : List (S127)) : Option (Bool) := (boscagelaw32_few.f l0).bind fun t153 => ((boscageref32_May.f k t153).bind fun t156 => ((boscagelaw32_few.f t153).bind fun t157 => ((hist_Ops.f t157).bind fun bt160 => ((boscagelaw32_few.f t153).bind fun t164 => ((hist_Pending.f t164).bind fun bt167 => ((boscagelaw32_few.f t153).bind fun t171 => ((hist_May.f t171).bind fun t174 => (if t174 = t156 then (if bt160.2 = t156 then (boscagelaw32_HistOps.j0 k t153 t156 bt160.1 bt167.1 (bt167.2 != t156)) else (boscagelaw32_HistOps.j0 k t153 t156 bt160.1 bt167.1 true)) else (boscagelaw32_HistOps.j0 k t153 t156 bt160.1 bt167.1 true)))))))))
theorem boscagelaw32_HistOps.mono_l : ∀ k, (∀ y0 y1 y2 y3 y4, LeO (boscagelaw32_HistOps.j0 k y0 y1 y2 y3 y4) (boscagelaw32_HistOps.j0 (k + 1) y0 y1 y2 y3 y4)) ∧ (∀ y0 y1 y2, LeO (boscagelaw32_HistOps.j1 k y0 y1 y2) (boscagelaw32_HistOps.j1 (k + 1) y0 y1 y2)) ∧ (∀ y0 y1 y2, LeO (boscagelaw32_HistOps.l0 k y0 y1 y2) (boscagelaw32_HistOps.l0 (k + 1) y0 y1 y2))
  | 0 => ⟨fun _ _ _ _ _ r h => by simp [boscagelaw32_HistOps.j0] at h, fun _ _ _ r h => by simp [boscagelaw32_HistOps.j1] at h, fun _ _ _ r h => by simp [boscagelaw32_HistOps.l0] at h⟩
  | k + 1 => by
    obtain ⟨ih0, ih1, ih2⟩ := boscagelaw32_HistOps.mono_l k
    refine ⟨?_, ?_, ?_⟩
    · intro y0 y1 y2 y3 y4
      unfold boscagelaw32_HistOps.j0
      repeat' first
      | (with_reducible exact ih0 _ _ _ _ _)
      | (with_reducible exact ih1 _ _ _)
      | (with_reducible exact ih2 _ _ _)
      | (with_reducible exact boscagebase_SameInts.mono _ _ _)
      | (with_reducible exact boscagelaw32_works.mono _)
      | (with_reducible exact boscageref32_May.mono _ _)
      | (with_reducible exact boscageref32_Pending.mono _ _)
      | (with_reducible exact LeO.refl _)
      | (with_reducible exact LeO.none _)
      | (with_reducible refine LeO.ite ?_ ?_)
      | (with_reducible refine LeO.bind ?_ (fun _ => ?_))
      | exact ih0 _ _ _ _ _
      | exact ih1 _ _ _
      | exact ih2 _ _ _
      | exact boscagebase_SameInts.mono _ _ _
      | exact boscagelaw32_works.mono _
      | exact boscageref32_May.mono _ _
      | exact boscageref32_Pending.mono _ _
      | exact LeO.none _
      | refine LeO.ite ?_ ?_
      | refine LeO.bind ?_ (fun _ => ?_)
    · intro y0 y1 y2
      unfold boscagelaw32_HistOps.j1
      repeat' first
      | (with_reducible exact ih0 _ _ _ _ _)
      | (with_reducible exact ih1 _ _ _)
      | (with_reducible exact ih2 _ _ _)
      | (with_reducible exact boscagebase_SameInts.mono _ _ _)
      | (with_reducible exact boscagelaw32_works.mono _)
      | (with_reducible exact boscageref32_May.mono _ _)
      | (with_reducible exact boscageref32_Pending.mono _ _)
      | (with_reducible exact LeO.refl _)
      | (with_reducible exact LeO.none _)
      | (with_reducible refine LeO.ite ?_ ?_)
      | (with_reducible refine LeO.bind ?_ (fun _ => ?_))
      | exact ih0 _ _ _ _ _
      | exact ih1 _ _ _
      | exact ih2 _ _ _
      | exact boscagebase_SameInts.mono _ _ _
      | exact boscagelaw32_works.mono _
      | exact boscageref32_May.mono _ _
      | exact boscageref32_Pending.mono _ _
      | exact LeO.none _
      | refine LeO.ite ?_ ?_
      | refine LeO.bind ?_ (fun _ => ?_)
    · intro y0 y1 y2
      unfold boscagelaw32_HistOps.l0
      repeat' first
      | (with_reducible exact ih0 _ _ _ _ _)
      | (with_reducible exact ih1 _ _ _)
      | (with_reducible exact ih2 _ _ _)
      | (with_reducible exact boscagebase_SameInts.mono _ _ _)
      | (with_reducible exact boscagelaw32_works.mono _)
      | (with_reducible exact boscageref32_May.mono _ _)
      | (with_reducible exact boscageref32_Pending.mono _ _)
      | (with_reducible exact LeO.refl _)
      | (with_reducible exact LeO.none _)
      | (with_reducible refine LeO.ite ?_ ?_)
      | (with_reducible refine LeO.bind ?_ (fun _ => ?_))
      | exact ih0 _ _ _ _ _
      | exact ih1 _ _ _
      | exact ih2 _ _ _
      | exact boscagebase_SameInts.mono _ _ _
      | exact boscagelaw32_works.mono _
      | exact boscageref32_May.mono _ _
      | exact boscageref32_Pending.mono _ _
      | exact LeO.none _
      | refine LeO.ite ?_ ?_
      | refine LeO.bind ?_ (fun _ => ?_)
theorem boscagelaw32_HistOps.mono : ∀ a0 k, LeO (boscagelaw32_HistOps.f k a0) (boscagelaw32_HistOps.f (k + 1) a0) := by
  intro a0 k
  obtain ⟨ih0, ih1, ih2⟩ := boscagelaw32_HistOps.mono_l k
  unfold boscagelaw32_HistOps.f
  repeat' first
      | (with_reducible exact ih0 _ _ _ _ _)
      | (with_reducible exact ih1 _ _ _)
      | (with_reducible exact ih2 _ _ _)
      | (with_reducible exact boscagebase_SameInts.mono _ _ _)
      | (with_reducible exact boscagelaw32_works.mono _)
      | (with_reducible exact boscageref32_May.mono _ _)
      | (with_reducible exact boscageref32_Pending.mono _ _)
      | (with_reducible exact LeO.refl _)
      | (with_reducible exact LeO.none _)
      | (with_reducible refine LeO.ite ?_ ?_)
      | (with_reducible refine LeO.bind ?_ (fun _ => ?_))
      | exact ih0 _ _ _ _ _
      | exact ih1 _ _ _
      | exact ih2 _ _ _
      | exact boscagebase_SameInts.mono _ _ _
      | exact boscagelaw32_works.mono _
      | exact boscageref32_May.mono _ _
      | exact boscageref32_Pending.mono _ _
      | exact LeO.none _
      | refine LeO.ite ?_ ?_
      | refine LeO.bind ?_ (fun _ => ?_)
def boscagelaw32_HistOps.T15 : Bool × List (List Nat × List Nat) := (true, [([], []), ([], []), ([0, 1], [0, 1]), ([2], [2]), ([], []), ([], []), ([4, 5], [4, 5]), ([6], [6]), ([7], [7]), ([3, 8], [3, 8])])
def boscagelaw32_HistOps.B15 : List Nat := [0, 0, 3, 7, 0, 0, 48, 112, 240, 511]
theorem boscagelaw32_HistOps.tab15 : rtab .any (opsOf Try.f9 15) = boscagelaw32_HistOps.T15 := by kernel_rfl
theorem boscagelaw32_HistOps.bits15 : waitsOk boscagelaw32_HistOps.T15.2 boscagelaw32_HistOps.B15 = true := by kernel_rfl
set_option maxHeartbeats 8000000 in
set_option maxRecDepth 100000 in
theorem boscagelaw32_HistOps.calls (k : Nat) (A0 : Option Addr) (c0 : Nat) (l0 : List (S127)) (r : Bool) (w : World) (hr0 : Kd.C k127 w A0 l0.length l0) (hc0 : l0.length ≤ c0) (h : boscagelaw32_HistOps.f k l0 = some r) :
    Calls Try.prog 9 #[.slice A0 l0.length c0] w fun e w' => e = .returned (.bool r) ∧ Below w.heap.size w w' := by
  have hu78 := Try.underlying78
  have hu80 := Try.underlying80
  have HR0 := Aside0.mk hr0
  have HC0 := Aside0.mk hc0
  clear hr0 hc0
  have HB := Aside0.mk (Below.refl w.heap.size w)
  have H : ((boscagelaw32_few.f l0).bind fun t153 => ((boscageref32_May.f k t153).bind fun t156 => ((boscagelaw32_few.f t153).bind fun t157 => ((hist_Ops.f t157).bind fun bt160 => ((boscagelaw32_few.f t153).bind fun t164 => ((hist_Pending.f t164).bind fun bt167 => ((boscagelaw32_few.f t153).bind fun t171 => ((hist_May.f t171).bind fun t174 => (if t174 = t156 then (if bt160.2 = t156 then (boscagelaw32_HistOps.j0 k t153 t156 bt160.1 bt167.1 (bt167.2 != t156)) else (boscagelaw32_HistOps.j0 k t153 t156 bt160.1 bt167.1 true)) else (boscagelaw32_HistOps.j0 k t153 t156 bt160.1 bt167.1 true)))))))))) = some r := h
  clear h
  replace H := Option.bind_eq_some_iff.mp H
  obtain ⟨t153, A20, H⟩ := H
  replace H : ((boscageref32_May.f k t153).bind fun t156 => ((boscagelaw32_few.f t153).bind fun t157 => ((hist_Ops.f t157).bind fun bt160 => ((boscagelaw32_few.f t153).bind fun t164 => ((hist_Pending.f t164).bind fun bt167 => ((boscagelaw32_few.f t153).bind fun t171 => ((hist_May.f t171).bind fun t174 => (if t174 = t156 then (if bt160.2 = t156 then (boscagelaw32_HistOps.j0 k t153 t156 bt160.1 bt167.1 (bt167.2 != t156)) else (boscagelaw32_HistOps.j0 k t153 t156 bt160.1 bt167.1 true)) else (boscagelaw32_HistOps.j0 k t153 t156 bt160.1 bt167.1 true))))))))) = some r := H
  have A2 := Aside0.mk A20
  clear A20
  replace H := Option.bind_eq_some_iff.mp H
  obtain ⟨t156, A30, H⟩ := H
  replace H : ((boscagelaw32_few.f t153).bind fun t157 => ((hist_Ops.f t157).bind fun bt160 => ((boscagelaw32_few.f t153).bind fun t164 => ((hist_Pending.f t164).bind fun bt167 => ((boscagelaw32_few.f t153).bind fun t171 => ((hist_May.f t171).bind fun t174 => (if t174 = t156 then (if bt160.2 = t156 then (boscagelaw32_HistOps.j0 k t153 t156 bt160.1 bt167.1 (bt167.2 != t156)) else (boscagelaw32_HistOps.j0 k t153 t156 bt160.1 bt167.1 true)) else (boscagelaw32_HistOps.j0 k t153 t156 bt160.1 bt167.1 true)))))))) = some r := H
  have A3 := Aside0.mk A30
  clear A30
  replace H := Option.bind_eq_some_iff.mp H
  obtain ⟨t157, A40, H⟩ := H
  replace H : ((hist_Ops.f t157).bind fun bt160 => ((boscagelaw32_few.f t153).bind fun t164 => ((hist_Pending.f t164).bind fun bt167 => ((boscagelaw32_few.f t153).bind fun t171 => ((hist_May.f t171).bind fun t174 => (if t174 = t156 then (if bt160.2 = t156 then (boscagelaw32_HistOps.j0 k t153 t156 bt160.1 bt167.1 (bt167.2 != t156)) else (boscagelaw32_HistOps.j0 k t153 t156 bt160.1 bt167.1 true)) else (boscagelaw32_HistOps.j0 k t153 t156 bt160.1 bt167.1 true))))))) = some r := H
  have A4 := Aside0.mk A40
  clear A40
  replace H := Option.bind_eq_some_iff.mp H
  obtain ⟨⟨t160, t161⟩, A50, H⟩ := H
  replace H : ((boscagelaw32_few.f t153).bind fun t164 => ((hist_Pending.f t164).bind fun bt167 => ((boscagelaw32_few.f t153).bind fun t171 => ((hist_May.f t171).bind fun t174 => (if t174 = t156 then (if t161 = t156 then (boscagelaw32_HistOps.j0 k t153 t156 t160 bt167.1 (bt167.2 != t156)) else (boscagelaw32_HistOps.j0 k t153 t156 t160 bt167.1 true)) else (boscagelaw32_HistOps.j0 k t153 t156 t160 bt167.1 true)))))) = some r := H
  have A5 := Aside0.mk A50
  clear A50
  replace H := Option.bind_eq_some_iff.mp H
  obtain ⟨t164, A60, H⟩ := H
  replace H : ((hist_Pending.f t164).bind fun bt167 => ((boscagelaw32_few.f t153).bind fun t171 => ((hist_May.f t171).bind fun t174 => (if t174 = t156 then (if t161 = t156 then (boscagelaw32_HistOps.j0 k t153 t156 t160 bt167.1 (bt167.2 != t156)) else (boscagelaw32_HistOps.j0 k t153 t156 t160 bt167.1 true)) else (boscagelaw32_HistOps.j0 k t153 t156 t160 bt167.1 true))))) = some r := H
  have A6 := Aside0.mk A60
  clear A60
  replace H := Option.bind_eq_some_iff.mp H
  obtain ⟨⟨t167, t168⟩, A70, H⟩ := H
  replace H : ((boscagelaw32_few.f t153).bind fun t171 => ((hist_May.f t171).bind fun t174 => (if t174 = t156 then (if t161 = t156 then (boscagelaw32_HistOps.j0 k t153 t156 t160 t167 (t168 != t156)) else (boscagelaw32_HistOps.j0 k t153 t156 t160 t167 true)) else (boscagelaw32_HistOps.j0 k t153 t156 t160 t167 true)))) = some r := H
  have A7 := Aside0.mk A70
  clear A70
  have HC8 := Aside0.mk H
  clear H
  go_enter Try.func9, Try.ntmps9
  go_upto_region 5 with (first | ((with_reducible refine gate_callee (f := 39) rfl ?_); refine goesL_ (some 11) rfl rfl Try.func39 (by kernel_rfl) rfl #[.slice A0 l0.length c0] rfl (by (try simp only [List.map_toArray, List.map_cons, List.map_nil]); first | done | rfl | (simp only [List.length_drop, List.length_take]; rfl)) ?_; (with_reducible refine (boscagelaw32_few.calls _ _ l0 t153 _ ?side1 ?side2 A2.out).mono ?_); (case side1 => repeat (first | exact HR0.out | (with_reducible refine Kd.C_alloc ?_ _) | (with_reducible refine Kd.C_drewN ?_ _) | (with_reducible refine Kd.C_drew ?_))); (case side2 => exact HC0.out); rintro e w9 ⟨v154, rfl, ho0, hb⟩; refine ⟨_, rfl, ?_⟩; have n0_ := Aside0.mk (Kd.R_lower ho0 (below_size (by repeat (first | (with_reducible first | exact HB.out | apply below_alloc | apply pw_below_drewN | apply below_drew1) | exact HB.out)))); have n1_ := Aside0.mk (below_step (by repeat (first | (with_reducible first | exact HB.out | apply below_alloc | apply pw_below_drewN | apply below_drew1) | exact HB.out)) hb); clear HB; have HO155 := n0_; have HB := n1_; clear n0_ n1_; (try clear hb); (try clear hb2); (try clear hk); (try clear hi); (try clear ho0); obtain ⟨Ao10, co10, eo10⟩ := Kd.R_slice HO155.out; subst eo10) | ((with_reducible refine gate_callee (f := 40) rfl ?_); refine goesL_ (some 13) rfl rfl Try.func40 (by kernel_rfl) rfl #[.slice Ao10 t153.length co10] rfl (by (try simp only [List.map_toArray, List.map_cons, List.map_nil]); first | done | rfl | (simp only [List.length_drop, List.length_take]; rfl)) ?_; (with_reducible refine (boscageref32_May.calls k _ _ t153 t156 _ ?side1 ?side2 A3.out).mono ?_); (case side1 => repeat (first | exact (Kd.R_reads' HO155.out).2.2 | (with_reducible refine Kd.C_alloc ?_ _) | (with_reducible refine Kd.C_drewN ?_ _) | (with_reducible refine Kd.C_drew ?_))); (case side2 => exact (Kd.R_reads' HO155.out).2.1); rintro e w11 ⟨rfl, hb⟩; refine ⟨_, rfl, ?_⟩; have n0_ := Aside0.mk (Kd.R_below (by (with_reducible repeat (first | apply Kd.R_alloc | apply Kd.R_drewN | apply Kd.R_drew)); exact HO155.out) hb); have n1_ := Aside0.mk (below_step (by repeat (first | (with_reducible first | exact HB.out | apply below_alloc | apply pw_below_drewN | apply below_drew1) | exact HB.out)) hb); clear HO155; clear HB; have HO155 := n0_; have HB := n1_; clear n0_ n1_; (try clear hb); (try clear hb2); (try clear hk); (try clear hi)) | ((with_reducible refine gate_callee (f := 39) rfl ?_); refine goesL_ (some 16) rfl rfl Try.func39 (by kernel_rfl) rfl #[.slice Ao10 t153.length co10] rfl (by (try simp only [List.map_toArray, List.map_cons, List.map_nil]); first | done | rfl | (simp only [List.length_drop, List.length_take]; rfl)) ?_; (with_reducible refine (boscagelaw32_few.calls _ _ t153 t157 _ ?side1 ?side2 A4.out).mono ?_); (case side1 => repeat (first | exact (Kd.R_reads' HO155.out).2.2 | (with_reducible refine Kd.C_alloc ?_ _) | (with_reducible refine Kd.C_drewN ?_ _) | (with_reducible refine Kd.C_drew ?_))); (case side2 => exact (Kd.R_reads' HO155.out).2.1); rintro e w12 ⟨v158, rfl, ho0, hb⟩; refine ⟨_, rfl, ?_⟩; have n0_ := Aside0.mk (Kd.R_elder' (by (with_reducible repeat (first | apply Kd.R_alloc | apply Kd.R_drewN | apply Kd.R_drew)); exact HO155.out) (Kd.R_base ho0) hb); have n1_ := Aside0.mk (Kd.R_lower (Kd.R_new' ho0 (Kd.R_lt (by (with_reducible repeat (first | apply Kd.R_alloc | apply Kd.R_drewN | apply Kd.R_drew)); exact HO155.out))) (below_size (by repeat (first | (with_reducible first | exact HB.out | apply below_alloc | apply pw_below_drewN | apply below_drew1) | exact HB.out)))); have n2_ := Aside0.mk (below_step (by repeat (first | (with_reducible first | exact HB.out | apply below_alloc | apply pw_below_drewN | apply below_drew1) | exact HB.out)) hb); clear HO155; clear HB; have HO155 := n0_; have HO159 := n1_; have HB := n2_; clear n0_ n1_ n2_; (try clear hb); (try clear hb2); (try clear hk); (try clear hi); (try clear ho0); obtain ⟨Ao13, co13, eo13⟩ := Kd.R_slice HO159.out; subst eo13) | ((with_reducible refine gate_callee (f := 41) rfl ?_); refine goesL_ (some 17) rfl rfl Try.func41 (by kernel_rfl) rfl #[.slice Ao13 t157.length co13] rfl (by (try simp only [List.map_toArray, List.map_cons, List.map_nil]); first | done | rfl | (simp only [List.length_drop, List.length_take]; rfl)) ?_; (with_reducible refine (hist_Ops.calls _ _ t157 t160 t161 _ ?side1 ?side2 A5.out).mono ?_); (case side1 => repeat (first | exact (Kd.R_reads' HO159.out).2.2 | (with_reducible refine Kd.C_alloc ?_ _) | (with_reducible refine Kd.C_drewN ?_ _) | (with_reducible refine Kd.C_drew ?_))); (case side2 => exact (Kd.R_reads' HO159.out).2.1); rintro e w14 ⟨v162, rfl, ho0, hb⟩; refine ⟨_, rfl, ?_⟩; have n0_ := Aside0.mk (Kd.R_below (by (with_reducible repeat (first | apply Kd.R_alloc | apply Kd.R_drewN | apply Kd.R_drew)); exact HO155.out) hb); have n1_ := Aside0.mk (Kd.R_below (by (with_reducible repeat (first | apply Kd.R_alloc | apply Kd.R_drewN | apply Kd.R_drew)); exact HO159.out) hb); have n2_ := Aside0.mk (Kd.R_lower ho0 (below_size (by repeat (first | (with_reducible first | exact HB.out | apply below_alloc | apply pw_below_drewN | apply below_drew1) | exact HB.out)))); have n3_ := Aside0.mk (below_step (by repeat (first | (with_reducible first | exact HB.out | apply below_alloc | apply pw_below_drewN | apply below_drew1) | exact HB.out)) hb); clear HO155; clear HO159; clear HB; have HO155 := n0_; have HO159 := n1_; have HO163 := n2_; have HB := n3_; clear n0_ n1_ n2_ n3_; (try clear hb); (try clear hb2); (try clear hk); (try clear hi); (try clear ho0)) | ((with_reducible refine gate_callee (f := 39) rfl ?_); refine goesL_ (some 22) rfl rfl Try.func39 (by kernel_rfl) rfl #[.slice Ao10 t153.length co10] rfl (by (try simp only [List.map_toArray, List.map_cons, List.map_nil]); first | done | rfl | (simp only [List.length_drop, List.length_take]; rfl)) ?_; (with_reducible refine (boscagelaw32_few.calls _ _ t153 t164 _ ?side1 ?side2 A6.out).mono ?_); (case side1 => repeat (first | exact (Kd.R_reads' HO155.out).2.2 | (with_reducible refine Kd.C_alloc ?_ _) | (with_reducible refine Kd.C_drewN ?_ _) | (with_reducible refine Kd.C_drew ?_))); (case side2 => exact (Kd.R_reads' HO155.out).2.1); rintro e w15 ⟨v165, rfl, ho0, hb⟩; refine ⟨_, rfl, ?_⟩; have n0_ := Aside0.mk (Kd.R_elder' (by (with_reducible repeat (first | apply Kd.R_alloc | apply Kd.R_drewN | apply Kd.R_drew)); exact HO155.out) (Kd.R_base ho0) hb); have n1_ := Aside0.mk (Kd.R_elder' (by (with_reducible repeat (first | apply Kd.R_alloc | apply Kd.R_drewN | apply Kd.R_drew)); exact HO159.out) (Kd.R_base ho0) hb); have n2_ := Aside0.mk (Kd.R_below (by (with_reducible repeat (first | apply Kd.R_alloc | apply Kd.R_drewN | apply Kd.R_drew)); exact HO163.out) hb); have n3_ := Aside0.mk (Kd.R_lower (Kd.R_new' (Kd.R_new' ho0 (Kd.R_lt (by (with_reducible repeat (first | apply Kd.R_alloc | apply Kd.R_drewN | apply Kd.R_drew)); exact HO155.out))) (Kd.R_lt (by (with_reducible repeat (first | apply Kd.R_alloc | apply Kd.R_drewN | apply Kd.R_drew)); exact HO159.out))) (below_size (by repeat (first | (with_reducible first | exact HB.out | apply below_alloc | apply pw_below_drewN | apply below_drew1) | exact HB.out)))); have n4_ := Aside0.mk (below_step (by repeat (first | (with_reducible first | exact HB.out | apply below_alloc | apply pw_below_drewN | apply below_drew1) | exact HB.out)) hb); clear HO155; clear HO159; clear HO163; clear HB; have HO155 := n0_; have HO159 := n1_; have HO163 := n2_; have HO166 := n3_; have HB := n4_; clear n0_ n1_ n2_ n3_ n4_; (try clear hb); (try clear hb2); (try clear hk); (try clear hi); (try clear ho0); obtain ⟨Ao16, co16, eo16⟩ := Kd.R_slice HO166.out; subst eo16) | ((with_reducible refine gate_callee (f := 42) rfl ?_); refine goesL_ (some 23) rfl rfl Try.func42 (by kernel_rfl) rfl #[.slice Ao16 t164.length co16] rfl (by (try simp only [List.map_toArray, List.map_cons, List.map_nil]); first | done | rfl | (simp only [List.length_drop, List.length_take]; rfl)) ?_; (with_reducible refine (hist_Pending.calls _ _ t164 t167 t168 _ ?side1 ?side2 A7.out).mono ?_); (case side1 => repeat (first | exact (Kd.R_reads' HO166.out).2.2 | (with_reducible refine Kd.C_alloc ?_ _) | (with_reducible refine Kd.C_drewN ?_ _) | (with_reducible refine Kd.C_drew ?_))); (case side2 => exact (Kd.R_reads' HO166.out).2.1); rintro e w17 ⟨v169, rfl, ho0, hb⟩; refine ⟨_, rfl, ?_⟩; have n0_ := Aside0.mk (Kd.R_below (by (with_reducible repeat (first | apply Kd.R_alloc | apply Kd.R_drewN | apply Kd.R_drew)); exact HO155.out) hb); have n1_ := Aside0.mk (Kd.R_below (by (with_reducible repeat (first | apply Kd.R_alloc | apply Kd.R_drewN | apply Kd.R_drew)); exact HO159.out) hb); have n2_ := Aside0.mk (Kd.R_below (by (with_reducible repeat (first | apply Kd.R_alloc | apply Kd.R_drewN | apply Kd.R_drew)); exact HO163.out) hb); have n3_ := Aside0.mk (Kd.R_below (by (with_reducible repeat (first | apply Kd.R_alloc | apply Kd.R_drewN | apply Kd.R_drew)); exact HO166.out) hb); have n4_ := Aside0.mk (Kd.R_lower ho0 (below_size (by repeat (first | (with_reducible first | exact HB.out | apply below_alloc | apply pw_below_drewN | apply below_drew1) | exact HB.out)))); have n5_ := Aside0.mk (below_step (by repeat (first | (with_reducible first | exact HB.out | apply below_alloc | apply pw_below_drewN | apply below_drew1) | exact HB.out)) hb); clear HO155; clear HO159; clear HO163; clear HO166; clear HB; have HO155 := n0_; have HO159 := n1_; have HO163 := n2_; have HO166 := n3_; have HO170 := n4_; have HB := n5_; clear n0_ n1_ n2_ n3_ n4_ n5_; (try clear hb); (try clear hb2); (try clear hk); (try clear hi); (try clear ho0)))
  (try simp only [Act.put, List.setIfInBounds_toArray, List.set_cons_zero, List.set_cons_succ])
  go_cut [40] (fun v40 wc => ∃ (kq : Nat) (x40_7 : Bool), v40 = .bool x40_7 ∧ Aside0 (boscagelaw32_HistOps.j0 kq t153 t156 t160 t167 x40_7 = some r) ∧ Aside0 (kq ≤ k) ∧ Aside0 (Kd.R k127 127 wc w.heap.size (fun _ => True) (.slice Ao10 t153.length co10) t153) ∧ Aside0 (Kd.R k78 78 wc w.heap.size (fun _ => True) v162 t160) ∧ Aside0 (Kd.R (Kd.int .i64) 3 wc w.heap.size (fun _ => True) v169 t167) ∧ Aside0 (Below w.heap.size w wc))
  case first =>
    have H := HC8.out
    clear HC8
    replace H := Option.bind_eq_some_iff.mp H
    obtain ⟨t171, A180, H⟩ := H
    replace H : ((hist_May.f t171).bind fun t174 => (if t174 = t156 then (if t161 = t156 then (boscagelaw32_HistOps.j0 k t153 t156 t160 t167 (t168 != t156)) else (boscagelaw32_HistOps.j0 k t153 t156 t160 t167 true)) else (boscagelaw32_HistOps.j0 k t153 t156 t160 t167 true))) = some r := H
    have A18 := Aside0.mk A180
    clear A180
    replace H := Option.bind_eq_some_iff.mp H
    obtain ⟨t174, A190, H⟩ := H
    replace H : (if t174 = t156 then (if t161 = t156 then (boscagelaw32_HistOps.j0 k t153 t156 t160 t167 (t168 != t156)) else (boscagelaw32_HistOps.j0 k t153 t156 t160 t167 true)) else (boscagelaw32_HistOps.j0 k t153 t156 t160 t167 true)) = some r := H
    have A19 := Aside0.mk A190
    clear A190
    by_cases c20 : t174 = t156
    · rw [if_pos c20] at H
      have c20b0 : (t174 == t156) = true := beq_iff_eq.mpr c20
      have c20b1 : (t174 != t156) = false := bne_eq_false_iff_eq.mpr c20
      clear c20
      (first | rw [c20b0] | (simp only [i64_w, i32_w]; rw [c20b0]) | skip)
      by_cases c21 : t161 = t156
      · rw [if_pos c21] at H
        have c21b0 : (t161 == t156) = true := beq_iff_eq.mpr c21
        have c21b1 : (t161 != t156) = false := bne_eq_false_iff_eq.mpr c21
        clear c21
        have H' := Aside0.mk H
        clear H
        go_wp2_with (first | ((with_reducible refine gate_callee (f := 39) rfl ?_); refine goesL_ (some 27) rfl rfl Try.func39 (by kernel_rfl) rfl #[.slice Ao10 t153.length co10] rfl (by (try simp only [List.map_toArray, List.map_cons, List.map_nil]); first | done | rfl | (simp only [List.length_drop, List.length_take]; rfl)) ?_; (with_reducible refine (boscagelaw32_few.calls _ _ t153 t171 _ ?side1 ?side2 A18.out).mono ?_); (case side1 => repeat (first | exact (Kd.R_reads' HO155.out).2.2 | (with_reducible refine Kd.C_alloc ?_ _) | (with_reducible refine Kd.C_drewN ?_ _) | (with_reducible refine Kd.C_drew ?_))); (case side2 => exact (Kd.R_reads' HO155.out).2.1); rintro e w22 ⟨v172, rfl, ho0, hb⟩; refine ⟨_, rfl, ?_⟩; have n0_ := Aside0.mk (Kd.R_elder' (by (with_reducible repeat (first | apply Kd.R_alloc | apply Kd.R_drewN | apply Kd.R_drew)); exact HO155.out) (Kd.R_base ho0) hb); have n1_ := Aside0.mk (Kd.R_elder' (by (with_reducible repeat (first | apply Kd.R_alloc | apply Kd.R_drewN | apply Kd.R_drew)); exact HO159.out) (Kd.R_base ho0) hb); have n2_ := Aside0.mk (Kd.R_below (by (with_reducible repeat (first | apply Kd.R_alloc | apply Kd.R_drewN | apply Kd.R_drew)); exact HO163.out) hb); have n3_ := Aside0.mk (Kd.R_elder' (by (with_reducible repeat (first | apply Kd.R_alloc | apply Kd.R_drewN | apply Kd.R_drew)); exact HO166.out) (Kd.R_base ho0) hb); have n4_ := Aside0.mk (Kd.R_below (by (with_reducible repeat (first | apply Kd.R_alloc | apply Kd.R_drewN | apply Kd.R_drew)); exact HO170.out) hb); have n5_ := Aside0.mk (Kd.R_lower (Kd.R_new' (Kd.R_new' (Kd.R_new' ho0 (Kd.R_lt (by (with_reducible repeat (first | apply Kd.R_alloc | apply Kd.R_drewN | apply Kd.R_drew)); exact HO155.out))) (Kd.R_lt (by (with_reducible repeat (first | apply Kd.R_alloc | apply Kd.R_drewN | apply Kd.R_drew)); exact HO159.out))) (Kd.R_lt (by (with_reducible repeat (first | apply Kd.R_alloc | apply Kd.R_drewN | apply Kd.R_drew)); exact HO166.out))) (below_size (by repeat (first | (with_reducible first | exact HB.out | apply below_alloc | apply pw_below_drewN | apply below_drew1) | exact HB.out)))); have n6_ := Aside0.mk (below_step (by repeat (first | (with_reducible first | exact HB.out | apply below_alloc | apply pw_below_drewN | apply below_drew1) | exact HB.out)) hb); clear HO155; clear HO159; clear HO163; clear HO166; clear HO170; clear HB; have HO155 := n0_; have HO159 := n1_; have HO163 := n2_; have HO166 := n3_; have HO170 := n4_; have HO173 := n5_; have HB := n6_; clear n0_ n1_ n2_ n3_ n4_ n5_ n6_; (try clear hb); (try clear hb2); (try clear hk); (try clear hi); (try clear ho0); obtain ⟨Ao23, co23, eo23⟩ := Kd.R_slice HO173.out; subst eo23) | ((with_reducible refine gate_callee (f := 43) rfl ?_); refine goesL_ (some 28) rfl rfl Try.func43 (by kernel_rfl) rfl #[.slice Ao23 t171.length co23] rfl (by (try simp only [List.map_toArray, List.map_cons, List.map_nil]); first | done | rfl | (simp only [List.length_drop, List.length_take]; rfl)) ?_; (with_reducible refine (hist_May.calls _ _ t171 t174 _ ?side1 ?side2 A19.out).mono ?_); (case side1 => repeat (first | exact (Kd.R_reads' HO173.out).2.2 | (with_reducible refine Kd.C_alloc ?_ _) | (with_reducible refine Kd.C_drewN ?_ _) | (with_reducible refine Kd.C_drew ?_))); (case side2 => exact (Kd.R_reads' HO173.out).2.1); rintro e w24 ⟨rfl, hb⟩; refine ⟨_, rfl, ?_⟩; have n0_ := Aside0.mk (Kd.R_below (by (with_reducible repeat (first | apply Kd.R_alloc | apply Kd.R_drewN | apply Kd.R_drew)); exact HO155.out) hb); have n1_ := Aside0.mk (Kd.R_below (by (with_reducible repeat (first | apply Kd.R_alloc | apply Kd.R_drewN | apply Kd.R_drew)); exact HO159.out) hb); have n2_ := Aside0.mk (Kd.R_below (by (with_reducible repeat (first | apply Kd.R_alloc | apply Kd.R_drewN | apply Kd.R_drew)); exact HO163.out) hb); have n3_ := Aside0.mk (Kd.R_below (by (with_reducible repeat (first | apply Kd.R_alloc | apply Kd.R_drewN | apply Kd.R_drew)); exact HO166.out) hb); have n4_ := Aside0.mk (Kd.R_below (by (with_reducible repeat (first | apply Kd.R_alloc | apply Kd.R_drewN | apply Kd.R_drew)); exact HO170.out) hb); have n5_ := Aside0.mk (Kd.R_below (by (with_reducible repeat (first | apply Kd.R_alloc | apply Kd.R_drewN | apply Kd.R_drew)); exact HO173.out) hb); have n6_ := Aside0.mk (below_step (by repeat (first | (with_reducible first | exact HB.out | apply below_alloc | apply pw_below_drewN | apply below_drew1) | exact HB.out)) hb); clear HO155; clear HO159; clear HO163; clear HO166; clear HO170; clear HO173; clear HB; have HO155 := n0_; have HO159 := n1_; have HO163 := n2_; have HO166 := n3_; have HO170 := n4_; have HO173 := n5_; have HB := n6_; clear n0_ n1_ n2_ n3_ n4_ n5_ n6_; (try clear hb); (try clear hb2); (try clear hk); (try clear hi)))
        go_meet
        case rel => exact ⟨_, ((t168 != t156)), (by first | rfl | (simp; done) | (simp [*]; done)), H', ⟨by first | omega | exact Nat.le_refl _⟩, ⟨by (with_reducible repeat (first | apply Kd.R_alloc | apply Kd.R_drewN | apply Kd.R_drew)); exact Kd.R_mono HO155.out (fun _ hk => trivial)⟩, ⟨by (with_reducible repeat (first | apply Kd.R_alloc | apply Kd.R_drewN | apply Kd.R_drew)); exact HO163.out⟩, ⟨by (with_reducible repeat (first | apply Kd.R_alloc | apply Kd.R_drewN | apply Kd.R_drew)); exact HO170.out⟩, ⟨by repeat (first | (with_reducible first | exact HB.out | apply below_alloc | apply pw_below_drewN | apply below_drew1) | exact HB.out)⟩⟩
      · rw [if_neg c21] at H
        have c21b0 : (t161 == t156) = false := beq_eq_false_iff_ne.mpr c21
        have c21b1 : (t161 != t156) = true := bne_iff_ne.mpr c21
        have H' := Aside0.mk H
        clear H
        go_wp2_with (first | ((with_reducible refine gate_callee (f := 39) rfl ?_); refine goesL_ (some 27) rfl rfl Try.func39 (by kernel_rfl) rfl #[.slice Ao10 t153.length co10] rfl (by (try simp only [List.map_toArray, List.map_cons, List.map_nil]); first | done | rfl | (simp only [List.length_drop, List.length_take]; rfl)) ?_; (with_reducible refine (boscagelaw32_few.calls _ _ t153 t171 _ ?side1 ?side2 A18.out).mono ?_); (case side1 => repeat (first | exact (Kd.R_reads' HO155.out).2.2 | (with_reducible refine Kd.C_alloc ?_ _) | (with_reducible refine Kd.C_drewN ?_ _) | (with_reducible refine Kd.C_drew ?_))); (case side2 => exact (Kd.R_reads' HO155.out).2.1); rintro e w25 ⟨v172, rfl, ho0, hb⟩; refine ⟨_, rfl, ?_⟩; have n0_ := Aside0.mk (Kd.R_elder' (by (with_reducible repeat (first | apply Kd.R_alloc | apply Kd.R_drewN | apply Kd.R_drew)); exact HO155.out) (Kd.R_base ho0) hb); have n1_ := Aside0.mk (Kd.R_elder' (by (with_reducible repeat (first | apply Kd.R_alloc | apply Kd.R_drewN | apply Kd.R_drew)); exact HO159.out) (Kd.R_base ho0) hb); have n2_ := Aside0.mk (Kd.R_below (by (with_reducible repeat (first | apply Kd.R_alloc | apply Kd.R_drewN | apply Kd.R_drew)); exact HO163.out) hb); have n3_ := Aside0.mk (Kd.R_elder' (by (with_reducible repeat (first | apply Kd.R_alloc | apply Kd.R_drewN | apply Kd.R_drew)); exact HO166.out) (Kd.R_base ho0) hb); have n4_ := Aside0.mk (Kd.R_below (by (with_reducible repeat (first | apply Kd.R_alloc | apply Kd.R_drewN | apply Kd.R_drew)); exact HO170.out) hb); have n5_ := Aside0.mk (Kd.R_lower (Kd.R_new' (Kd.R_new' (Kd.R_new' ho0 (Kd.R_lt (by (with_reducible repeat (first | apply Kd.R_alloc | apply Kd.R_drewN | apply Kd.R_drew)); exact HO155.out))) (Kd.R_lt (by (with_reducible repeat (first | apply Kd.R_alloc | apply Kd.R_drewN | apply Kd.R_drew)); exact HO159.out))) (Kd.R_lt (by (with_reducible repeat (first | apply Kd.R_alloc | apply Kd.R_drewN | apply Kd.R_drew)); exact HO166.out))) (below_size (by repeat (first | (with_reducible first | exact HB.out | apply below_alloc | apply pw_below_drewN | apply below_drew1) | exact HB.out)))); have n6_ := Aside0.mk (below_step (by repeat (first | (with_reducible first | exact HB.out | apply below_alloc | apply pw_below_drewN | apply below_drew1) | exact HB.out)) hb); clear HO155; clear HO159; clear HO163; clear HO166; clear HO170; clear HB; have HO155 := n0_; have HO159 := n1_; have HO163 := n2_; have HO166 := n3_; have HO170 := n4_; have HO173 := n5_; have HB := n6_; clear n0_ n1_ n2_ n3_ n4_ n5_ n6_; (try clear hb); (try clear hb2); (try clear hk); (try clear hi); (try clear ho0); obtain ⟨Ao26, co26, eo26⟩ := Kd.R_slice HO173.out; subst eo26) | ((with_reducible refine gate_callee (f := 43) rfl ?_); refine goesL_ (some 28) rfl rfl Try.func43 (by kernel_rfl) rfl #[.slice Ao26 t171.length co26] rfl (by (try simp only [List.map_toArray, List.map_cons, List.map_nil]); first | done | rfl | (simp only [List.length_drop, List.length_take]; rfl)) ?_; (with_reducible refine (hist_May.calls _ _ t171 t174 _ ?side1 ?side2 A19.out).mono ?_); (case side1 => repeat (first | exact (Kd.R_reads' HO173.out).2.2 | (with_reducible refine Kd.C_alloc ?_ _) | (with_reducible refine Kd.C_drewN ?_ _) | (with_reducible refine Kd.C_drew ?_))); (case side2 => exact (Kd.R_reads' HO173.out).2.1); rintro e w27 ⟨rfl, hb⟩; refine ⟨_, rfl, ?_⟩; have n0_ := Aside0.mk (Kd.R_below (by (with_reducible repeat (first | apply Kd.R_alloc | apply Kd.R_drewN | apply Kd.R_drew)); exact HO155.out) hb); have n1_ := Aside0.mk (Kd.R_below (by (with_reducible repeat (first | apply Kd.R_alloc | apply Kd.R_drewN | apply Kd.R_drew)); exact HO159.out) hb); have n2_ := Aside0.mk (Kd.R_below (by (with_reducible repeat (first | apply Kd.R_alloc | apply Kd.R_drewN | apply Kd.R_drew)); exact HO163.out) hb); have n3_ := Aside0.mk (Kd.R_below (by (with_reducible repeat (first | apply Kd.R_alloc | apply Kd.R_drewN | apply Kd.R_drew)); exact HO166.out) hb); have n4_ := Aside0.mk (Kd.R_below (by (with_reducible repeat (first | apply Kd.R_alloc | apply Kd.R_drewN | apply Kd.R_drew)); exact HO170.out) hb); have n5_ := Aside0.mk (Kd.R_below (by (with_reducible repeat (first | apply Kd.R_alloc | apply Kd.R_drewN | apply Kd.R_drew)); exact HO173.out) hb); have n6_ := Aside0.mk (below_step (by repeat (first | (with_reducible first | exact HB.out | apply below_alloc | apply pw_below_drewN | apply below_drew1) | exact HB.out)) hb); clear HO155; clear HO159; clear HO163; clear HO166; clear HO170; clear HO173; clear HB; have HO155 := n0_; have HO159 := n1_; have HO163 := n2_; have HO166 := n3_; have HO170 := n4_; have HO173 := n5_; have HB := n6_; clear n0_ n1_ n2_ n3_ n4_ n5_ n6_; (try clear hb); (try clear hb2); (try clear hk); (try clear hi)))
        go_meet
        case rel => exact ⟨_, (true), (by first | rfl | (simp; done) | (simp [*]; done)), H', ⟨by first | omega | exact Nat.le_refl _⟩, ⟨by (with_reducible repeat (first | apply Kd.R_alloc | apply Kd.R_drewN | apply Kd.R_drew)); exact Kd.R_mono HO155.out (fun _ hk => trivial)⟩, ⟨by (with_reducible repeat (first | apply Kd.R_alloc | apply Kd.R_drewN | apply Kd.R_drew)); exact HO163.out⟩, ⟨by (with_reducible repeat (first | apply Kd.R_alloc | apply Kd.R_drewN | apply Kd.R_drew)); exact HO170.out⟩, ⟨by repeat (first | (with_reducible first | exact HB.out | apply below_alloc | apply pw_below_drewN | apply below_drew1) | exact HB.out)⟩⟩
    · rw [if_neg c20] at H
      have c20b0 : (t174 == t156) = false := beq_eq_false_iff_ne.mpr c20
      have c20b1 : (t174 != t156) = true := bne_iff_ne.mpr c20
      (first | rw [c20b0] | (simp only [i64_w, i32_w]; rw [c20b0]) | skip)
      have H' := Aside0.mk H
      clear H
      go_wp2_with (first | ((with_reducible refine gate_callee (f := 39) rfl ?_); refine goesL_ (some 27) rfl rfl Try.func39 (by kernel_rfl) rfl #[.slice Ao10 t153.length co10] rfl (by (try simp only [List.map_toArray, List.map_cons, List.map_nil]); first | done | rfl | (simp only [List.length_drop, List.length_take]; rfl)) ?_; (with_reducible refine (boscagelaw32_few.calls _ _ t153 t171 _ ?side1 ?side2 A18.out).mono ?_); (case side1 => repeat (first | exact (Kd.R_reads' HO155.out).2.2 | (with_reducible refine Kd.C_alloc ?_ _) | (with_reducible refine Kd.C_drewN ?_ _) | (with_reducible refine Kd.C_drew ?_))); (case side2 => exact (Kd.R_reads' HO155.out).2.1); rintro e w28 ⟨v172, rfl, ho0, hb⟩; refine ⟨_, rfl, ?_⟩; have n0_ := Aside0.mk (Kd.R_elder' (by (with_reducible repeat (first | apply Kd.R_alloc | apply Kd.R_drewN | apply Kd.R_drew)); exact HO155.out) (Kd.R_base ho0) hb); have n1_ := Aside0.mk (Kd.R_elder' (by (with_reducible repeat (first | apply Kd.R_alloc | apply Kd.R_drewN | apply Kd.R_drew)); exact HO159.out) (Kd.R_base ho0) hb); have n2_ := Aside0.mk (Kd.R_below (by (with_reducible repeat (first | apply Kd.R_alloc | apply Kd.R_drewN | apply Kd.R_drew)); exact HO163.out) hb); have n3_ := Aside0.mk (Kd.R_elder' (by (with_reducible repeat (first | apply Kd.R_alloc | apply Kd.R_drewN | apply Kd.R_drew)); exact HO166.out) (Kd.R_base ho0) hb); have n4_ := Aside0.mk (Kd.R_below (by (with_reducible repeat (first | apply Kd.R_alloc | apply Kd.R_drewN | apply Kd.R_drew)); exact HO170.out) hb); have n5_ := Aside0.mk (Kd.R_lower (Kd.R_new' (Kd.R_new' (Kd.R_new' ho0 (Kd.R_lt (by (with_reducible repeat (first | apply Kd.R_alloc | apply Kd.R_drewN | apply Kd.R_drew)); exact HO155.out))) (Kd.R_lt (by (with_reducible repeat (first | apply Kd.R_alloc | apply Kd.R_drewN | apply Kd.R_drew)); exact HO159.out))) (Kd.R_lt (by (with_reducible repeat (first | apply Kd.R_alloc | apply Kd.R_drewN | apply Kd.R_drew)); exact HO166.out))) (below_size (by repeat (first | (with_reducible first | exact HB.out | apply below_alloc | apply pw_below_drewN | apply below_drew1) | exact HB.out)))); have n6_ := Aside0.mk (below_step (by repeat (first | (with_reducible first | exact HB.out | apply below_alloc | apply pw_below_drewN | apply below_drew1) | exact HB.out)) hb); clear HO155; clear HO159; clear HO163; clear HO166; clear HO170; clear HB; have HO155 := n0_; have HO159 := n1_; have HO163 := n2_; have HO166 := n3_; have HO170 := n4_; have HO173 := n5_; have HB := n6_; clear n0_ n1_ n2_ n3_ n4_ n5_ n6_; (try clear hb); (try clear hb2); (try clear hk); (try clear hi); (try clear ho0); obtain ⟨Ao29, co29, eo29⟩ := Kd.R_slice HO173.out; subst eo29) | ((with_reducible refine gate_callee (f := 43) rfl ?_); refine goesL_ (some 28) rfl rfl Try.func43 (by kernel_rfl) rfl #[.slice Ao29 t171.length co29] rfl (by (try simp only [List.map_toArray, List.map_cons, List.map_nil]); first | done | rfl | (simp only [List.length_drop, List.length_take]; rfl)) ?_; (with_reducible refine (hist_May.calls _ _ t171 t174 _ ?side1 ?side2 A19.out).mono ?_); (case side1 => repeat (first | exact (Kd.R_reads' HO173.out).2.2 | (with_reducible refine Kd.C_alloc ?_ _) | (with_reducible refine Kd.C_drewN ?_ _) | (with_reducible refine Kd.C_drew ?_))); (case side2 => exact (Kd.R_reads' HO173.out).2.1); rintro e w30 ⟨rfl, hb⟩; refine ⟨_, rfl, ?_⟩; have n0_ := Aside0.mk (Kd.R_below (by (with_reducible repeat (first | apply Kd.R_alloc | apply Kd.R_drewN | apply Kd.R_drew)); exact HO155.out) hb); have n1_ := Aside0.mk (Kd.R_below (by (with_reducible repeat (first | apply Kd.R_alloc | apply Kd.R_drewN | apply Kd.R_drew)); exact HO159.out) hb); have n2_ := Aside0.mk (Kd.R_below (by (with_reducible repeat (first | apply Kd.R_alloc | apply Kd.R_drewN | apply Kd.R_drew)); exact HO163.out) hb); have n3_ := Aside0.mk (Kd.R_below (by (with_reducible repeat (first | apply Kd.R_alloc | apply Kd.R_drewN | apply Kd.R_drew)); exact HO166.out) hb); have n4_ := Aside0.mk (Kd.R_below (by (with_reducible repeat (first | apply Kd.R_alloc | apply Kd.R_drewN | apply Kd.R_drew)); exact HO170.out) hb); have n5_ := Aside0.mk (Kd.R_below (by (with_reducible repeat (first | apply Kd.R_alloc | apply Kd.R_drewN | apply Kd.R_drew)); exact HO173.out) hb); have n6_ := Aside0.mk (below_step (by repeat (first | (with_reducible first | exact HB.out | apply below_alloc | apply pw_below_drewN | apply below_drew1) | exact HB.out)) hb); clear HO155; clear HO159; clear HO163; clear HO166; clear HO170; clear HO173; clear HB; have HO155 := n0_; have HO159 := n1_; have HO163 := n2_; have HO166 := n3_; have HO170 := n4_; have HO173 := n5_; have HB := n6_; clear n0_ n1_ n2_ n3_ n4_ n5_ n6_; (try clear hb); (try clear hb2); (try clear hk); (try clear hi)))
      go_meet
      case rel => exact ⟨_, (true), (by first | rfl | (simp; done) | (simp [*]; done)), H', ⟨by first | omega | exact Nat.le_refl _⟩, ⟨by (with_reducible repeat (first | apply Kd.R_alloc | apply Kd.R_drewN | apply Kd.R_drew)); exact Kd.R_mono HO155.out (fun _ hk => trivial)⟩, ⟨by (with_reducible repeat (first | apply Kd.R_alloc | apply Kd.R_drewN | apply Kd.R_drew)); exact HO163.out⟩, ⟨by (with_reducible repeat (first | apply Kd.R_alloc | apply Kd.R_drewN | apply Kd.R_drew)); exact HO170.out⟩, ⟨by repeat (first | (with_reducible first | exact HB.out | apply below_alloc | apply pw_below_drewN | apply below_drew1) | exact HB.out)⟩⟩
  case rest =>
    clear HC8
    try clear c2
    try clear p2
    try clear c3
    try clear c4
    try clear c9
    try clear c20
    try clear c20b0
    try clear c20b1
    try clear c21
    try clear c21b0
    try clear c21b1
    obtain ⟨kq, x40_7, rfl, HA, HJ7, HO_0, HO_4, HO_6, HB⟩ := hcut
    cases kq with
    | zero => exact absurd HA.out (by simp [boscagelaw32_HistOps.j0])
    | succ kj7 =>
      have H := HA.out
      clear HA
      simp only [boscagelaw32_HistOps.j0] at H
      by_cases c31 : x40_7 = true
      · subst c31
        have H1 : (some false) = some r := by rw [if_pos rfl] at H; exact H
        clear H
        have H := H1
        clear H1
        obtain rfl := Option.some.inj H
        go_wp2
        go_ret
        exact ⟨by first | rfl | (simp [errW_none, errW_some] <;> rfl) | (simp [*, errW_none, errW_some] <;> rfl), by repeat (first | (with_reducible first | exact HB.out | apply below_alloc | apply pw_below_drewN | apply below_drew1) | exact HB.out)⟩
      · replace c31 := Bool.eq_false_iff.mpr c31
        subst c31
        have H1 : (if t156 = 0 then ((ref32_Ops.f t153).bind fun t176 => (if (t160.length : Int) = (t176.length : Int) then ((boscageref32_Pending.f kj7 t153).bind fun t179 => ((boscagebase_SameInts.f kj7 t167 t179).bind fun t182 => (boscagelaw32_HistOps.j1 kj7 t160 t176 (!t182)))) else (boscagelaw32_HistOps.j1 kj7 t160 t176 true))) else (if (t160.length : Int) = 0 then (if (t167.length : Int) = 0 then ((boscagelaw32_works.f kj7).bind fun t175 => (some t175)) else (some false)) else (some false))) = some r := by rw [if_neg (show ¬ (false = true) by decide)] at H; exact H
        clear H
        have H := H1
        clear H1
        by_cases c32 : t156 = 0
        · rw [if_pos c32] at H
          have c32b0 : (t156 == 0) = true := beq_iff_eq.mpr c32
          have c32b1 : (t156 != 0) = false := bne_eq_false_iff_eq.mpr c32
          clear c32
          replace H := Option.bind_eq_some_iff.mp H
          obtain ⟨t176, A330, H⟩ := H
          replace H : (if (t160.length : Int) = (t176.length : Int) then ((boscageref32_Pending.f kj7 t153).bind fun t179 => ((boscagebase_SameInts.f kj7 t167 t179).bind fun t182 => (boscagelaw32_HistOps.j1 kj7 t160 t176 (!t182)))) else (boscagelaw32_HistOps.j1 kj7 t160 t176 true)) = some r := H
          have A33 := Aside0.mk A330
          clear A330
          have HC34 := Aside0.mk H
          clear H
          go_upto_region 10 with (first | ((with_reducible refine gate_callee (f := 45) rfl ?_); refine goesL_ (some 55) rfl rfl Try.func45 (by kernel_rfl) rfl #[.slice Ao10 t153.length co10] rfl (by (try simp only [List.map_toArray, List.map_cons, List.map_nil]); first | done | rfl | (simp only [List.length_drop, List.length_take]; rfl)) ?_; (with_reducible refine (ref32_Ops.calls _ _ t153 t176 _ ?side1 ?side2 A33.out).mono ?_); (case side1 => repeat (first | exact (Kd.R_reads' HO_0.out).2.2 | (with_reducible refine Kd.C_alloc ?_ _) | (with_reducible refine Kd.C_drewN ?_ _) | (with_reducible refine Kd.C_drew ?_))); (case side2 => exact (Kd.R_reads' HO_0.out).2.1); rintro e w35 ⟨v177, rfl, ho0, hb⟩; refine ⟨_, rfl, ?_⟩; have n0_ := Aside0.mk (Kd.R_below (by (with_reducible repeat (first | apply Kd.R_alloc | apply Kd.R_drewN | apply Kd.R_drew)); exact HO_0.out) hb); have n1_ := Aside0.mk (Kd.R_below (by (with_reducible repeat (first | apply Kd.R_alloc | apply Kd.R_drewN | apply Kd.R_drew)); exact HO_4.out) hb); have n2_ := Aside0.mk (Kd.R_below (by (with_reducible repeat (first | apply Kd.R_alloc | apply Kd.R_drewN | apply Kd.R_drew)); exact HO_6.out) hb); have n3_ := Aside0.mk (Kd.R_lower ho0 (below_size (by repeat (first | (with_reducible first | exact HB.out | apply below_alloc | apply pw_below_drewN | apply below_drew1) | exact HB.out)))); have n4_ := Aside0.mk (below_step (by repeat (first | (with_reducible first | exact HB.out | apply below_alloc | apply pw_below_drewN | apply below_drew1) | exact HB.out)) hb); clear HO_0; clear HO_4; clear HO_6; clear HB; have HO_0 := n0_; have HO_4 := n1_; have HO_6 := n2_; have HO178 := n3_; have HB := n4_; clear n0_ n1_ n2_ n3_ n4_; (try clear hb); (try clear hb2); (try clear hk); (try clear hi); (try clear ho0)))
          (try simp only [Act.put, List.setIfInBounds_toArray, List.set_cons_zero, List.set_cons_succ])
          go_cut [67] (fun v67 wc => ∃ (kq : Nat) (x67_33 : Bool), v67 = .bool x67_33 ∧ Aside0 (boscagelaw32_HistOps.j1 kq t160 t176 x67_33 = some r) ∧ Aside0 (kq ≤ kj7) ∧ Aside0 (Kd.R k78 78 wc w.heap.size (fun _ => True) v162 t160) ∧ Aside0 (Kd.R k80 80 wc w.heap.size (fun _ => True) v177 t176) ∧ Aside0 (Below w.heap.size w wc))
          case first =>
            have H := HC34.out
            clear HC34
            by_cases c36 : (t160.length : Int) = (t176.length : Int)
            · rw [if_pos c36] at H
              have c36b0 : ((t160.length : Int) == (t176.length : Int)) = true := beq_iff_eq.mpr c36
              have c36b1 : ((t160.length : Int) != (t176.length : Int)) = false := bne_eq_false_iff_eq.mpr c36
              have c36b2 : (t160.length == t176.length) = true := by first | simpa using c36 | (simp at c36 ⊢; omega)
              clear c36
              (first | rw [c36b0] | (simp only [i64_w, i32_w]; rw [c36b0]) | skip)
              replace H := Option.bind_eq_some_iff.mp H
              obtain ⟨t179, A370, H⟩ := H
              replace H : ((boscagebase_SameInts.f kj7 t167 t179).bind fun t182 => (boscagelaw32_HistOps.j1 kj7 t160 t176 (!t182))) = some r := H
              have A37 := Aside0.mk A370
              clear A370
              replace H := Option.bind_eq_some_iff.mp H
              obtain ⟨t182, A380, H⟩ := H
              replace H : (boscagelaw32_HistOps.j1 kj7 t160 t176 (!t182)) = some r := H
              have A38 := Aside0.mk A380
              clear A380
              have H' := Aside0.mk H
              clear H
              obtain ⟨Ao39, co39, eo39⟩ := Kd.R_slice HO_4.out
              subst eo39
              obtain ⟨Ao40, co40, eo40⟩ := Kd.R_slice HO178.out
              subst eo40
              go_wp2_with (first | (go_at_call 46; (with_reducible refine (boscageref32_Pending.calls kj7 _ _ t153 t179 _ ?side1 ?side2 A37.out).mono ?_); (case side1 => repeat (first | exact (Kd.R_reads' HO_0.out).2.2 | (with_reducible refine Kd.C_alloc ?_ _) | (with_reducible refine Kd.C_drewN ?_ _) | (with_reducible refine Kd.C_drew ?_))); (case side2 => exact (Kd.R_reads' HO_0.out).2.1); rintro e w41 ⟨v180, rfl, ho0, hb⟩; have n0_ := Aside0.mk (Kd.R_below (by (with_reducible repeat (first | apply Kd.R_alloc | apply Kd.R_drewN | apply Kd.R_drew)); exact HO_0.out) hb); have n1_ := Aside0.mk (Kd.R_below (by (with_reducible repeat (first | apply Kd.R_alloc | apply Kd.R_drewN | apply Kd.R_drew)); exact HO_4.out) hb); have n2_ := Aside0.mk (Kd.R_elder' (by (with_reducible repeat (first | apply Kd.R_alloc | apply Kd.R_drewN | apply Kd.R_drew)); exact HO_6.out) (Kd.R_base ho0) hb); have n3_ := Aside0.mk (Kd.R_below (by (with_reducible repeat (first | apply Kd.R_alloc | apply Kd.R_drewN | apply Kd.R_drew)); exact HO178.out) hb); have n4_ := Aside0.mk (Kd.R_lower (Kd.R_new' ho0 (Kd.R_lt (by (with_reducible repeat (first | apply Kd.R_alloc | apply Kd.R_drewN | apply Kd.R_drew)); exact HO_6.out))) (below_size (by repeat (first | (with_reducible first | exact HB.out | apply below_alloc | apply pw_below_drewN | apply below_drew1) | exact HB.out)))); have n5_ := Aside0.mk (below_step (by repeat (first | (with_reducible first | exact HB.out | apply below_alloc | apply pw_below_drewN | apply below_drew1) | exact HB.out)) hb); clear HO_0; clear HO_4; clear HO_6; clear HO178; clear HB; have HO_0 := n0_; have HO_4 := n1_; have HO_6 := n2_; have HO178 := n3_; have HO181 := n4_; have HB := n5_; clear n0_ n1_ n2_ n3_ n4_ n5_; (try clear hb); (try clear hb2); (try clear hk); (try clear hi); (try clear ho0); obtain ⟨Ao42, co42, eo42⟩ := Kd.R_slice HO_6.out; subst eo42; obtain ⟨Ao43, co43, eo43⟩ := Kd.R_slice HO181.out; subst eo43) | (go_at_call 17; (with_reducible refine (boscagebase_SameInts.calls kj7 _ _ t167 _ _ t179 t182 _ ?side1 ?side2 ?side3 ?side4 A38.out).mono ?_); (case side1 => repeat (first | exact (Kd.R_reads' HO_6.out).2.2 | (with_reducible refine Kd.C_alloc ?_ _) | (with_reducible refine Kd.C_drewN ?_ _) | (with_reducible refine Kd.C_drew ?_))); (case side2 => exact (Kd.R_reads' HO_6.out).2.1); (case side3 => repeat (first | exact (Kd.R_reads' HO181.out).2.2 | (with_reducible refine Kd.C_alloc ?_ _) | (with_reducible refine Kd.C_drewN ?_ _) | (with_reducible refine Kd.C_drew ?_))); (case side4 => exact (Kd.R_reads' HO181.out).2.1); rintro e w' ⟨rfl, ⟨nd, rfl⟩⟩))
              go_meet
              case rel => exact ⟨_, (!t182), (by first | rfl | (simp; done) | (simp [*]; done)), H', ⟨by have := HJ7.out; first | omega | exact Nat.le_refl _⟩, ⟨by (with_reducible repeat (first | apply Kd.R_alloc | apply Kd.R_drewN | apply Kd.R_drew)); exact HO_4.out⟩, ⟨by (with_reducible repeat (first | apply Kd.R_alloc | apply Kd.R_drewN | apply Kd.R_drew)); exact HO178.out⟩, ⟨by repeat (first | (with_reducible first | exact HB.out | apply below_alloc | apply pw_below_drewN | apply below_drew1) | exact HB.out)⟩⟩
            · rw [if_neg c36] at H
              have c36b0 : ((t160.length : Int) == (t176.length : Int)) = false := beq_eq_false_iff_ne.mpr c36
              have c36b1 : ((t160.length : Int) != (t176.length : Int)) = true := bne_iff_ne.mpr c36
              have c36b2 : (t160.length == t176.length) = false := by first | simpa using c36 | (simp at c36 ⊢; omega)
              (first | rw [c36b0] | (simp only [i64_w, i32_w]; rw [c36b0]) | skip)
              have H' := Aside0.mk H
              clear H
              obtain ⟨Ao44, co44, eo44⟩ := Kd.R_slice HO_4.out
              subst eo44
              obtain ⟨Ao45, co45, eo45⟩ := Kd.R_slice HO178.out
              subst eo45
              go_wp2
              go_meet
              case rel => exact ⟨_, (true), (by first | rfl | (simp; done) | (simp [*]; done)), H', ⟨by have := HJ7.out; first | omega | exact Nat.le_refl _⟩, ⟨by (with_reducible repeat (first | apply Kd.R_alloc | apply Kd.R_drewN | apply Kd.R_drew)); exact HO_4.out⟩, ⟨by (with_reducible repeat (first | apply Kd.R_alloc | apply Kd.R_drewN | apply Kd.R_drew)); exact HO178.out⟩, ⟨by repeat (first | (with_reducible first | exact HB.out | apply below_alloc | apply pw_below_drewN | apply below_drew1) | exact HB.out)⟩⟩
          case rest =>
            clear HC34
            try clear c2
            try clear p2
            try clear c3
            try clear c4
            try clear c9
            try clear c20
            try clear c20b0
            try clear c20b1
            try clear c21
            try clear c21b0
            try clear c21b1
            try clear c31
            try clear c32
            try clear c32b0
            try clear c32b1
            try clear c36
            try clear c36b0
            try clear c36b1
            try clear c36b2
            try clear c39
            try clear c40
            try clear c41
            try clear c42
            try clear c43
            try clear c45
            try clear p2
            obtain ⟨kq, x67_33, rfl, HA, HJ33, HO_4, HO_8, HB⟩ := hcut
            cases kq with
            | zero => exact absurd HA.out (by simp [boscagelaw32_HistOps.j1])
            | succ kj33 =>
              have H := HA.out
              clear HA
              simp only [boscagelaw32_HistOps.j1] at H
              by_cases c46 : x67_33 = true
              · subst c46
                have H1 : (some false) = some r := by rw [if_pos rfl] at H; exact H
                clear H
                have H := H1
                clear H1
                obtain rfl := Option.some.inj H
                go_wp2
                go_ret
                exact ⟨by first | rfl | (simp [errW_none, errW_some] <;> rfl) | (simp [*, errW_none, errW_some] <;> rfl), by repeat (first | (with_reducible first | exact HB.out | apply below_alloc | apply pw_below_drewN | apply below_drew1) | exact HB.out)⟩
              · replace c46 := Bool.eq_false_iff.mpr c46
                subst c46
                have H1 : (boscagelaw32_HistOps.l0 kj33 t160 t176 0) = some r := by rw [if_neg (show ¬ (false = true) by decide)] at H; exact H
                clear H
                have H := H1
                clear H1
                have H' := Aside0.mk H
                clear H
                go_wp2
                go_loopg [9] kj33 (fun kq v9 w' => ∃ (x9_3 : Int), v9 = .int .i64 x9_3 ∧ Aside0 (boscagelaw32_HistOps.l0 kq t160 t176 x9_3 = some r) ∧ Aside0 (kq ≤ kj33) ∧ Aside0 (Kd.R k78 78 w' w.heap.size (fun _ => True) v162 t160) ∧ Aside0 (Kd.R k80 80 w' w.heap.size (fun _ => True) v177 t176) ∧ Aside0 (Below w.heap.size w w'))
                case atStart => exact ⟨(0), (by first | rfl | (simp; done) | (simp [*]; done)), H', ⟨Nat.le_refl _⟩, ⟨by (with_reducible repeat (first | apply Kd.R_alloc | apply Kd.R_drewN | apply Kd.R_drew)); exact HO_4.out⟩, ⟨by (with_reducible repeat (first | apply Kd.R_alloc | apply Kd.R_drewN | apply Kd.R_drew)); exact HO_8.out⟩, ⟨by repeat (first | (with_reducible first | exact HB.out | apply below_alloc | apply pw_below_drewN | apply below_drew1) | exact HB.out)⟩⟩
                case round =>
                  clear H'
                  try clear c2
                  try clear p2
                  try clear c3
                  try clear c4
                  try clear c9
                  try clear c20
                  try clear c20b0
                  try clear c20b1
                  try clear c21
                  try clear c21b0
                  try clear c21b1
                  try clear c31
                  try clear c32
                  try clear c32b0
                  try clear c32b1
                  try clear c36
                  try clear c36b0
                  try clear c36b1
                  try clear c36b2
                  try clear c39
                  try clear c40
                  try clear c41
                  try clear c42
                  try clear c43
                  try clear c45
                  try clear c46
                  try clear p2
                  obtain ⟨x9_3, rfl, HA, HK3, HO_4, HO_8, HB⟩ := hrel
                  cases gk with
                  | zero => exact absurd HA.out (by simp [boscagelaw32_HistOps.l0])
                  | succ k3 =>
                    have H := HA.out
                    clear HA
                    simp only [boscagelaw32_HistOps.l0] at H
                    by_cases c47 : x9_3 < (t176.length : Int)
                    · rw [if_pos c47] at H
                      have c47b0 : decide (x9_3 < (t176.length : Int)) = true := decide_eq_true c47
                      clear c47
                      by_cases c48 : 0 ≤ x9_3
                      · rw [if_pos c48] at H
                        have c48b0 : decide (0 ≤ x9_3) = true := decide_eq_true c48
                        clear c48
                        by_cases c49 : x9_3 < (t160.length : Int)
                        · rw [if_pos c49] at H
                          have c49b0 : decide (x9_3 < (t160.length : Int)) = true := decide_eq_true c49
                          clear c49
                          replace H := Option.bind_eq_some_iff.mp H
                          obtain ⟨⟨t185, t186, t187, t188, t189, t190, t191, t192, t193, t194, t195, t196, t197, t198⟩, A500, H⟩ := H
                          replace H : (if (!(((rd_T78 t160 x9_3).f0) == t185) || ((!(((rd_T78 t160 x9_3).f1.f0) == t186) || (!((((rd_T78 t160 x9_3).f1.f1).toList) == t187.toList) || (!((((rd_T78 t160 x9_3).f1.f2).toList) == t188.toList) || (!((((rd_T78 t160 x9_3).f1.f3).toList) == t189.toList) || (!(((rd_T78 t160 x9_3).f1.f4) == t190)))))) || ((!(((rd_T78 t160 x9_3).f2.f0) == t191) || (!(((rd_T78 t160 x9_3).f2.f1) == t192) || (!((((rd_T78 t160 x9_3).f2.f2).toList) == t193.toList) || (!((((rd_T78 t160 x9_3).f2.f3).toList) == t194.toList) || (!(((rd_T78 t160 x9_3).f2.f4) == t195)))))) || (!(((rd_T78 t160 x9_3).f3) == t196) || (!(((rd_T78 t160 x9_3).f4) == t197) || (!(((rd_T78 t160 x9_3).f5) == t198))))))) = true then (some false) else (boscagelaw32_HistOps.l0 k3 t160 t176 (wrap64 (x9_3 + 1)))) = some r := H
                          have A50 := Aside0.mk A500
                          clear A500
                          by_cases c51 : (!(((rd_T78 t160 x9_3).f0) == t185) || ((!(((rd_T78 t160 x9_3).f1.f0) == t186) || (!((((rd_T78 t160 x9_3).f1.f1).toList) == t187.toList) || (!((((rd_T78 t160 x9_3).f1.f2).toList) == t188.toList) || (!((((rd_T78 t160 x9_3).f1.f3).toList) == t189.toList) || (!(((rd_T78 t160 x9_3).f1.f4) == t190)))))) || ((!(((rd_T78 t160 x9_3).f2.f0) == t191) || (!(((rd_T78 t160 x9_3).f2.f1) == t192) || (!((((rd_T78 t160 x9_3).f2.f2).toList) == t193.toList) || (!((((rd_T78 t160 x9_3).f2.f3).toList) == t194.toList) || (!(((rd_T78 t160 x9_3).f2.f4) == t195)))))) || (!(((rd_T78 t160 x9_3).f3) == t196) || (!(((rd_T78 t160 x9_3).f4) == t197) || (!(((rd_T78 t160 x9_3).f5) == t198))))))) = true
                          · rw [if_pos c51] at H
                            have c51b0 : (!(((rd_T78 t160 x9_3).f0) == t185) || ((!(((rd_T78 t160 x9_3).f1.f0) == t186) || (!((((rd_T78 t160 x9_3).f1.f1).toList) == t187.toList) || (!((((rd_T78 t160 x9_3).f1.f2).toList) == t188.toList) || (!((((rd_T78 t160 x9_3).f1.f3).toList) == t189.toList) || (!(((rd_T78 t160 x9_3).f1.f4) == t190)))))) || ((!(((rd_T78 t160 x9_3).f2.f0) == t191) || (!(((rd_T78 t160 x9_3).f2.f1) == t192) || (!((((rd_T78 t160 x9_3).f2.f2).toList) == t193.toList) || (!((((rd_T78 t160 x9_3).f2.f3).toList) == t194.toList) || (!(((rd_T78 t160 x9_3).f2.f4) == t195)))))) || (!(((rd_T78 t160 x9_3).f3) == t196) || (!(((rd_T78 t160 x9_3).f4) == t197) || (!(((rd_T78 t160 x9_3).f5) == t198))))))) = true := c51
                            clear c51
                            obtain rfl := Option.some.inj H
                            obtain ⟨Ao52, co52, eo52⟩ := Kd.R_slice HO_8.out
                            subst eo52
                            try go_wp2
                            have n0_ := Aside0.mk (Kd.R_drew HO_4.out)
                            have n1_ := Aside0.mk (Kd.R_drew HO_8.out)
                            have n2_ := Aside0.mk (below_drew1 HB.out)
                            clear HO_4
                            clear HO_8
                            clear HB
                            have HO_4 := n0_
                            have HO_8 := n1_
                            have HB := n2_
                            clear n0_ n1_ n2_
                            obtain ⟨Ao54, co54, eo54⟩ := Kd.R_slice HO_4.out
                            (first | subst eo54 | (injection eo54 with f1_ f2_ f3_; have f4_ := f1_.symm; have f5_ := f3_.symm; clear f1_ f2_ f3_; subst f4_; subst f5_))
                            have p183 : 0 ≤ (x9_3 : Int) := of_decide_eq_true (by first | (with_reducible assumption) | assumption)
                            have q183 : x9_3 < (t160.length : Int) := of_decide_eq_true (by first | (with_reducible assumption) | assumption)
                            obtain ⟨ad183, e183, hx183_0, hx183_1, hx183_2, hx183_3, hx183_4, hx183_5, hx183_6, hx183_7, hx183_8, hx183_9, hx183_10, hx183_11, hx183_12, hx183_13⟩ := at_T78 (Kd.R_reads' HO_4.out).2.2 x9_3 p183 q183
                            cases e183
                            replace p183 := eq_true p183
                            replace q183 := eq_true q183
                            have p184 : 0 ≤ (x9_3 : Int) := of_decide_eq_true (by first | (with_reducible assumption) | assumption)
                            have q184 : x9_3 < (t176.length : Int) := of_decide_eq_true (by first | (with_reducible assumption) | assumption)
                            obtain ⟨ad184, e184, hx184_0, hx184_1, hx184_2, hx184_3, hx184_4, hx184_5, hx184_6, hx184_7, hx184_8, hx184_9, hx184_10, hx184_11, hx184_12, hx184_13⟩ := at_T80 (Kd.R_reads' HO_8.out).2.2 x9_3 p184 q184
                            cases e184
                            replace p184 := eq_true p184
                            replace q184 := eq_true q184
                            refine start_ (n := 10) (S := fun w' => w'.cell? (ad183.add ((x9_3).toNat * 14)) = some (.int .i64 ((rd_T78 t160 x9_3).f0)) ∧ w'.cell? ⟨(ad183.add ((x9_3).toNat * 14)).block, (ad183.add ((x9_3).toNat * 14)).off + 1, none⟩ = some (.int .i64 ((rd_T78 t160 x9_3).f1.f0)) ∧ w'.cell? ⟨(ad183.add ((x9_3).toNat * 14)).block, (ad183.add ((x9_3).toNat * 14)).off + 2, none⟩ = some (.string ((rd_T78 t160 x9_3).f1.f1)) ∧ w'.cell? ⟨(ad183.add ((x9_3).toNat * 14)).block, (ad183.add ((x9_3).toNat * 14)).off + 3, none⟩ = some (.string ((rd_T78 t160 x9_3).f1.f2)) ∧ w'.cell? ⟨(ad183.add ((x9_3).toNat * 14)).block, (ad183.add ((x9_3).toNat * 14)).off + 4, none⟩ = some (.string ((rd_T78 t160 x9_3).f1.f3)) ∧ w'.cell? ⟨(ad183.add ((x9_3).toNat * 14)).block, (ad183.add ((x9_3).toNat * 14)).off + 5, none⟩ = some (.int .i64 ((rd_T78 t160 x9_3).f1.f4)) ∧ w'.cell? ⟨(ad183.add ((x9_3).toNat * 14)).block, (ad183.add ((x9_3).toNat * 14)).off + 6, none⟩ = some (.int .i64 ((rd_T78 t160 x9_3).f2.f0)) ∧ w'.cell? ⟨(ad183.add ((x9_3).toNat * 14)).block, (ad183.add ((x9_3).toNat * 14)).off + 7, none⟩ = some (.bool ((rd_T78 t160 x9_3).f2.f1)) ∧ w'.cell? ⟨(ad183.add ((x9_3).toNat * 14)).block, (ad183.add ((x9_3).toNat * 14)).off + 8, none⟩ = some (.string ((rd_T78 t160 x9_3).f2.f2)) ∧ w'.cell? ⟨(ad183.add ((x9_3).toNat * 14)).block, (ad183.add ((x9_3).toNat * 14)).off + 9, none⟩ = some (.string ((rd_T78 t160 x9_3).f2.f3)) ∧ w'.cell? ⟨(ad183.add ((x9_3).toNat * 14)).block, (ad183.add ((x9_3).toNat * 14)).off + 10, none⟩ = some (.int .i64 ((rd_T78 t160 x9_3).f2.f4)) ∧ w'.cell? ⟨(ad183.add ((x9_3).toNat * 14)).block, (ad183.add ((x9_3).toNat * 14)).off + 11, none⟩ = some (.bool ((rd_T78 t160 x9_3).f3)) ∧ w'.cell? ⟨(ad183.add ((x9_3).toNat * 14)).block, (ad183.add ((x9_3).toNat * 14)).off + 12, none⟩ = some (.int .i64 ((rd_T78 t160 x9_3).f4)) ∧ w'.cell? ⟨(ad183.add ((x9_3).toNat * 14)).block, (ad183.add ((x9_3).toNat * 14)).off + 13, none⟩ = some (.int .i64 ((rd_T78 t160 x9_3).f5)) ∧ w'.cell? (ad184.add ((x9_3).toNat * 14)) = some (.int .i64 ((rd_T80 t176 x9_3).f0)) ∧ w'.cell? ⟨(ad184.add ((x9_3).toNat * 14)).block, (ad184.add ((x9_3).toNat * 14)).off + 1, none⟩ = some (.int .i64 ((rd_T80 t176 x9_3).f1.f0)) ∧ w'.cell? ⟨(ad184.add ((x9_3).toNat * 14)).block, (ad184.add ((x9_3).toNat * 14)).off + 2, none⟩ = some (.string ((rd_T80 t176 x9_3).f1.f1)) ∧ w'.cell? ⟨(ad184.add ((x9_3).toNat * 14)).block, (ad184.add ((x9_3).toNat * 14)).off + 3, none⟩ = some (.string ((rd_T80 t176 x9_3).f1.f2)) ∧ w'.cell? ⟨(ad184.add ((x9_3).toNat * 14)).block, (ad184.add ((x9_3).toNat * 14)).off + 4, none⟩ = some (.string ((rd_T80 t176 x9_3).f1.f3)) ∧ w'.cell? ⟨(ad184.add ((x9_3).toNat * 14)).block, (ad184.add ((x9_3).toNat * 14)).off + 5, none⟩ = some (.int .i64 ((rd_T80 t176 x9_3).f1.f4)) ∧ w'.cell? ⟨(ad184.add ((x9_3).toNat * 14)).block, (ad184.add ((x9_3).toNat * 14)).off + 6, none⟩ = some (.int .i64 ((rd_T80 t176 x9_3).f2.f0)) ∧ w'.cell? ⟨(ad184.add ((x9_3).toNat * 14)).block, (ad184.add ((x9_3).toNat * 14)).off + 7, none⟩ = some (.bool ((rd_T80 t176 x9_3).f2.f1)) ∧ w'.cell? ⟨(ad184.add ((x9_3).toNat * 14)).block, (ad184.add ((x9_3).toNat * 14)).off + 8, none⟩ = some (.string ((rd_T80 t176 x9_3).f2.f2)) ∧ w'.cell? ⟨(ad184.add ((x9_3).toNat * 14)).block, (ad184.add ((x9_3).toNat * 14)).off + 9, none⟩ = some (.string ((rd_T80 t176 x9_3).f2.f3)) ∧ w'.cell? ⟨(ad184.add ((x9_3).toNat * 14)).block, (ad184.add ((x9_3).toNat * 14)).off + 10, none⟩ = some (.int .i64 ((rd_T80 t176 x9_3).f2.f4)) ∧ w'.cell? ⟨(ad184.add ((x9_3).toNat * 14)).block, (ad184.add ((x9_3).toNat * 14)).off + 11, none⟩ = some (.bool ((rd_T80 t176 x9_3).f3)) ∧ w'.cell? ⟨(ad184.add ((x9_3).toNat * 14)).block, (ad184.add ((x9_3).toNat * 14)).off + 12, none⟩ = some (.int .i64 ((rd_T80 t176 x9_3).f4)) ∧ w'.cell? ⟨(ad184.add ((x9_3).toNat * 14)).block, (ad184.add ((x9_3).toNat * 14)).off + 13, none⟩ = some (.int .i64 ((rd_T80 t176 x9_3).f5))) (ds := []) #[false, false, false, false, false, false, false, false, false, false] (by kernel_rfl) rfl rfl ⟨hx183_0, hx183_1, hx183_2, hx183_3, hx183_4, hx183_5, hx183_6, hx183_7, hx183_8, hx183_9, hx183_10, hx183_11, hx183_12, hx183_13, hx184_0, hx184_1, hx184_2, hx184_3, hx184_4, hx184_5, hx184_6, hx184_7, hx184_8, hx184_9, hx184_10, hx184_11, hx184_12, hx184_13⟩ (fun hHeld => ?_); refine with_tabW boscagelaw32_HistOps.tab15 boscagelaw32_HistOps.bits15 (fun HT_ HW_ => ?_)
                            generalize wr.drew = w53 at HO_4 HO_8 HB hx183_0 hx183_1 hx183_10 hx183_11 hx183_12 hx183_13 hx183_2 hx183_3 hx183_4 hx183_5 hx183_6 hx183_7 hx183_8 hx183_9 hx184_0 hx184_1 hx184_10 hx184_11 hx184_12 hx184_13 hx184_2 hx184_3 hx184_4 hx184_5 hx184_6 hx184_7 hx184_8 hx184_9 hHeld ⊢
                            refine pure_ (i := 0) (N := some 74) (v := ?_) (a' := ?_) #[true, false, false, false, false, false, false, false, false, false] rfl rfl (any_of HT_.out (by kernel_rfl)) (fun _ _ _ h => h) (Or.inl ⟨by rfl, ?_⟩) ?_ ?_
                            rotate_left
                            · intro w'
                              go_simp
                              with_reducible rfl
                            rotate_left
                            · simp only [Act.put, List.setIfInBounds_toArray, List.set_cons_zero, List.set_cons_succ, i64_w, i32_w]
                              rfl
                            refine pure_ (i := 1) (N := some 75) (v := ?_) (a' := ?_) #[true, true, false, false, false, false, false, false, false, false] rfl rfl (any_of HT_.out (by kernel_rfl)) (fun _ _ _ h => h) (Or.inl ⟨by rfl, ?_⟩) ?_ ?_
                            rotate_left
                            · intro w'
                              go_simp
                              with_reducible rfl
                            rotate_left
                            · simp only [Act.put, List.setIfInBounds_toArray, List.set_cons_zero, List.set_cons_succ, i64_w, i32_w]
                              rfl
                            refine pure_ (i := 2) (N := some 76) (v := ?_) (a' := ?_) #[true, true, true, false, false, false, false, false, false, false] rfl rfl (any_of HT_.out (by kernel_rfl)) (fun _ _ _ h => h) (Or.inl ⟨by rfl, ?_⟩) ?_ ?_
                            rotate_left
                            · intro w'
                              go_simp
                              with_reducible rfl
                            rotate_left
                            · simp only [Act.put, List.setIfInBounds_toArray, List.set_cons_zero, List.set_cons_succ, i64_w, i32_w]
                              rfl
                            refine pure_ (i := 4) (N := some 78) (v := ?_) (a' := ?_) #[true, true, true, false, true, false, false, false, false, false] rfl rfl (any_of HT_.out (by kernel_rfl)) (fun _ _ _ h => h) (Or.inl ⟨by rfl, ?_⟩) ?_ ?_
                            rotate_left
                            · intro w'
                              go_simp
                              with_reducible rfl
                            rotate_left
                            · simp only [Act.put, List.setIfInBounds_toArray, List.set_cons_zero, List.set_cons_succ, i64_w, i32_w]
                              rfl
                            refine pure_ (i := 5) (N := some 79) (v := ?_) (a' := ?_) #[true, true, true, false, true, true, false, false, false, false] rfl rfl (any_of HT_.out (by kernel_rfl)) (fun _ _ _ h => h) (Or.inl ⟨by rfl, ?_⟩) ?_ ?_
                            rotate_left
                            · intro w'
                              go_simp
                              with_reducible rfl
                            rotate_left
                            · simp only [Act.put, List.setIfInBounds_toArray, List.set_cons_zero, List.set_cons_succ, i64_w, i32_w]
                              rfl
                            refine pure_ (i := 6) (N := some 80) (v := ?_) (a' := ?_) #[true, true, true, false, true, true, true, false, false, false] rfl rfl (any_of HT_.out (by kernel_rfl)) (fun _ _ _ h => h) (Or.inl ⟨by rfl, ?_⟩) ?_ ?_
                            rotate_left
                            · intro w'
                              go_simp
                              with_reducible rfl
                            rotate_left
                            · simp only [Act.put, List.setIfInBounds_toArray, List.set_cons_zero, List.set_cons_succ, i64_w, i32_w]
                              rfl
                            refine take_ (i := 3) (N := some 77) (v := ?_) (a' := ?_) #[true, true, true, true, true, true, true, false, false, false] rfl rfl (take_ofW HT_.out HW_.out (by kernel_rfl)) (fun _ _ _ h => h) (Or.inl ⟨by rfl, ?_⟩) hHeld ?_ ?_
                            rotate_left
                            · rintro w' ⟨s0, s1, s2, s3, s4, s5, s6, s7, s8, s9, s10, s11, s12, s13, s14, s15, s16, s17, s18, s19, s20, s21, s22, s23, s24, s25, s26, s27⟩
                              go_simp
                              with_reducible rfl
                            rotate_left
                            · simp only [Act.put, List.setIfInBounds_toArray, List.set_cons_zero, List.set_cons_succ, i64_w, i32_w]
                              rfl
                            refine take_ (i := 7) (N := some 81) (v := ?_) (a' := ?_) #[true, true, true, true, true, true, true, true, false, false] rfl rfl (take_ofW HT_.out HW_.out (by kernel_rfl)) (fun _ _ _ h => h) (Or.inl ⟨by rfl, ?_⟩) hHeld ?_ ?_
                            rotate_left
                            · rintro w' ⟨s0, s1, s2, s3, s4, s5, s6, s7, s8, s9, s10, s11, s12, s13, s14, s15, s16, s17, s18, s19, s20, s21, s22, s23, s24, s25, s26, s27⟩
                              go_simp
                              with_reducible rfl
                            rotate_left
                            · simp only [Act.put, List.setIfInBounds_toArray, List.set_cons_zero, List.set_cons_succ, i64_w, i32_w]
                              rfl
                            refine one_ (i := 8) (N := some 82) #[true, true, true, true, true, true, true, true, true, false] rfl rfl (one_of HT_.out (by kernel_rfl)) (by decide) (fun K hK => ?_)
                            refine goes_ Try.func47 (by kernel_rfl) rfl #[.agg #[.int .i64 ((rd_T80 t176 x9_3).f0), .int .i64 ((rd_T80 t176 x9_3).f1.f0), .string ((rd_T80 t176 x9_3).f1.f1), .string ((rd_T80 t176 x9_3).f1.f2), .string ((rd_T80 t176 x9_3).f1.f3), .int .i64 ((rd_T80 t176 x9_3).f1.f4), .int .i64 ((rd_T80 t176 x9_3).f2.f0), .bool ((rd_T80 t176 x9_3).f2.f1), .string ((rd_T80 t176 x9_3).f2.f2), .string ((rd_T80 t176 x9_3).f2.f3), .int .i64 ((rd_T80 t176 x9_3).f2.f4), .bool ((rd_T80 t176 x9_3).f3), .int .i64 ((rd_T80 t176 x9_3).f4), .int .i64 ((rd_T80 t176 x9_3).f5)]] (by rfl) rfl rfl (by (try simp only [List.map_toArray, List.map_cons, List.map_nil]); first | done | rfl | (simp only [List.length_drop, List.length_take]; rfl)) ?_
                            with_reducible refine (boscagelaw32_Give.calls ((rd_T80 t176 x9_3).f0) ((rd_T80 t176 x9_3).f1.f0) ((rd_T80 t176 x9_3).f1.f1) ((rd_T80 t176 x9_3).f1.f2) ((rd_T80 t176 x9_3).f1.f3) ((rd_T80 t176 x9_3).f1.f4) ((rd_T80 t176 x9_3).f2.f0) ((rd_T80 t176 x9_3).f2.f1) ((rd_T80 t176 x9_3).f2.f2) ((rd_T80 t176 x9_3).f2.f3) ((rd_T80 t176 x9_3).f2.f4) ((rd_T80 t176 x9_3).f3) ((rd_T80 t176 x9_3).f4) ((rd_T80 t176 x9_3).f5) t185 t186 t187 t188 t189 t190 t191 t192 t193 t194 t195 t196 t197 t198 _ A50.out).mono ?_
                            rintro e w55 ⟨rfl, hb⟩
                            have HS0_ := (hb.cell (World.block_lt_of_cell? _ _ (hHeld.1))).trans (hHeld.1)
                            have HS1_ := (hb.cell (World.block_lt_of_cell? _ _ (hHeld.2.1))).trans (hHeld.2.1)
                            have HS2_ := (hb.cell (World.block_lt_of_cell? _ _ (hHeld.2.2.1))).trans (hHeld.2.2.1)
                            have HS3_ := (hb.cell (World.block_lt_of_cell? _ _ (hHeld.2.2.2.1))).trans (hHeld.2.2.2.1)
                            have HS4_ := (hb.cell (World.block_lt_of_cell? _ _ (hHeld.2.2.2.2.1))).trans (hHeld.2.2.2.2.1)
                            have HS5_ := (hb.cell (World.block_lt_of_cell? _ _ (hHeld.2.2.2.2.2.1))).trans (hHeld.2.2.2.2.2.1)
                            have HS6_ := (hb.cell (World.block_lt_of_cell? _ _ (hHeld.2.2.2.2.2.2.1))).trans (hHeld.2.2.2.2.2.2.1)
                            have HS7_ := (hb.cell (World.block_lt_of_cell? _ _ (hHeld.2.2.2.2.2.2.2.1))).trans (hHeld.2.2.2.2.2.2.2.1)
                            have HS8_ := (hb.cell (World.block_lt_of_cell? _ _ (hHeld.2.2.2.2.2.2.2.2.1))).trans (hHeld.2.2.2.2.2.2.2.2.1)
                            have HS9_ := (hb.cell (World.block_lt_of_cell? _ _ (hHeld.2.2.2.2.2.2.2.2.2.1))).trans (hHeld.2.2.2.2.2.2.2.2.2.1)
                            have HS10_ := (hb.cell (World.block_lt_of_cell? _ _ (hHeld.2.2.2.2.2.2.2.2.2.2.1))).trans (hHeld.2.2.2.2.2.2.2.2.2.2.1)
                            have HS11_ := (hb.cell (World.block_lt_of_cell? _ _ (hHeld.2.2.2.2.2.2.2.2.2.2.2.1))).trans (hHeld.2.2.2.2.2.2.2.2.2.2.2.1)
                            have HS12_ := (hb.cell (World.block_lt_of_cell? _ _ (hHeld.2.2.2.2.2.2.2.2.2.2.2.2.1))).trans (hHeld.2.2.2.2.2.2.2.2.2.2.2.2.1)
                            have HS13_ := (hb.cell (World.block_lt_of_cell? _ _ (hHeld.2.2.2.2.2.2.2.2.2.2.2.2.2.1))).trans (hHeld.2.2.2.2.2.2.2.2.2.2.2.2.2.1)
                            have HS14_ := (hb.cell (World.block_lt_of_cell? _ _ (hHeld.2.2.2.2.2.2.2.2.2.2.2.2.2.2.1))).trans (hHeld.2.2.2.2.2.2.2.2.2.2.2.2.2.2.1)
                            have HS15_ := (hb.cell (World.block_lt_of_cell? _ _ (hHeld.2.2.2.2.2.2.2.2.2.2.2.2.2.2.2.1))).trans (hHeld.2.2.2.2.2.2.2.2.2.2.2.2.2.2.2.1)
                            have HS16_ := (hb.cell (World.block_lt_of_cell? _ _ (hHeld.2.2.2.2.2.2.2.2.2.2.2.2.2.2.2.2.1))).trans (hHeld.2.2.2.2.2.2.2.2.2.2.2.2.2.2.2.2.1)
                            have HS17_ := (hb.cell (World.block_lt_of_cell? _ _ (hHeld.2.2.2.2.2.2.2.2.2.2.2.2.2.2.2.2.2.1))).trans (hHeld.2.2.2.2.2.2.2.2.2.2.2.2.2.2.2.2.2.1)
                            have HS18_ := (hb.cell (World.block_lt_of_cell? _ _ (hHeld.2.2.2.2.2.2.2.2.2.2.2.2.2.2.2.2.2.2.1))).trans (hHeld.2.2.2.2.2.2.2.2.2.2.2.2.2.2.2.2.2.2.1)
                            have HS19_ := (hb.cell (World.block_lt_of_cell? _ _ (hHeld.2.2.2.2.2.2.2.2.2.2.2.2.2.2.2.2.2.2.2.1))).trans (hHeld.2.2.2.2.2.2.2.2.2.2.2.2.2.2.2.2.2.2.2.1)
                            have HS20_ := (hb.cell (World.block_lt_of_cell? _ _ (hHeld.2.2.2.2.2.2.2.2.2.2.2.2.2.2.2.2.2.2.2.2.1))).trans (hHeld.2.2.2.2.2.2.2.2.2.2.2.2.2.2.2.2.2.2.2.2.1)
                            have HS21_ := (hb.cell (World.block_lt_of_cell? _ _ (hHeld.2.2.2.2.2.2.2.2.2.2.2.2.2.2.2.2.2.2.2.2.2.1))).trans (hHeld.2.2.2.2.2.2.2.2.2.2.2.2.2.2.2.2.2.2.2.2.2.1)
                            have HS22_ := (hb.cell (World.block_lt_of_cell? _ _ (hHeld.2.2.2.2.2.2.2.2.2.2.2.2.2.2.2.2.2.2.2.2.2.2.1))).trans (hHeld.2.2.2.2.2.2.2.2.2.2.2.2.2.2.2.2.2.2.2.2.2.2.1)
                            have HS23_ := (hb.cell (World.block_lt_of_cell? _ _ (hHeld.2.2.2.2.2.2.2.2.2.2.2.2.2.2.2.2.2.2.2.2.2.2.2.1))).trans (hHeld.2.2.2.2.2.2.2.2.2.2.2.2.2.2.2.2.2.2.2.2.2.2.2.1)
                            have HS24_ := (hb.cell (World.block_lt_of_cell? _ _ (hHeld.2.2.2.2.2.2.2.2.2.2.2.2.2.2.2.2.2.2.2.2.2.2.2.2.1))).trans (hHeld.2.2.2.2.2.2.2.2.2.2.2.2.2.2.2.2.2.2.2.2.2.2.2.2.1)
                            have HS25_ := (hb.cell (World.block_lt_of_cell? _ _ (hHeld.2.2.2.2.2.2.2.2.2.2.2.2.2.2.2.2.2.2.2.2.2.2.2.2.2.1))).trans (hHeld.2.2.2.2.2.2.2.2.2.2.2.2.2.2.2.2.2.2.2.2.2.2.2.2.2.1)
                            have HS26_ := (hb.cell (World.block_lt_of_cell? _ _ (hHeld.2.2.2.2.2.2.2.2.2.2.2.2.2.2.2.2.2.2.2.2.2.2.2.2.2.2.1))).trans (hHeld.2.2.2.2.2.2.2.2.2.2.2.2.2.2.2.2.2.2.2.2.2.2.2.2.2.2.1)
                            have HS27_ := (hb.cell (World.block_lt_of_cell? _ _ (hHeld.2.2.2.2.2.2.2.2.2.2.2.2.2.2.2.2.2.2.2.2.2.2.2.2.2.2.2))).trans (hHeld.2.2.2.2.2.2.2.2.2.2.2.2.2.2.2.2.2.2.2.2.2.2.2.2.2.2.2)
                            refine ⟨_, rfl, ?_⟩
                            have n0_ := Aside0.mk (Kd.R_below (by (with_reducible repeat (first | apply Kd.R_alloc | apply Kd.R_drewN | apply Kd.R_drew)); exact HO_4.out) hb)
                            have n1_ := Aside0.mk (Kd.R_below (by (with_reducible repeat (first | apply Kd.R_alloc | apply Kd.R_drewN | apply Kd.R_drew)); exact HO_8.out) hb)
                            have n2_ := Aside0.mk (below_step (by repeat (first | (with_reducible first | exact HB.out | apply below_alloc | apply pw_below_drewN | apply below_drew1) | exact HB.out)) hb)
                            clear HO_4
                            clear HO_8
                            clear HB
                            have HO_4 := n0_
                            have HO_8 := n1_
                            have HB := n2_
                            clear n0_ n1_ n2_
                            (try clear hb)
                            (try clear hb2)
                            (try clear hk)
                            (try clear hi)
                            refine hK.out _ _ ⟨HS0_, HS1_, HS2_, HS3_, HS4_, HS5_, HS6_, HS7_, HS8_, HS9_, HS10_, HS11_, HS12_, HS13_, HS14_, HS15_, HS16_, HS17_, HS18_, HS19_, HS20_, HS21_, HS22_, HS23_, HS24_, HS25_, HS26_, HS27_⟩ (fun hHeld => ?_)
                            clear hK K
                            refine norm_ (a' := ?_) ?_ ?_
                            rotate_left
                            · show Act.put _ (some 82) _ = _
                              simp only [Act.put, List.setIfInBounds_toArray, List.set_cons_zero, List.set_cons_succ, i64_w, i32_w]
                              rfl
                            refine pure_ (i := 9) (N := some 83) (v := ?_) (a' := ?_) #[true, true, true, true, true, true, true, true, true, true] rfl rfl (any_of HT_.out (by kernel_rfl)) (fun _ _ _ h => h) (Or.inl ⟨by rfl, ?_⟩) ?_ ?_
                            rotate_left
                            · intro w'
                              go_simp
                              with_reducible rfl
                            rotate_left
                            · simp only [Act.put, List.setIfInBounds_toArray, List.set_cons_zero, List.set_cons_succ, i64_w, i32_w]
                              rfl
                            refine done_ (done_of HT_.out (by kernel_rfl)) ?_
                            try go_wp2
                            go_ret
                            exact ⟨by first | rfl | (simp [errW_none, errW_some] <;> rfl) | (simp [*, errW_none, errW_some] <;> rfl), by repeat (first | (with_reducible first | exact HB.out | apply below_alloc | apply pw_below_drewN | apply below_drew1) | exact HB.out)⟩
                          · rw [if_neg c51] at H
                            have c51b0 : (!(((rd_T78 t160 x9_3).f0) == t185) || ((!(((rd_T78 t160 x9_3).f1.f0) == t186) || (!((((rd_T78 t160 x9_3).f1.f1).toList) == t187.toList) || (!((((rd_T78 t160 x9_3).f1.f2).toList) == t188.toList) || (!((((rd_T78 t160 x9_3).f1.f3).toList) == t189.toList) || (!(((rd_T78 t160 x9_3).f1.f4) == t190)))))) || ((!(((rd_T78 t160 x9_3).f2.f0) == t191) || (!(((rd_T78 t160 x9_3).f2.f1) == t192) || (!((((rd_T78 t160 x9_3).f2.f2).toList) == t193.toList) || (!((((rd_T78 t160 x9_3).f2.f3).toList) == t194.toList) || (!(((rd_T78 t160 x9_3).f2.f4) == t195)))))) || (!(((rd_T78 t160 x9_3).f3) == t196) || (!(((rd_T78 t160 x9_3).f4) == t197) || (!(((rd_T78 t160 x9_3).f5) == t198))))))) = false := by simpa using c51
                            clear c51
                            have H' := Aside0.mk H
                            clear H
                            obtain ⟨Ao56, co56, eo56⟩ := Kd.R_slice HO_8.out
                            subst eo56
                            try go_wp2
                            have n0_ := Aside0.mk (Kd.R_drew HO_4.out)
                            have n1_ := Aside0.mk (Kd.R_drew HO_8.out)
                            have n2_ := Aside0.mk (below_drew1 HB.out)
                            clear HO_4
                            clear HO_8
                            clear HB
                            have HO_4 := n0_
                            have HO_8 := n1_
                            have HB := n2_
                            clear n0_ n1_ n2_
                            obtain ⟨Ao58, co58, eo58⟩ := Kd.R_slice HO_4.out
                            (first | subst eo58 | (injection eo58 with f1_ f2_ f3_; have f4_ := f1_.symm; have f5_ := f3_.symm; clear f1_ f2_ f3_; subst f4_; subst f5_))
                            have p183 : 0 ≤ (x9_3 : Int) := of_decide_eq_true (by first | (with_reducible assumption) | assumption)
                            have q183 : x9_3 < (t160.length : Int) := of_decide_eq_true (by first | (with_reducible assumption) | assumption)
                            obtain ⟨ad183, e183, hx183_0, hx183_1, hx183_2, hx183_3, hx183_4, hx183_5, hx183_6, hx183_7, hx183_8, hx183_9, hx183_10, hx183_11, hx183_12, hx183_13⟩ := at_T78 (Kd.R_reads' HO_4.out).2.2 x9_3 p183 q183
                            cases e183
                            replace p183 := eq_true p183
                            replace q183 := eq_true q183
                            have p184 : 0 ≤ (x9_3 : Int) := of_decide_eq_true (by first | (with_reducible assumption) | assumption)
                            have q184 : x9_3 < (t176.length : Int) := of_decide_eq_true (by first | (with_reducible assumption) | assumption)
                            obtain ⟨ad184, e184, hx184_0, hx184_1, hx184_2, hx184_3, hx184_4, hx184_5, hx184_6, hx184_7, hx184_8, hx184_9, hx184_10, hx184_11, hx184_12, hx184_13⟩ := at_T80 (Kd.R_reads' HO_8.out).2.2 x9_3 p184 q184
                            cases e184
                            replace p184 := eq_true p184
                            replace q184 := eq_true q184
                            refine start_ (n := 10) (S := fun w' => w'.cell? (ad183.add ((x9_3).toNat * 14)) = some (.int .i64 ((rd_T78 t160 x9_3).f0)) ∧ w'.cell? ⟨(ad183.add ((x9_3).toNat * 14)).block, (ad183.add ((x9_3).toNat * 14)).off + 1, none⟩ = some (.int .i64 ((rd_T78 t160 x9_3).f1.f0)) ∧ w'.cell? ⟨(ad183.add ((x9_3).toNat * 14)).block, (ad183.add ((x9_3).toNat * 14)).off + 2, none⟩ = some (.string ((rd_T78 t160 x9_3).f1.f1)) ∧ w'.cell? ⟨(ad183.add ((x9_3).toNat * 14)).block, (ad183.add ((x9_3).toNat * 14)).off + 3, none⟩ = some (.string ((rd_T78 t160 x9_3).f1.f2)) ∧ w'.cell? ⟨(ad183.add ((x9_3).toNat * 14)).block, (ad183.add ((x9_3).toNat * 14)).off + 4, none⟩ = some (.string ((rd_T78 t160 x9_3).f1.f3)) ∧ w'.cell? ⟨(ad183.add ((x9_3).toNat * 14)).block, (ad183.add ((x9_3).toNat * 14)).off + 5, none⟩ = some (.int .i64 ((rd_T78 t160 x9_3).f1.f4)) ∧ w'.cell? ⟨(ad183.add ((x9_3).toNat * 14)).block, (ad183.add ((x9_3).toNat * 14)).off + 6, none⟩ = some (.int .i64 ((rd_T78 t160 x9_3).f2.f0)) ∧ w'.cell? ⟨(ad183.add ((x9_3).toNat * 14)).block, (ad183.add ((x9_3).toNat * 14)).off + 7, none⟩ = some (.bool ((rd_T78 t160 x9_3).f2.f1)) ∧ w'.cell? ⟨(ad183.add ((x9_3).toNat * 14)).block, (ad183.add ((x9_3).toNat * 14)).off + 8, none⟩ = some (.string ((rd_T78 t160 x9_3).f2.f2)) ∧ w'.cell? ⟨(ad183.add ((x9_3).toNat * 14)).block, (ad183.add ((x9_3).toNat * 14)).off + 9, none⟩ = some (.string ((rd_T78 t160 x9_3).f2.f3)) ∧ w'.cell? ⟨(ad183.add ((x9_3).toNat * 14)).block, (ad183.add ((x9_3).toNat * 14)).off + 10, none⟩ = some (.int .i64 ((rd_T78 t160 x9_3).f2.f4)) ∧ w'.cell? ⟨(ad183.add ((x9_3).toNat * 14)).block, (ad183.add ((x9_3).toNat * 14)).off + 11, none⟩ = some (.bool ((rd_T78 t160 x9_3).f3)) ∧ w'.cell? ⟨(ad183.add ((x9_3).toNat * 14)).block, (ad183.add ((x9_3).toNat * 14)).off + 12, none⟩ = some (.int .i64 ((rd_T78 t160 x9_3).f4)) ∧ w'.cell? ⟨(ad183.add ((x9_3).toNat * 14)).block, (ad183.add ((x9_3).toNat * 14)).off + 13, none⟩ = some (.int .i64 ((rd_T78 t160 x9_3).f5)) ∧ w'.cell? (ad184.add ((x9_3).toNat * 14)) = some (.int .i64 ((rd_T80 t176 x9_3).f0)) ∧ w'.cell? ⟨(ad184.add ((x9_3).toNat * 14)).block, (ad184.add ((x9_3).toNat * 14)).off + 1, none⟩ = some (.int .i64 ((rd_T80 t176 x9_3).f1.f0)) ∧ w'.cell? ⟨(ad184.add ((x9_3).toNat * 14)).block, (ad184.add ((x9_3).toNat * 14)).off + 2, none⟩ = some (.string ((rd_T80 t176 x9_3).f1.f1)) ∧ w'.cell? ⟨(ad184.add ((x9_3).toNat * 14)).block, (ad184.add ((x9_3).toNat * 14)).off + 3, none⟩ = some (.string ((rd_T80 t176 x9_3).f1.f2)) ∧ w'.cell? ⟨(ad184.add ((x9_3).toNat * 14)).block, (ad184.add ((x9_3).toNat * 14)).off + 4, none⟩ = some (.string ((rd_T80 t176 x9_3).f1.f3)) ∧ w'.cell? ⟨(ad184.add ((x9_3).toNat * 14)).block, (ad184.add ((x9_3).toNat * 14)).off + 5, none⟩ = some (.int .i64 ((rd_T80 t176 x9_3).f1.f4)) ∧ w'.cell? ⟨(ad184.add ((x9_3).toNat * 14)).block, (ad184.add ((x9_3).toNat * 14)).off + 6, none⟩ = some (.int .i64 ((rd_T80 t176 x9_3).f2.f0)) ∧ w'.cell? ⟨(ad184.add ((x9_3).toNat * 14)).block, (ad184.add ((x9_3).toNat * 14)).off + 7, none⟩ = some (.bool ((rd_T80 t176 x9_3).f2.f1)) ∧ w'.cell? ⟨(ad184.add ((x9_3).toNat * 14)).block, (ad184.add ((x9_3).toNat * 14)).off + 8, none⟩ = some (.string ((rd_T80 t176 x9_3).f2.f2)) ∧ w'.cell? ⟨(ad184.add ((x9_3).toNat * 14)).block, (ad184.add ((x9_3).toNat * 14)).off + 9, none⟩ = some (.string ((rd_T80 t176 x9_3).f2.f3)) ∧ w'.cell? ⟨(ad184.add ((x9_3).toNat * 14)).block, (ad184.add ((x9_3).toNat * 14)).off + 10, none⟩ = some (.int .i64 ((rd_T80 t176 x9_3).f2.f4)) ∧ w'.cell? ⟨(ad184.add ((x9_3).toNat * 14)).block, (ad184.add ((x9_3).toNat * 14)).off + 11, none⟩ = some (.bool ((rd_T80 t176 x9_3).f3)) ∧ w'.cell? ⟨(ad184.add ((x9_3).toNat * 14)).block, (ad184.add ((x9_3).toNat * 14)).off + 12, none⟩ = some (.int .i64 ((rd_T80 t176 x9_3).f4)) ∧ w'.cell? ⟨(ad184.add ((x9_3).toNat * 14)).block, (ad184.add ((x9_3).toNat * 14)).off + 13, none⟩ = some (.int .i64 ((rd_T80 t176 x9_3).f5))) (ds := []) #[false, false, false, false, false, false, false, false, false, false] (by kernel_rfl) rfl rfl ⟨hx183_0, hx183_1, hx183_2, hx183_3, hx183_4, hx183_5, hx183_6, hx183_7, hx183_8, hx183_9, hx183_10, hx183_11, hx183_12, hx183_13, hx184_0, hx184_1, hx184_2, hx184_3, hx184_4, hx184_5, hx184_6, hx184_7, hx184_8, hx184_9, hx184_10, hx184_11, hx184_12, hx184_13⟩ (fun hHeld => ?_); refine with_tabW boscagelaw32_HistOps.tab15 boscagelaw32_HistOps.bits15 (fun HT_ HW_ => ?_)
                            generalize wr.drew = w57 at HO_4 HO_8 HB hx183_0 hx183_1 hx183_10 hx183_11 hx183_12 hx183_13 hx183_2 hx183_3 hx183_4 hx183_5 hx183_6 hx183_7 hx183_8 hx183_9 hx184_0 hx184_1 hx184_10 hx184_11 hx184_12 hx184_13 hx184_2 hx184_3 hx184_4 hx184_5 hx184_6 hx184_7 hx184_8 hx184_9 hHeld ⊢
                            refine pure_ (i := 0) (N := some 74) (v := ?_) (a' := ?_) #[true, false, false, false, false, false, false, false, false, false] rfl rfl (any_of HT_.out (by kernel_rfl)) (fun _ _ _ h => h) (Or.inl ⟨by rfl, ?_⟩) ?_ ?_
                            rotate_left
                            · intro w'
                              go_simp
                              with_reducible rfl
                            rotate_left
                            · simp only [Act.put, List.setIfInBounds_toArray, List.set_cons_zero, List.set_cons_succ, i64_w, i32_w]
                              rfl
                            refine pure_ (i := 1) (N := some 75) (v := ?_) (a' := ?_) #[true, true, false, false, false, false, false, false, false, false] rfl rfl (any_of HT_.out (by kernel_rfl)) (fun _ _ _ h => h) (Or.inl ⟨by rfl, ?_⟩) ?_ ?_
                            rotate_left
                            · intro w'
                              go_simp
                              with_reducible rfl
                            rotate_left
                            · simp only [Act.put, List.setIfInBounds_toArray, List.set_cons_zero, List.set_cons_succ, i64_w, i32_w]
                              rfl
                            refine pure_ (i := 2) (N := some 76) (v := ?_) (a' := ?_) #[true, true, true, false, false, false, false, false, false, false] rfl rfl (any_of HT_.out (by kernel_rfl)) (fun _ _ _ h => h) (Or.inl ⟨by rfl, ?_⟩) ?_ ?_
                            rotate_left
                            · intro w'
                              go_simp
                              with_reducible rfl
                            rotate_left
                            · simp only [Act.put, List.setIfInBounds_toArray, List.set_cons_zero, List.set_cons_succ, i64_w, i32_w]
                              rfl
                            refine pure_ (i := 4) (N := some 78) (v := ?_) (a' := ?_) #[true, true, true, false, true, false, false, false, false, false] rfl rfl (any_of HT_.out (by kernel_rfl)) (fun _ _ _ h => h) (Or.inl ⟨by rfl, ?_⟩) ?_ ?_
                            rotate_left
                            · intro w'
                              go_simp
                              with_reducible rfl
                            rotate_left
                            · simp only [Act.put, List.setIfInBounds_toArray, List.set_cons_zero, List.set_cons_succ, i64_w, i32_w]
                              rfl
                            refine pure_ (i := 5) (N := some 79) (v := ?_) (a' := ?_) #[true, true, true, false, true, true, false, false, false, false] rfl rfl (any_of HT_.out (by kernel_rfl)) (fun _ _ _ h => h) (Or.inl ⟨by rfl, ?_⟩) ?_ ?_
                            rotate_left
                            · intro w'
                              go_simp
                              with_reducible rfl
                            rotate_left
                            · simp only [Act.put, List.setIfInBounds_toArray, List.set_cons_zero, List.set_cons_succ, i64_w, i32_w]
                              rfl
                            refine pure_ (i := 6) (N := some 80) (v := ?_) (a' := ?_) #[true, true, true, false, true, true, true, false, false, false] rfl rfl (any_of HT_.out (by kernel_rfl)) (fun _ _ _ h => h) (Or.inl ⟨by rfl, ?_⟩) ?_ ?_
                            rotate_left
                            · intro w'
                              go_simp
                              with_reducible rfl
                            rotate_left
                            · simp only [Act.put, List.setIfInBounds_toArray, List.set_cons_zero, List.set_cons_succ, i64_w, i32_w]
                              rfl
                            refine take_ (i := 3) (N := some 77) (v := ?_) (a' := ?_) #[true, true, true, true, true, true, true, false, false, false] rfl rfl (take_ofW HT_.out HW_.out (by kernel_rfl)) (fun _ _ _ h => h) (Or.inl ⟨by rfl, ?_⟩) hHeld ?_ ?_
                            rotate_left
                            · rintro w' ⟨s0, s1, s2, s3, s4, s5, s6, s7, s8, s9, s10, s11, s12, s13, s14, s15, s16, s17, s18, s19, s20, s21, s22, s23, s24, s25, s26, s27⟩
                              go_simp
                              with_reducible rfl
                            rotate_left
                            · simp only [Act.put, List.setIfInBounds_toArray, List.set_cons_zero, List.set_cons_succ, i64_w, i32_w]
                              rfl
                            refine take_ (i := 7) (N := some 81) (v := ?_) (a' := ?_) #[true, true, true, true, true, true, true, true, false, false] rfl rfl (take_ofW HT_.out HW_.out (by kernel_rfl)) (fun _ _ _ h => h) (Or.inl ⟨by rfl, ?_⟩) hHeld ?_ ?_
                            rotate_left
                            · rintro w' ⟨s0, s1, s2, s3, s4, s5, s6, s7, s8, s9, s10, s11, s12, s13, s14, s15, s16, s17, s18, s19, s20, s21, s22, s23, s24, s25, s26, s27⟩
                              go_simp
                              with_reducible rfl
                            rotate_left
                            · simp only [Act.put, List.setIfInBounds_toArray, List.set_cons_zero, List.set_cons_succ, i64_w, i32_w]
                              rfl
                            refine one_ (i := 8) (N := some 82) #[true, true, true, true, true, true, true, true, true, false] rfl rfl (one_of HT_.out (by kernel_rfl)) (by decide) (fun K hK => ?_)
                            refine goes_ Try.func47 (by kernel_rfl) rfl #[.agg #[.int .i64 ((rd_T80 t176 x9_3).f0), .int .i64 ((rd_T80 t176 x9_3).f1.f0), .string ((rd_T80 t176 x9_3).f1.f1), .string ((rd_T80 t176 x9_3).f1.f2), .string ((rd_T80 t176 x9_3).f1.f3), .int .i64 ((rd_T80 t176 x9_3).f1.f4), .int .i64 ((rd_T80 t176 x9_3).f2.f0), .bool ((rd_T80 t176 x9_3).f2.f1), .string ((rd_T80 t176 x9_3).f2.f2), .string ((rd_T80 t176 x9_3).f2.f3), .int .i64 ((rd_T80 t176 x9_3).f2.f4), .bool ((rd_T80 t176 x9_3).f3), .int .i64 ((rd_T80 t176 x9_3).f4), .int .i64 ((rd_T80 t176 x9_3).f5)]] (by rfl) rfl rfl (by (try simp only [List.map_toArray, List.map_cons, List.map_nil]); first | done | rfl | (simp only [List.length_drop, List.length_take]; rfl)) ?_
                            with_reducible refine (boscagelaw32_Give.calls ((rd_T80 t176 x9_3).f0) ((rd_T80 t176 x9_3).f1.f0) ((rd_T80 t176 x9_3).f1.f1) ((rd_T80 t176 x9_3).f1.f2) ((rd_T80 t176 x9_3).f1.f3) ((rd_T80 t176 x9_3).f1.f4) ((rd_T80 t176 x9_3).f2.f0) ((rd_T80 t176 x9_3).f2.f1) ((rd_T80 t176 x9_3).f2.f2) ((rd_T80 t176 x9_3).f2.f3) ((rd_T80 t176 x9_3).f2.f4) ((rd_T80 t176 x9_3).f3) ((rd_T80 t176 x9_3).f4) ((rd_T80 t176 x9_3).f5) t185 t186 t187 t188 t189 t190 t191 t192 t193 t194 t195 t196 t197 t198 _ A50.out).mono ?_
                            rintro e w59 ⟨rfl, hb⟩
                            have HS0_ := (hb.cell (World.block_lt_of_cell? _ _ (hHeld.1))).trans (hHeld.1)
                            have HS1_ := (hb.cell (World.block_lt_of_cell? _ _ (hHeld.2.1))).trans (hHeld.2.1)
                            have HS2_ := (hb.cell (World.block_lt_of_cell? _ _ (hHeld.2.2.1))).trans (hHeld.2.2.1)
                            have HS3_ := (hb.cell (World.block_lt_of_cell? _ _ (hHeld.2.2.2.1))).trans (hHeld.2.2.2.1)
                            have HS4_ := (hb.cell (World.block_lt_of_cell? _ _ (hHeld.2.2.2.2.1))).trans (hHeld.2.2.2.2.1)
                            have HS5_ := (hb.cell (World.block_lt_of_cell? _ _ (hHeld.2.2.2.2.2.1))).trans (hHeld.2.2.2.2.2.1)
                            have HS6_ := (hb.cell (World.block_lt_of_cell? _ _ (hHeld.2.2.2.2.2.2.1))).trans (hHeld.2.2.2.2.2.2.1)
                            have HS7_ := (hb.cell (World.block_lt_of_cell? _ _ (hHeld.2.2.2.2.2.2.2.1))).trans (hHeld.2.2.2.2.2.2.2.1)
                            have HS8_ := (hb.cell (World.block_lt_of_cell? _ _ (hHeld.2.2.2.2.2.2.2.2.1))).trans (hHeld.2.2.2.2.2.2.2.2.1)
                            have HS9_ := (hb.cell (World.block_lt_of_cell? _ _ (hHeld.2.2.2.2.2.2.2.2.2.1))).trans (hHeld.2.2.2.2.2.2.2.2.2.1)
                            have HS10_ := (hb.cell (World.block_lt_of_cell? _ _ (hHeld.2.2.2.2.2.2.2.2.2.2.1))).trans (hHeld.2.2.2.2.2.2.2.2.2.2.1)
                            have HS11_ := (hb.cell (World.block_lt_of_cell? _ _ (hHeld.2.2.2.2.2.2.2.2.2.2.2.1))).trans (hHeld.2.2.2.2.2.2.2.2.2.2.2.1)
                            have HS12_ := (hb.cell (World.block_lt_of_cell? _ _ (hHeld.2.2.2.2.2.2.2.2.2.2.2.2.1))).trans (hHeld.2.2.2.2.2.2.2.2.2.2.2.2.1)
                            have HS13_ := (hb.cell (World.block_lt_of_cell? _ _ (hHeld.2.2.2.2.2.2.2.2.2.2.2.2.2.1))).trans (hHeld.2.2.2.2.2.2.2.2.2.2.2.2.2.1)
                            have HS14_ := (hb.cell (World.block_lt_of_cell? _ _ (hHeld.2.2.2.2.2.2.2.2.2.2.2.2.2.2.1))).trans (hHeld.2.2.2.2.2.2.2.2.2.2.2.2.2.2.1)
                            have HS15_ := (hb.cell (World.block_lt_of_cell? _ _ (hHeld.2.2.2.2.2.2.2.2.2.2.2.2.2.2.2.1))).trans (hHeld.2.2.2.2.2.2.2.2.2.2.2.2.2.2.2.1)
                            have HS16_ := (hb.cell (World.block_lt_of_cell? _ _ (hHeld.2.2.2.2.2.2.2.2.2.2.2.2.2.2.2.2.1))).trans (hHeld.2.2.2.2.2.2.2.2.2.2.2.2.2.2.2.2.1)
                            have HS17_ := (hb.cell (World.block_lt_of_cell? _ _ (hHeld.2.2.2.2.2.2.2.2.2.2.2.2.2.2.2.2.2.1))).trans (hHeld.2.2.2.2.2.2.2.2.2.2.2.2.2.2.2.2.2.1)
                            have HS18_ := (hb.cell (World.block_lt_of_cell? _ _ (hHeld.2.2.2.2.2.2.2.2.2.2.2.2.2.2.2.2.2.2.1))).trans (hHeld.2.2.2.2.2.2.2.2.2.2.2.2.2.2.2.2.2.2.1)
                            have HS19_ := (hb.cell (World.block_lt_of_cell? _ _ (hHeld.2.2.2.2.2.2.2.2.2.2.2.2.2.2.2.2.2.2.2.1))).trans (hHeld.2.2.2.2.2.2.2.2.2.2.2.2.2.2.2.2.2.2.2.1)
                            have HS20_ := (hb.cell (World.block_lt_of_cell? _ _ (hHeld.2.2.2.2.2.2.2.2.2.2.2.2.2.2.2.2.2.2.2.2.1))).trans (hHeld.2.2.2.2.2.2.2.2.2.2.2.2.2.2.2.2.2.2.2.2.1)
                            have HS21_ := (hb.cell (World.block_lt_of_cell? _ _ (hHeld.2.2.2.2.2.2.2.2.2.2.2.2.2.2.2.2.2.2.2.2.2.1))).trans (hHeld.2.2.2.2.2.2.2.2.2.2.2.2.2.2.2.2.2.2.2.2.2.1)
                            have HS22_ := (hb.cell (World.block_lt_of_cell? _ _ (hHeld.2.2.2.2.2.2.2.2.2.2.2.2.2.2.2.2.2.2.2.2.2.2.1))).trans (hHeld.2.2.2.2.2.2.2.2.2.2.2.2.2.2.2.2.2.2.2.2.2.2.1)
                            have HS23_ := (hb.cell (World.block_lt_of_cell? _ _ (hHeld.2.2.2.2.2.2.2.2.2.2.2.2.2.2.2.2.2.2.2.2.2.2.2.1))).trans (hHeld.2.2.2.2.2.2.2.2.2.2.2.2.2.2.2.2.2.2.2.2.2.2.2.1)
                            have HS24_ := (hb.cell (World.block_lt_of_cell? _ _ (hHeld.2.2.2.2.2.2.2.2.2.2.2.2.2.2.2.2.2.2.2.2.2.2.2.2.1))).trans (hHeld.2.2.2.2.2.2.2.2.2.2.2.2.2.2.2.2.2.2.2.2.2.2.2.2.1)
                            have HS25_ := (hb.cell (World.block_lt_of_cell? _ _ (hHeld.2.2.2.2.2.2.2.2.2.2.2.2.2.2.2.2.2.2.2.2.2.2.2.2.2.1))).trans (hHeld.2.2.2.2.2.2.2.2.2.2.2.2.2.2.2.2.2.2.2.2.2.2.2.2.2.1)
                            have HS26_ := (hb.cell (World.block_lt_of_cell? _ _ (hHeld.2.2.2.2.2.2.2.2.2.2.2.2.2.2.2.2.2.2.2.2.2.2.2.2.2.2.1))).trans (hHeld.2.2.2.2.2.2.2.2.2.2.2.2.2.2.2.2.2.2.2.2.2.2.2.2.2.2.1)
                            have HS27_ := (hb.cell (World.block_lt_of_cell? _ _ (hHeld.2.2.2.2.2.2.2.2.2.2.2.2.2.2.2.2.2.2.2.2.2.2.2.2.2.2.2))).trans (hHeld.2.2.2.2.2.2.2.2.2.2.2.2.2.2.2.2.2.2.2.2.2.2.2.2.2.2.2)
                            refine ⟨_, rfl, ?_⟩
                            have n0_ := Aside0.mk (Kd.R_below (by (with_reducible repeat (first | apply Kd.R_alloc | apply Kd.R_drewN | apply Kd.R_drew)); exact HO_4.out) hb)
                            have n1_ := Aside0.mk (Kd.R_below (by (with_reducible repeat (first | apply Kd.R_alloc | apply Kd.R_drewN | apply Kd.R_drew)); exact HO_8.out) hb)
                            have n2_ := Aside0.mk (below_step (by repeat (first | (with_reducible first | exact HB.out | apply below_alloc | apply pw_below_drewN | apply below_drew1) | exact HB.out)) hb)
                            clear HO_4
                            clear HO_8
                            clear HB
                            have HO_4 := n0_
                            have HO_8 := n1_
                            have HB := n2_
                            clear n0_ n1_ n2_
                            (try clear hb)
                            (try clear hb2)
                            (try clear hk)
                            (try clear hi)
                            refine hK.out _ _ ⟨HS0_, HS1_, HS2_, HS3_, HS4_, HS5_, HS6_, HS7_, HS8_, HS9_, HS10_, HS11_, HS12_, HS13_, HS14_, HS15_, HS16_, HS17_, HS18_, HS19_, HS20_, HS21_, HS22_, HS23_, HS24_, HS25_, HS26_, HS27_⟩ (fun hHeld => ?_)
                            clear hK K
                            refine norm_ (a' := ?_) ?_ ?_
                            rotate_left
                            · show Act.put _ (some 82) _ = _
                              simp only [Act.put, List.setIfInBounds_toArray, List.set_cons_zero, List.set_cons_succ, i64_w, i32_w]
                              rfl
                            refine pure_ (i := 9) (N := some 83) (v := ?_) (a' := ?_) #[true, true, true, true, true, true, true, true, true, true] rfl rfl (any_of HT_.out (by kernel_rfl)) (fun _ _ _ h => h) (Or.inl ⟨by rfl, ?_⟩) ?_ ?_
                            rotate_left
                            · intro w'
                              go_simp
                              with_reducible rfl
                            rotate_left
                            · simp only [Act.put, List.setIfInBounds_toArray, List.set_cons_zero, List.set_cons_succ, i64_w, i32_w]
                              rfl
                            refine done_ (done_of HT_.out (by kernel_rfl)) ?_
                            try go_wp2
                            go_roundg k3
                            case measure => have := HJ7.out; have := HJ33.out; have := HK3.out; omega
                            case rel => exact ⟨(wrap64 (x9_3 + 1)), (by first | rfl | (simp; done) | (simp [*]; done)), H', ⟨by have := HJ7.out; have := HJ33.out; have := HK3.out; omega⟩, ⟨by (with_reducible repeat (first | apply Kd.R_alloc | apply Kd.R_drewN | apply Kd.R_drew)); exact HO_4.out⟩, ⟨by (with_reducible repeat (first | apply Kd.R_alloc | apply Kd.R_drewN | apply Kd.R_drew)); exact HO_8.out⟩, ⟨by repeat (first | (with_reducible first | exact HB.out | apply below_alloc | apply pw_below_drewN | apply below_drew1) | exact HB.out)⟩⟩
                        · rw [if_neg c49] at H
                          exact absurd H (by simp)
                      · rw [if_neg c48] at H
                        exact absurd H (by simp)
                    · rw [if_neg c47] at H
                      have c47b0 : decide (x9_3 < (t176.length : Int)) = false := decide_eq_false c47
                      clear c47
                      replace H := Option.bind_eq_some_iff.mp H
                      obtain ⟨t199, A600, H⟩ := H
                      replace H : (some t199) = some r := H
                      have A60 := Aside0.mk A600
                      clear A600
                      obtain rfl := Option.some.inj H
                      obtain ⟨Ao61, co61, eo61⟩ := Kd.R_slice HO_8.out
                      subst eo61
                      go_wp2_with (first | ((with_reducible refine gate_callee (f := 44) rfl ?_); refine goesL_ (some 84) rfl rfl Try.func44 (by kernel_rfl) rfl #[] rfl (by (try simp only [List.map_toArray, List.map_cons, List.map_nil]); first | done | rfl | (simp only [List.length_drop, List.length_take]; rfl)) ?_; (with_reducible refine (boscagelaw32_works.calls k3  t199 _ A60.out).mono ?_); rintro e w62 ⟨rfl, hb⟩; refine ⟨_, rfl, ?_⟩; have n0_ := Aside0.mk (Kd.R_below (by (with_reducible repeat (first | apply Kd.R_alloc | apply Kd.R_drewN | apply Kd.R_drew)); exact HO_4.out) hb); have n1_ := Aside0.mk (Kd.R_below (by (with_reducible repeat (first | apply Kd.R_alloc | apply Kd.R_drewN | apply Kd.R_drew)); exact HO_8.out) hb); have n2_ := Aside0.mk (below_step (by repeat (first | (with_reducible first | exact HB.out | apply below_alloc | apply pw_below_drewN | apply below_drew1) | exact HB.out)) hb); clear HO_4; clear HO_8; clear HB; have HO_4 := n0_; have HO_8 := n1_; have HB := n2_; clear n0_ n1_ n2_; (try clear hb); (try clear hb2); (try clear hk); (try clear hi)))
                      go_ret
                      exact ⟨by first | rfl | (simp [errW_none, errW_some] <;> rfl) | (simp [*, errW_none, errW_some] <;> rfl), by repeat (first | (with_reducible first | exact HB.out | apply below_alloc | apply pw_below_drewN | apply below_drew1) | exact HB.out)⟩
        · rw [if_neg c32] at H
          have c32b0 : (t156 == 0) = false := beq_eq_false_iff_ne.mpr c32
          have c32b1 : (t156 != 0) = true := bne_iff_ne.mpr c32
          by_cases c63 : (t160.length : Int) = 0
          · rw [if_pos c63] at H
            have c63b0 : ((t160.length : Int) == 0) = true := beq_iff_eq.mpr c63
            have c63b1 : ((t160.length : Int) != 0) = false := bne_eq_false_iff_eq.mpr c63
            clear c63
            by_cases c64 : (t167.length : Int) = 0
            · rw [if_pos c64] at H
              have c64b0 : ((t167.length : Int) == 0) = true := beq_iff_eq.mpr c64
              have c64b1 : ((t167.length : Int) != 0) = false := bne_eq_false_iff_eq.mpr c64
              clear c64
              replace H := Option.bind_eq_some_iff.mp H
              obtain ⟨t175, A650, H⟩ := H
              replace H : (some t175) = some r := H
              have A65 := Aside0.mk A650
              clear A650
              obtain rfl := Option.some.inj H
              obtain ⟨Ao66, co66, eo66⟩ := Kd.R_slice HO_4.out
              subst eo66
              obtain ⟨Ao67, co67, eo67⟩ := Kd.R_slice HO_6.out
              subst eo67
              go_wp2_with (first | (go_at_call 44; (with_reducible refine (boscagelaw32_works.calls kj7  t175 _ A65.out).mono ?_); rintro e w68 ⟨rfl, hb⟩; have n0_ := Aside0.mk (Kd.R_below (by (with_reducible repeat (first | apply Kd.R_alloc | apply Kd.R_drewN | apply Kd.R_drew)); exact HO_0.out) hb); have n1_ := Aside0.mk (Kd.R_below (by (with_reducible repeat (first | apply Kd.R_alloc | apply Kd.R_drewN | apply Kd.R_drew)); exact HO_4.out) hb); have n2_ := Aside0.mk (Kd.R_below (by (with_reducible repeat (first | apply Kd.R_alloc | apply Kd.R_drewN | apply Kd.R_drew)); exact HO_6.out) hb); have n3_ := Aside0.mk (below_step (by repeat (first | (with_reducible first | exact HB.out | apply below_alloc | apply pw_below_drewN | apply below_drew1) | exact HB.out)) hb); clear HO_0; clear HO_4; clear HO_6; clear HB; have HO_0 := n0_; have HO_4 := n1_; have HO_6 := n2_; have HB := n3_; clear n0_ n1_ n2_ n3_; (try clear hb); (try clear hb2); (try clear hk); (try clear hi)))
              go_ret
              exact ⟨by first | rfl | (simp [errW_none, errW_some] <;> rfl) | (simp [*, errW_none, errW_some] <;> rfl), by repeat (first | (with_reducible first | exact HB.out | apply below_alloc | apply pw_below_drewN | apply below_drew1) | exact HB.out)⟩
            · rw [if_neg c64] at H
              have c64b0 : ((t167.length : Int) == 0) = false := beq_eq_false_iff_ne.mpr c64
              have c64b1 : ((t167.length : Int) != 0) = true := bne_iff_ne.mpr c64
              have c64b2 : ¬ (t167 = []) := fun h_ => c64 (by rw [h_]; rfl)
              obtain rfl := Option.some.inj H
              obtain ⟨Ao69, co69, eo69⟩ := Kd.R_slice HO_4.out
              subst eo69
              obtain ⟨Ao70, co70, eo70⟩ := Kd.R_slice HO_6.out
              subst eo70
              go_wp2
              go_ret
              exact ⟨by first | rfl | (simp [errW_none, errW_some] <;> rfl) | (simp [*, errW_none, errW_some] <;> rfl), by repeat (first | (with_reducible first | exact HB.out | apply below_alloc | apply pw_below_drewN | apply below_drew1) | exact HB.out)⟩
          · rw [if_neg c63] at H
            have c63b0 : ((t160.length : Int) == 0) = false := beq_eq_false_iff_ne.mpr c63
            have c63b1 : ((t160.length : Int) != 0) = true := bne_iff_ne.mpr c63
            have c63b2 : ¬ (t160 = []) := fun h_ => c63 (by rw [h_]; rfl)
            obtain rfl := Option.some.inj H
            obtain ⟨Ao71, co71, eo71⟩ := Kd.R_slice HO_4.out
            subst eo71
            go_wp2
            go_ret
            exact ⟨by first | rfl | (simp [errW_none, errW_some] <;> rfl) | (simp [*, errW_none, errW_some] <;> rfl), by repeat (first | (with_reducible first | exact HB.out | apply below_alloc | apply pw_below_drewN | apply below_drew1) | exact HB.out)⟩

end Go.Proofs.Ytipdhjdlfdbkiaa.PHistOps
