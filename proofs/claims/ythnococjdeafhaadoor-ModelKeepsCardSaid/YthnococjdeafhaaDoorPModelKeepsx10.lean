-- printed by a program of the session (wip/hyb/mkprint.py)
import Derived.Test.YthnococjdeafhaaDoorPModelKeepsx0
import Derived.Test.YthnococjdeafhaaDoorPModelKeepsx8
import Derived.Test.YthnococjdeafhaaDoorPModelKeepsx9
namespace Go.Proofs.YthnococjdeafhaaDoor.PModelKeeps
open Go.RowKit Go.Proofs.YthnococjdeafhaaDoorW.PrintWords Go.Proofs.YthnococjdeafhaaDoorW.PrintLast Go.Proofs.YthnococjdeafhaaDoorW.PrintMore
attribute [local go_sem] max2_int min2_int max_two min_two max_three min_three max_four min_four   -- for this text's walks alone
set_option linter.unusedVariables false
set_option linter.unusedSimpArgs false

/-! ### pair_Drop: function 39 -/
def pair_Drop.f (k : Nat) (l0 : List (S65)) (a1 : ByteArray) : Option ((List (S65))) := (pair_ordered.f k l0).bind fun t187 => ((cl_Pair.f t187).bind fun t190 => ((pair_place.f t190 a1).bind fun bt193 => (if bt193.2 = true then ((de_Pair.f t190 bt193.1 (wrap64 (bt193.1 + 1))).bind fun t195 => (some t195)) else (some t190))))
set_option maxHeartbeats 8000000 in
set_option maxRecDepth 100000 in
theorem pair_Drop.calls (k : Nat) (A0 : Option Addr) (c0 : Nat) (l0 : List (S65)) (a1 : ByteArray) (r : List (S65)) (w : World) (hr0 : Kd.C k65 w A0 l0.length l0) (hc0 : l0.length ≤ c0) (h : pair_Drop.f k l0 a1 = some r) :
    Calls Tryd.prog 39 #[.slice A0 l0.length c0, .string a1] w fun e w' => ∃ v0_ : Value, e = .returned (v0_) ∧ Kd.R k65 65 w' w.heap.size (fun _ => True) v0_ r ∧ Below w.heap.size w w' := by
  have HR0 := zX hr0
  have HC0 := zX hc0
  clear hr0 hc0
  have HB := zX (zi w.heap.size w)
  have H : ((pair_ordered.f k l0).bind fun t187 => ((cl_Pair.f t187).bind fun t190 => ((pair_place.f t190 a1).bind fun bt193 => (if bt193.2 = true then ((de_Pair.f t190 bt193.1 (wrap64 (bt193.1 + 1))).bind fun t195 => (some t195)) else (some t190))))) = some r := h
  clear h
  replace H := Option.bind_eq_some_iff.mp H
  obtain ⟨t187, A30, H⟩ := H
  replace H : ((cl_Pair.f t187).bind fun t190 => ((pair_place.f t190 a1).bind fun bt193 => (if bt193.2 = true then ((de_Pair.f t190 bt193.1 (wrap64 (bt193.1 + 1))).bind fun t195 => (some t195)) else (some t190)))) = some r := H
  have A3 := zX A30
  clear A30
  replace H := Option.bind_eq_some_iff.mp H
  obtain ⟨t190, A40, H⟩ := H
  replace H : ((pair_place.f t190 a1).bind fun bt193 => (if bt193.2 = true then ((de_Pair.f t190 bt193.1 (wrap64 (bt193.1 + 1))).bind fun t195 => (some t195)) else (some t190))) = some r := H
  have A4 := zX A40
  clear A40
  replace H := Option.bind_eq_some_iff.mp H
  obtain ⟨⟨t193, t194⟩, A50, H⟩ := H
  replace H : (if t194 = true then ((de_Pair.f t190 t193 (wrap64 (t193 + 1))).bind fun t195 => (some t195)) else (some t190)) = some r := H
  have A5 := zX A50
  clear A50
  by_cases c6 : t194 = true
  · subst c6
    have H1 : ((de_Pair.f t190 t193 (wrap64 (t193 + 1))).bind fun t195 => (some t195)) = some r := by rw [if_pos rfl] at H; exact H
    clear H
    have H := H1
    clear H1
    replace H := Option.bind_eq_some_iff.mp H
    obtain ⟨t195, A70, H⟩ := H
    replace H : (some t195) = some r := H
    have A7 := zX A70
    clear A70
    obtain rfl := zQ H
    go_enter Tryd.func39, Tryd.ntmps39
    go_wp2_with (first | ((with_reducible refine gate_callee (f := 56) rfl ?_); refine goesL_ (some 9) rfl rfl Tryd.func56 (by kernel_rfl) rfl #[.slice A0 l0.length c0] rfl (by (try simp only [zS, zU, zV]); first | done | rfl | (simp only [zO, zN]; rfl)) ?_; (with_reducible refine (pair_ordered.calls k (fun k_ => k_ < w.heap.size) _ _ l0 t187 _ ?side1 A3.out).mono ?_); (case side1 => exact Kd.V_mk HC0.out (Kd.F_below (Kd.C_F k65_heap HR0.out) (by repeat (first | (with_reducible first | exact HB.out | apply zF | apply zE | apply zG) | exact HB.out)))); rintro e w8 ⟨v188, rfl, ho0, hb⟩; refine ⟨_, rfl, ?_⟩; have n0_ := zX (Kd.V_lower (Kd.V_mono (ok' := fun k_ => True) ho0 (fun k_ hk_ => trivial)) (zY (by repeat (first | (with_reducible first | exact HB.out | apply zF | apply zE | apply zG) | exact HB.out)))); have n1_ := zX (zT (by repeat (first | (with_reducible first | exact HB.out | apply zF | apply zE | apply zG) | exact HB.out)) hb); clear HB; have HO189 := n0_; have HB := n1_; clear n0_ n1_; (try clear hb); (try clear hb2); (try clear hk); (try clear hi); (try clear ho0); obtain ⟨Ao9, co9, eo9⟩ := Kd.V_slice HO189.out; subst eo9) | ((with_reducible refine gate_callee (f := 69) rfl ?_); refine goesL_ (some 10) rfl rfl Tryd.func69 (by kernel_rfl) rfl #[.slice Ao9 t187.length co9] rfl (by (try simp only [zS, zU, zV]); first | done | rfl | (simp only [zO, zN]; rfl)) ?_; (with_reducible refine (cl_Pair.calls _ _ t187 t190 _ ?side1 ?side2 A4.out).mono ?_); (case side1 => repeat (first | exact (Kd.V_reads' HO189.out).2.2 | (with_reducible refine Kd.C_alloc ?_ _) | (with_reducible refine Kd.C_drewN ?_ _) | (with_reducible refine Kd.C_drew ?_))); (case side2 => exact (Kd.V_reads' HO189.out).2.1); rintro e w10 ⟨v191, rfl, ho0, hb⟩; refine ⟨_, rfl, ?_⟩; have n0_ := zX (Kd.V_elder' (by (with_reducible repeat (first | apply zb | apply zc | apply zd)); exact HO189.out) (Kd.R_base ho0) hb); have n1_ := zX (Kd.R_lower ho0 (zY (by repeat (first | (with_reducible first | exact HB.out | apply zF | apply zE | apply zG) | exact HB.out)))); have n2_ := zX (zT (by repeat (first | (with_reducible first | exact HB.out | apply zF | apply zE | apply zG) | exact HB.out)) hb); clear HO189; clear HB; have HO189 := n0_; have HO192 := n1_; have HB := n2_; clear n0_ n1_ n2_; (try clear hb); (try clear hb2); (try clear hk); (try clear hi); (try clear ho0); obtain ⟨Ao11, co11, eo11⟩ := Kd.R_slice HO192.out; subst eo11) | ((with_reducible refine gate_callee (f := 57) rfl ?_); refine goesL_ (some 14) rfl rfl Tryd.func57 (by kernel_rfl) rfl #[.slice Ao11 t190.length co11, .string a1] rfl (by (try simp only [zS, zU, zV]); first | done | rfl | (simp only [zO, zN]; rfl)) ?_; (with_reducible refine (pair_place.calls _ _ t190 a1 t193 true _ ?side1 ?side2 A5.out).mono ?_); (case side1 => repeat (first | exact (Kd.R_reads' HO192.out).2.2 | (with_reducible refine Kd.C_alloc ?_ _) | (with_reducible refine Kd.C_drewN ?_ _) | (with_reducible refine Kd.C_drew ?_))); (case side2 => exact (Kd.R_reads' HO192.out).2.1); rintro e w12 ⟨rfl, hb⟩; refine ⟨_, rfl, ?_⟩; have n0_ := zX (Kd.V_below (by (with_reducible repeat (first | apply zb | apply zc | apply zd)); exact HO189.out) hb); have n1_ := zX (Kd.R_below (by (with_reducible repeat (first | apply za | apply zg | apply zh)); exact HO192.out) hb); have n2_ := zX (zT (by repeat (first | (with_reducible first | exact HB.out | apply zF | apply zE | apply zG) | exact HB.out)) hb); clear HO189; clear HO192; clear HB; have HO189 := n0_; have HO192 := n1_; have HB := n2_; clear n0_ n1_ n2_; (try clear hb); (try clear hb2); (try clear hk); (try clear hi)) | ((with_reducible refine gate_callee (f := 70) rfl ?_); refine goesL_ (some 24) rfl rfl Tryd.func70 (by kernel_rfl) rfl #[.slice Ao11 t190.length co11, .int .i64 t193, .int .i64 (wrap64 (t193 + 1))] rfl (by (try simp only [zS, zU, zV]); first | done | rfl | (simp only [zO, zN]; rfl)) ?_; (with_reducible refine (de_Pair.calls (fun k_ => some k_ = (.slice Ao11 t190.length co11 : Value).ownBlock) (.slice Ao11 t190.length co11) t190 t193 (wrap64 (t193 + 1)) t195 w _ ?side1 ?side2 A7.out).mono ?_); (case side1 => repeat (first | (with_reducible first | exact HB.out | apply zF | apply zE | apply zG) | exact HB.out)); (case side2 => exact Kd.R_tight rfl HO192.out); rintro e w13 ⟨v196, rfl, ho0, hb, hkp⟩; refine ⟨_, rfl, ?_⟩; have n0_ := zX (Kd.V_mono (ok' := fun k_ => some k_ ≠ (v196 : Value).ownBlock) (Kd.V_keptB (HO189.out) hkp (fun k_ hk_ hs_ => (hk_.2) hs_)) (fun k_ hk_ => fun e_ => zj (ho0.1 k_ e_.symm) (fun hs_ => hk_.2.1 hs_) (fun hn_ => Nat.not_le.2 hk_.2.2 hn_))); have n1_ := zX (Kd.R_mono (ok' := fun k_ => True) ho0 (fun k_ hk_ => trivial)); have n2_ := zX (hb); clear HO189; clear HB; clear HO192; have HO189 := n0_; have HO197 := n1_; have HB := n2_; clear n0_ n1_ n2_; (try clear hb); (try clear hkp); (try clear ho0)))
    go_ret
    exact ⟨_, by first | rfl | (simp [errW_none, errW_some] <;> rfl) | (simp [*, errW_none, errW_some] <;> rfl), by (with_reducible repeat (first | apply za | apply zg | apply zh)); exact HO197.out, by repeat (first | (with_reducible first | exact HB.out | apply zF | apply zE | apply zG) | exact HB.out)⟩
  · replace c6 := Bool.eq_false_iff.mpr c6
    subst c6
    have H1 : (some t190) = some r := by rw [if_neg (show ¬ (false = true) by decide)] at H; exact H
    clear H
    have H := H1
    clear H1
    obtain rfl := zQ H
    go_enter Tryd.func39, Tryd.ntmps39
    go_wp2_with (first | ((with_reducible refine gate_callee (f := 56) rfl ?_); refine goesL_ (some 9) rfl rfl Tryd.func56 (by kernel_rfl) rfl #[.slice A0 l0.length c0] rfl (by (try simp only [zS, zU, zV]); first | done | rfl | (simp only [zO, zN]; rfl)) ?_; (with_reducible refine (pair_ordered.calls k (fun k_ => k_ < w.heap.size) _ _ l0 t187 _ ?side1 A3.out).mono ?_); (case side1 => exact Kd.V_mk HC0.out (Kd.F_below (Kd.C_F k65_heap HR0.out) (by repeat (first | (with_reducible first | exact HB.out | apply zF | apply zE | apply zG) | exact HB.out)))); rintro e w14 ⟨v188, rfl, ho0, hb⟩; refine ⟨_, rfl, ?_⟩; have n0_ := zX (Kd.V_lower (Kd.V_mono (ok' := fun k_ => True) ho0 (fun k_ hk_ => trivial)) (zY (by repeat (first | (with_reducible first | exact HB.out | apply zF | apply zE | apply zG) | exact HB.out)))); have n1_ := zX (zT (by repeat (first | (with_reducible first | exact HB.out | apply zF | apply zE | apply zG) | exact HB.out)) hb); clear HB; have HO189 := n0_; have HB := n1_; clear n0_ n1_; (try clear hb); (try clear hb2); (try clear hk); (try clear hi); (try clear ho0); obtain ⟨Ao15, co15, eo15⟩ := Kd.V_slice HO189.out; subst eo15) | ((with_reducible refine gate_callee (f := 69) rfl ?_); refine goesL_ (some 10) rfl rfl Tryd.func69 (by kernel_rfl) rfl #[.slice Ao15 t187.length co15] rfl (by (try simp only [zS, zU, zV]); first | done | rfl | (simp only [zO, zN]; rfl)) ?_; (with_reducible refine (cl_Pair.calls _ _ t187 t190 _ ?side1 ?side2 A4.out).mono ?_); (case side1 => repeat (first | exact (Kd.V_reads' HO189.out).2.2 | (with_reducible refine Kd.C_alloc ?_ _) | (with_reducible refine Kd.C_drewN ?_ _) | (with_reducible refine Kd.C_drew ?_))); (case side2 => exact (Kd.V_reads' HO189.out).2.1); rintro e w16 ⟨v191, rfl, ho0, hb⟩; refine ⟨_, rfl, ?_⟩; have n0_ := zX (Kd.V_elder' (by (with_reducible repeat (first | apply zb | apply zc | apply zd)); exact HO189.out) (Kd.R_base ho0) hb); have n1_ := zX (Kd.R_lower ho0 (zY (by repeat (first | (with_reducible first | exact HB.out | apply zF | apply zE | apply zG) | exact HB.out)))); have n2_ := zX (zT (by repeat (first | (with_reducible first | exact HB.out | apply zF | apply zE | apply zG) | exact HB.out)) hb); clear HO189; clear HB; have HO189 := n0_; have HO192 := n1_; have HB := n2_; clear n0_ n1_ n2_; (try clear hb); (try clear hb2); (try clear hk); (try clear hi); (try clear ho0); obtain ⟨Ao17, co17, eo17⟩ := Kd.R_slice HO192.out; subst eo17) | ((with_reducible refine gate_callee (f := 57) rfl ?_); refine goesL_ (some 14) rfl rfl Tryd.func57 (by kernel_rfl) rfl #[.slice Ao17 t190.length co17, .string a1] rfl (by (try simp only [zS, zU, zV]); first | done | rfl | (simp only [zO, zN]; rfl)) ?_; (with_reducible refine (pair_place.calls _ _ t190 a1 t193 false _ ?side1 ?side2 A5.out).mono ?_); (case side1 => repeat (first | exact (Kd.R_reads' HO192.out).2.2 | (with_reducible refine Kd.C_alloc ?_ _) | (with_reducible refine Kd.C_drewN ?_ _) | (with_reducible refine Kd.C_drew ?_))); (case side2 => exact (Kd.R_reads' HO192.out).2.1); rintro e w18 ⟨rfl, hb⟩; refine ⟨_, rfl, ?_⟩; have n0_ := zX (Kd.V_below (by (with_reducible repeat (first | apply zb | apply zc | apply zd)); exact HO189.out) hb); have n1_ := zX (Kd.R_below (by (with_reducible repeat (first | apply za | apply zg | apply zh)); exact HO192.out) hb); have n2_ := zX (zT (by repeat (first | (with_reducible first | exact HB.out | apply zF | apply zE | apply zG) | exact HB.out)) hb); clear HO189; clear HO192; clear HB; have HO189 := n0_; have HO192 := n1_; have HB := n2_; clear n0_ n1_ n2_; (try clear hb); (try clear hb2); (try clear hk); (try clear hi)))
    go_ret
    exact ⟨_, by first | rfl | (simp [errW_none, errW_some] <;> rfl) | (simp [*, errW_none, errW_some] <;> rfl), by (with_reducible repeat (first | apply za | apply zg | apply zh)); exact HO192.out, by repeat (first | (with_reducible first | exact HB.out | apply zF | apply zE | apply zG) | exact HB.out)⟩

/-! ### cl_Held: function 41 -/
-- FULL slices.Clone[[]boscage/model.Held,boscage/model.Held]
-- KIND rounds=0 making=1 shp=0 rsh=0:N
def cl_Held.f (l0 : List S72) : Option (List S72) := if l0.length < 4398046511104 then some l0 else none
set_option maxHeartbeats 8000000 in
set_option maxRecDepth 100000 in
theorem cl_Held.calls (P0_ : Nat → Prop) (A0 : Option Addr) (c0 : Nat) (l0 : List S72) (r : List S72) (w : World) (hs0 : Kd.V k72 72 w w.heap.size (fun k_ => P0_ k_) (.slice A0 l0.length c0) l0) (h : cl_Held.f l0 = some r) :
    Calls Tryd.prog 41 #[.slice A0 l0.length c0] w fun e w' => ∃ v0_ : Value, e = .returned (v0_) ∧ Kd.N k72 72 w' w.heap.size (fun k_ => (P0_ k_ ∨ w.heap.size ≤ k_)) v0_ r ∧ Below w.heap.size w w' := by
  have hlt : l0.length < 4398046511104 := by
    unfold cl_Held.f at h
    split at h
    · assumption
    · cases h
  obtain rfl : l0 = r := by
    unfold cl_Held.f at h
    rw [if_pos hlt] at h
    exact zQ h
  clear h
  have hnl := fun (w : World) (a : Option Addr) (n c n' c' : Nat) => Lib.run_eql_slice_nil (P := Tryd.prog) w 37 72 a n c n' c' Tryd.underlying37
  have HB := zX (zi w.heap.size w)
  obtain ⟨_, hc0, hf⟩ := Kd.V_at hs0
  have hr0 := Kd.F_now hf
  cases A0 with
  | none =>
    obtain rfl : l0 = [] := by
      rcases Nat.eq_zero_or_pos l0.length with h0 | h0
      · exact List.eq_nil_of_length_eq_zero h0
      · obtain ⟨ad, hx, _⟩ := hr0.2.2 h0
        cases hx
    clear hr0 hlt hs0 hf
    obtain rfl | hc1 : c0 = 0 ∨ 0 < c0 := by omega
    all_goals
      go_enter Tryd.func41, Tryd.ntmps41
      go_wp2
      go_ret
      exact ⟨_, rfl, Kd.N_nil _ _ _ _ _, HB.out⟩
  | some ad =>
    have HF := zX (Kd.F_bound hf)
    have HL := zX hlt
    clear hr0 hc0 hlt hs0 hf
    go_enter Tryd.func41, Tryd.ntmps41
    go_wp2_with (first | ((with_reducible refine gate_dst (N := 5) rfl ?_); refine Kd.R_lit k72 _ 72 ?hg (N := 5) ?hd (xs := ([] : List S72)) (inner := []) (ok := fun _ => True) (okp := fun _ => True) ?hr ?hp (fun _ hk => hk) trivial (zi _ _) (Nat.le_refl _) (by simp) ?_; (case hd => rfl); (case hg => rfl); (case hr => first | (go_simp; done) | (go_simp; rfl)); (case hp => exact (Reps.none _ _)); intro v102 w3 ho4 hb hg_ hnew_; clear hg_ hnew_; have n0_ := zX (Kd.R_lower ho4 (zY (by repeat (first | (with_reducible first | exact HB.out | apply zF | apply zE | apply zG) | exact HB.out)))); have n1_ := zX (zT (by repeat (first | (with_reducible first | exact HB.out | apply zF | apply zE | apply zG) | exact HB.out)) hb); have n2_ := zX (Kd.F_below HF.out (zT (by repeat (first | (with_reducible first | exact HB.out | apply zF | apply zE | apply zG) | exact HB.out)) hb)); clear HB HF; have HO103 := n0_; have HB := n1_; have HF := n2_; clear n0_ n1_ n2_; clear hb ho4) | ((with_reducible refine gate_builtin (b := .append) (xs := #[.tmp 5, .tmp 6]) rfl ?_); at_builtin; refine Kd.N_append_rows k72 (w0 := w) w.heap.size rfl (.tmp 5) (.tmp 6) 37 72 (.agg #[(.int .i64 0), (.slice none 0 0)]) 32 rfl Tryd.underlying37 info72 rfl (by decide) (by omega) v102 [] l0 _ _ _ (fun k_ => P0_ k_ ∨ w.heap.size ≤ k_) _ rfl rfl (Kd.N_mono (Kd.R_N (Kd.R_mono (Kd.R_bound HO103.out) (ok' := fun k_ => P0_ k_ ∨ w.heap.size ≤ k_) (fun k hk => .inr hk.2.1))) (fun _ hk => hk)) HF.out (fun k hk => ⟨.inl hk.1, fun he => by have := Kd.R_base HO103.out k he.symm; have := hk.2; omega⟩) (fun k hk => .inr (Nat.le_trans (zY (by repeat (first | (with_reducible first | exact HB.out | apply zF | apply zE | apply zG) | exact HB.out))) hk)) (by repeat (first | (with_reducible first | exact HB.out | apply zF | apply zE | apply zG) | exact HB.out)) (zY (by repeat (first | (with_reducible first | exact HB.out | apply zF | apply zE | apply zG) | exact HB.out))) (by have := HL.out; simp only [List.length_nil]; omega) ?_; intro v105 w5 ho hb hg hat; rw [List.nil_append] at ho; have n0_ := zX hb; have n1_ := zX ho; clear HB HO103; have HB := n0_; have HO106 := n1_; clear n0_ n1_; clear ho hb hg hat))
    go_ret
    exact ⟨_, by first | rfl | (simp; done), HO106.out, by repeat (first | (with_reducible first | exact HB.out | apply zF | apply zE | apply zG) | exact HB.out)⟩

end Go.Proofs.YthnococjdeafhaaDoor.PModelKeeps
