/- The mill, part S: code, loops, functions. -/
import Derived.Test.YtgpegohoninbfaaGreatEvR
namespace Go.Ev
set_option linter.unusedVariables false
set_option linter.unusedSimpArgs false
open Go.RowKit
variable {A : Nat → Nat → Prop}
set_option linter.unusedVariables false

/-- Plans of a function's regions that draw: what they may touch; the plan; and the slots that live behind it, where its ways are joined. -/
abbrev Plans := Nat → Option (List Nat × PT × Option (List Nat))

/-- A loop, met in this state. -/
structure LoopC (T : Tab) (N n0 : Nat) (pl : Plans) (c : Code) (e : Env) (H : AHeap) (Q : Ex → Env → AHeap → Prop) : Prop where
  out : ∀ (A : Nat → Nat → Prop) (C0 : Ctx) (r : List (Option Nat)) (w : World) (a : Act), C0.r.length = n0 → Rel T N A r H w e a → Le C0 (ctx A r H w) → (Code.loop c).wp T.P (QR T N A C0 Q) a w

def evC (T : Tab) (N n0 : Nat) (pl : Plans) : Code → Env → AHeap → (Ex → Env → AHeap → Prop) → Prop
  | .skip, e, H, Q => Q .nx e H
  | .region _ ops false, e, H, Q => evOps T N ops.toList ops.toList e H fun e H => Q .nx e H
  | .region id ops true, e, H, Q => match pl id with
    | some (X, p, none) => evPlan T N ops.toList H.length X p true e H fun e H => Q .nx e H
    | some (X, p, some live) => ∃ J : List AV → AHeap → Prop, (evPlan T N ops.toList H.length X p true e H fun e H => AbsC n0 (live.map (look e)) H J) ∧ ∀ xs H, J xs H → Q .nx (live.zip xs) H
    | none => False
  | .seq a b, e, H, Q => evC T N n0 pl a e H fun x e' H' => match x with
    | .nx => evC T N n0 pl b e' H' Q
    | .out i => Q (.out i) e' H'
    | .ret => Q .ret e' H'
  | .cond c a b, e, H, Q => opd T e c fun
    | .g (.c (.bool t)) => (t = true → evC T N n0 pl a e H Q) ∧ (t = false → evC T N n0 pl b e H Q)
    | _ => False
  | .block id c, e, H, Q => evC T N n0 pl c e H fun x e' H' => match x with
    | .nx => Q .nx e' H'
    | .out j => match Nat.beq j id with
      | true => Q .nx e' H'
      | false => Q (.out j) e' H'
    | .ret => Q .ret e' H'
  | .loop c, e, H, Q => LoopC T N n0 pl c e H Q
  | .exit id, e, H, Q => Q (.out id) e H
  | .ret, e, H, Q => Q .ret e H
  | _, _, _, _ => False

def plansOk (pl : Plans) : Code → Bool
  | .region id ops true => match pl id with
    | some (_, p, _) => Region.noSelect ops && planOk ops p (Array.replicate ops.size false) && Nat.ble p.depth ops.size
    | none => true
  | .seq a b => plansOk pl a && plansOk pl b
  | .cond _ a b => plansOk pl a && plansOk pl b
  | .block _ c => plansOk pl c
  | .loop c => plansOk pl c
  | _ => true

theorem Laid.sub {T : Tab} {C D : Ctx} (h : Sub C D) (hl : Laid T C) : Laid T D := fun g n at_ hg => by
  have := hl g n at_ hg
  simp only [RV] at this ⊢
  obtain ⟨b, o, e1, e2⟩ := this
  refine ⟨b, o, e1, fun j hj => ?_⟩
  obtain ⟨u, a1, a2, a3, a4⟩ := e2 j hj
  exact ⟨u, by rw [h.w]; exact a1, a2, fun hw => a3 (h.wr _ _ hw), RG.sub h _ _ a4⟩

theorem rv_zip {C : Ctx} {f : Nat → Value} : ∀ (live : List Nat) (xs : List AV), RVs C xs (live.map f) → ∀ t, RV C (look (live.zip xs) t) (f t)
  | [], xs, _, t => by simp [look, RV]
  | a :: live, xs, h, t => by
    cases xs with
    | nil => simp [look, RV]
    | cons x xs =>
      simp only [List.map_cons, RVs] at h
      obtain ⟨v, vs, e, h1, h2⟩ := h
      simp only [List.cons.injEq] at e
      obtain ⟨e1, e2⟩ := e
      subst e1 e2
      simp only [List.zip_cons_cons, look]
      split
      · rename_i hat; subst hat; exact h1
      · exact rv_zip live xs h2 t

theorem rvs_live {C : Ctx} {e : Env} {a : Act} (h : RE C e a) : ∀ (live : List Nat), RVs C (live.map (look e)) (live.map fun t => a.tmps.getD t undef)
  | [] => by simp [RVs]
  | t :: live => by
    simp only [List.map_cons, RVs]
    exact ⟨_, _, rfl, h t, rvs_live h live⟩

section
variable {T : Tab} (hT : T.OK) {N n0 : Nat} {pl : Plans}
include hT

omit hT in
theorem QR.mono {C0 : Ctx} {Q Q' : Ex → Env → AHeap → Prop} (h : ∀ x e H, Q x e H → Q' x e H) {x : Exit} {a : Act} {w : World} (hq : QR T N A C0 Q x a w) : QR T N A C0 Q' x a w := by
  obtain ⟨x', e, H, r, h1, h2, h3, h4⟩ := hq
  exact ⟨x', e, H, r, h1, h _ _ _ h2, h3, h4⟩

theorem evC_sound {C0 : Ctx} (hl0 : C0.r.length = n0) : ∀ (c : Code) (e : Env) (H : AHeap) (Q : Ex → Env → AHeap → Prop), evC T N n0 pl c e H Q → plansOk pl c = true → ∀ (r : List (Option Nat)) (w : World) (a : Act), Rel T N A r H w e a → Le C0 (ctx A r H w) →
    c.wp T.P (QR T N A C0 Q) a w
  | .skip, e, H, Q, h, _, r, w, a, hr, hle => wp_skip ⟨.nx, e, H, r, rfl, h, hr, hle⟩
  | .region id ops false, e, H, Q, h, _, r, w, a, hr, hle => by
    refine wp_region ?_
    have := ops_sound hT (k := fun e H => Q .nx e H) (Q := Q) (fun _ _ h => h) ops.toList 0 rfl e r H w a h hr hle
    rw [← List.range_eq_range'] at this
    simpa using this
  | .region id ops true, e, H, Q, h, hp, r, w, a, hr, hle => by
    have go : ∀ (X : List Nat) (p : PT) (k : Env → AHeap → Prop) (Q : Ex → Env → AHeap → Prop), (∀ e H, k e H → Q .nx e H) → evPlan T N ops.toList H.length X p true e H k →
        (Region.noSelect ops && planOk ops p (Array.replicate ops.size false) && Nat.ble p.depth ops.size) = true → (Code.region id ops true).wp T.P (QR T N A C0 Q) a w := by
      intro X p k Q hkQ h hp
      simp only [Bool.and_eq_true] at hp
      obtain ⟨⟨p1, p2⟩, p3⟩ := hp
      refine wp_region_held (S := Agree A r H X w.drew) hT.mixed ?_
      exact plan_sound hT (k := k) (Q := Q) hkQ (r0 := r) (H0 := H) (w0 := w.drew) rfl p1 p true (Array.replicate ops.size false) ops.size e r H w.drew a p2 h
        ⟨inv_drew hr.inv, hr.laid.mono (le_drew r H w), hr.env.mono (le_drew r H w), hr.size, hr.defers⟩ (hle.trans (le_drew r H w)) (Agree.refl r H X w.drew) (fun _ => ⟨rfl, rfl, rfl⟩) (fun _ _ h _ => h) (Le.refl _) (Nat.le_of_ble_eq_true p3)
    simp only [evC] at h
    split at h
    · rename_i X p hpl
      simp only [plansOk, hpl] at hp
      exact go X p _ Q (fun _ _ h => h) h hp
    · rename_i X p live hpl
      simp only [plansOk, hpl] at hp
      obtain ⟨J, h1, h2⟩ := h
      refine wp_mono (go X p _ (fun x e H => match x with | .nx => AbsC n0 (live.map (look e)) H J | _ => False) (fun _ _ h => h) h1 hp) ?_
      rintro ex a' w' ⟨x', e', H', r', rfl, k1, k2, k3⟩
      cases x' with
      | nx =>
        obtain ⟨xs, H'', r'', j1, j2, j3, j4, j5⟩ := k1.out A C0 r' w' _ hl0 k3 k2.inv (rvs_live k2.env live)
        exact ⟨.nx, _, H'', r'', rfl, h2 _ _ j1, ⟨j2, k2.laid.sub j5, fun t => rv_zip (f := fun t => a'.tmps.getD t undef) live xs j3 t, k2.size, k2.defers⟩, j4⟩
      | out i => exact k1.elim
      | ret => exact k1.elim
    · exact h.elim
  | .seq x y, e, H, Q, h, hp, r, w, a, hr, hle => by
    simp only [evC] at h
    simp only [plansOk, Bool.and_eq_true] at hp
    refine wp_seq (wp_mono (evC_sound hl0 x e H _ h hp.1 r w a hr hle) ?_)
    rintro ex a' w' ⟨x', e', H', r', rfl, h1, h2, h3⟩
    cases x' with
    | nx => exact evC_sound hl0 y e' H' Q h1 hp.2 r' w' a' h2 h3
    | out i => exact ⟨.out i, e', H', r', rfl, h1, h2, h3⟩
    | ret => exact ⟨.ret, e', H', r', rfl, h1, h2, h3⟩
  | .cond c x y, e, H, Q, h, hp, r, w, a, hr, hle => by
    simp only [evC, opd_eq] at h
    simp only [plansOk, Bool.and_eq_true] at hp
    have hv := rv_opv hr.laid hr.env c
    split at h
    · rename_i t ht
      rw [ht] at hv
      simp only [RV, RG] at hv
      cases t with
      | true => exact wp_cond_true hv (evC_sound hl0 x e H Q (h.1 rfl) hp.1 r w a hr hle)
      | false => exact wp_cond_false hv (evC_sound hl0 y e H Q (h.2 rfl) hp.2 r w a hr hle)
    · exact h.elim
  | .block id c, e, H, Q, h, hp, r, w, a, hr, hle => by
    simp only [evC] at h
    simp only [plansOk] at hp
    refine wp_block (wp_mono (evC_sound hl0 c e H _ h hp r w a hr hle) ?_)
    rintro ex a' w' ⟨x', e', H', r', rfl, h1, h2, h3⟩
    cases x' with
    | nx => exact ⟨.nx, e', H', r', rfl, h1, h2, h3⟩
    | out i =>
      simp only [Ex.real, Exit.inBlock]
      simp only at h1
      by_cases hi : i = id
      · subst hi
        rw [if_pos rfl]
        simp at h1
        exact ⟨.nx, e', H', r', rfl, h1, h2, h3⟩
      · rw [if_neg hi]
        have : Nat.beq i id = false := by
          cases hb : Nat.beq i id with
          | false => rfl
          | true => exact absurd (Nat.eq_of_beq_eq_true hb) hi
        rw [this] at h1
        exact ⟨.out i, e', H', r', rfl, h1, h2, h3⟩
    | ret => exact ⟨.ret, e', H', r', rfl, h1, h2, h3⟩
  | .loop c, e, H, Q, h, _, r, w, a, hr, hle => h.out A C0 r w a hl0 hr hle
  | .exit id, e, H, Q, h, _, r, w, a, hr, hle => wp_exit ⟨.out id, e, H, r, rfl, h, hr, hle⟩
  | .ret, e, H, Q, h, _, r, w, a, hr, hle => wp_ret ⟨.ret, e, H, r, rfl, h, hr, hle⟩
  | .rangeFunc _ _ _ _, _, _, _, h, _, _, _, _, _, _ => h.elim
  | .scope _, _, _, _, h, _, _, _, _, _, _ => h.elim
  | .label _, _, _, _, h, _, _, _, _, _, _ => h.elim
  | .goto _, _, _, _, h, _, _, _, _, _, _ => h.elim
  | .refuse _, _, _, _, h, _, _, _, _, _, _ => h.elim
end
end Go.Ev
