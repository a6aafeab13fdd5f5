/- The mill, part T: the rule of a loop, of a function, of a call. -/
import Derived.Test.YtgpegohoninbfaaGreatEvS
namespace Go.Ev
set_option linter.unusedVariables false
set_option linter.unusedSimpArgs false
open Go.RowKit
variable {A : Nat → Nat → Prop}
set_option linter.unusedVariables false

theorem exists_least {S : Nat → Prop} (h : ∃ m, S m) : ∃ m, S m ∧ ∀ m', S m' → m ≤ m' := by
  obtain ⟨m, hm⟩ := h
  induction m using Nat.strongRecOn with
  | _ m ih =>
    by_cases hc : ∃ k, k < m ∧ S k
    · obtain ⟨k, hk, hS⟩ := hc
      exact ih k hk hS
    · exact ⟨m, hm, fun m' hm' => Nat.le_of_not_lt fun hlt => hc ⟨m', hlt, hm'⟩⟩

section
variable {T : Tab} (hT : T.OK) {N n0 : Nat} {pl : Plans}
include hT

open Classical in
theorem LoopC.inv {c : Code} {e : Env} {H : AHeap} {Q : Ex → Env → AHeap → Prop} (live : List Nat) (I : Nat → List AV → AHeap → Prop) (hp : plansOk pl c = true)
    (start : AbsC n0 (live.map (look e)) H (fun xs H' => ∃ m, I m xs H'))
    (round : ∀ m xs H', I m xs H' → evC T N n0 pl c (live.zip xs) H' (fun x e' H'' => match x with
      | .nx => AbsC n0 (live.map (look e')) H'' (fun xs' H3 => ∃ m', m' < m ∧ I m' xs' H3)
      | .out i => Q (.out i) e' H''
      | .ret => Q .ret e' H'')) : LoopC T N n0 pl c e H Q := by
  refine ⟨fun A C0 r w a hl hr hle => ?_⟩
  let S : Nat → Act → World → Prop := fun m a w => ∃ xs H r, I m xs H ∧ Rel T N A r H w (live.zip xs) a ∧ Le C0 (ctx A r H w)
  have abs : ∀ {e : Env} {H : AHeap} {r : List (Option Nat)} {w : World} {a : Act} {K : Nat → Prop}, Rel T N A r H w e a → Le C0 (ctx A r H w) → AbsC n0 (live.map (look e)) H (fun xs H' => ∃ m, K m ∧ I m xs H') → ∃ m, K m ∧ S m a w := by
    intro e H r w a K hr hle h
    obtain ⟨xs, H', r', ⟨m, hm, hI⟩, h2, h3, h4, h5⟩ := h.out A C0 r w _ hl hle hr.inv (rvs_live hr.env live)
    exact ⟨m, hm, xs, H', r', hI, ⟨h2, hr.laid.sub h5, fun t => rv_zip (f := fun t => a.tmps.getD t undef) live xs h3 t, hr.size, hr.defers⟩, h4⟩
  have h0 : ∃ m, S m a w := by
    obtain ⟨m, _, hm⟩ := abs (K := fun _ => True) hr hle ⟨fun A C0 r w us a1 a2 a3 a4 => by
      obtain ⟨xs', H', r', ⟨m, k1⟩, k2⟩ := start.out A C0 r w us a1 a2 a3 a4
      exact ⟨xs', H', r', ⟨m, trivial, k1⟩, k2⟩⟩
    exact ⟨m, hm⟩
  refine wp_loop (fun a w => ∃ m, S m a w) (fun a w => if h : ∃ m, S m a w then Classical.choose (exists_least h) else 0) h0 ?_
  intro a w hS
  rw [dif_pos hS]
  obtain ⟨xs, H', r', hI, hr', hle'⟩ := (Classical.choose_spec (exists_least hS)).1
  refine wp_mono (evC_sound hT hl c _ H' _ (round _ xs H' hI) hp r' w a hr' hle') ?_
  rintro ex a' w' ⟨x', e', H'', r'', rfl, h1, h2, h3⟩
  cases x' with
  | nx =>
    obtain ⟨m', hm', hS'⟩ := abs h2 h3 h1
    refine ⟨⟨m', hS'⟩, ?_⟩
    rw [dif_pos ⟨m', hS'⟩]
    exact Nat.lt_of_le_of_lt ((Classical.choose_spec (exists_least (S := fun m => S m a' w') ⟨m', hS'⟩)).2 _ hS') hm'
  | out i => exact ⟨.out i, e', H'', r'', rfl, h1, h2, h3⟩
  | ret => exact ⟨.ret, e', H'', r'', rfl, h1, h2, h3⟩

def number : Nat → List AV → Env
  | _, [] => []
  | i, x :: xs => (i, x) :: number (i + 1) xs
omit hT in
theorem number_rv {C : Ctx} : ∀ (xs : List AV) (vs : List Value) (i n : Nat), RVs C xs vs → ∀ t, RV C (look (number i xs) t) ((vs ++ List.replicate n undef).getD (t - i) undef) ∨ (t < i ∧ look (number i xs) t = .junk)
  | [], vs, i, n, h, t => by left; simp [number, look, RV]
  | x :: xs, vs, i, n, h, t => by
    simp only [RVs] at h
    obtain ⟨v, us, rfl, h1, h2⟩ := h
    simp only [number, look]
    by_cases ht : i = t
    · subst ht; left; simp; exact h1
    · rw [if_neg ht]
      rcases number_rv xs us (i + 1) n h2 t with h | ⟨h3, h4⟩
      · by_cases hlt : t < i
        · right
          refine ⟨hlt, ?_⟩
          have : ∀ (xs : List AV) (j : Nat), t < j → look (number j xs) t = .junk := by
            intro xs
            induction xs with
            | nil => intro j _; rfl
            | cons y ys ih => intro j hj; simp only [number, look]; rw [if_neg (by omega)]; exact ih (j + 1) (by omega)
          exact this xs (i + 1) (by omega)
        · left
          rw [show t - i = (t - (i + 1)) + 1 by omega]
          simpa using h
      · by_cases hlt : t < i
        · exact .inr ⟨hlt, h4⟩
        · omega

def resK (T : Tab) (e : Env) (H : AHeap) : List ResultVar → (List AV → Prop) → Prop
  | [], k => k []
  | .tmp t :: l, k => get e t fun v => resK T e H l fun vs => k (v :: vs)
  | .cell p ty :: l, k => get e p fun a => evLoad T [] H ty a fun v => resK T e H l fun vs => k (v :: vs)
def oneK (vs : List AV) (k : AV → Prop) : Prop :=
  match vs with
  | [v] => k v
  | vs => k (.tup vs)

omit hT in
theorem loadAt_as {P : Program} {t : TypeId} {v u : Value} {w : World} (h : (Instr.loadAt t v).run P w = .ok u w) : (do loadVar t (← asAddr v) : Sem Value).run P w = .ok u w := by
  cases v <;> simp [Instr.loadAt, Instr.sureAddr] at h
  rename_i a
  cases a <;> simp_all [asAddr]

omit hT in
def resOf (tmps : Array Value) : ResultVar → Sem Value
  | .tmp t => pure (tmps.getD t undef)
  | .cell a t => do loadVar t (← asAddr (tmps.getD a undef))
omit hT in
theorem results_eq (fn : Func) (tmps : Array Value) : results fn tmps = (do let vs ← fn.results.mapM (resOf tmps); pure (if h : vs.size = 1 then vs[0] else .tuple vs)) := by
  have : (fun x => match x with
    | .tmp t => pure (tmps.getD t undef)
    | .cell a t => do loadVar t (← asAddr (tmps.getD a undef)) : ResultVar → Sem Value) = resOf tmps := by
    funext x; cases x <;> rfl
  unfold results
  rw [← this]
  rfl

theorem resK_run {r : List (Option Nat)} {H : AHeap} {w : World} {e : Env} {a : Act} (hr : Rel T N A r H w e a) : ∀ (l : List ResultVar) (k : List AV → Prop), resK T e H l k →
    ∃ vs us, k vs ∧ RVs (ctx A r H w) vs us ∧ (l.mapM (resOf a.tmps)).run T.P w = .ok us w
  | [], k, h => ⟨[], [], h, by simp [RVs], by simp⟩
  | .tmp t :: l, k, h => by
    simp only [resK, get_eq] at h
    obtain ⟨vs, us, h1, h2, h3⟩ := resK_run hr l _ h
    refine ⟨_, a.tmps.getD t undef :: us, h1, by simp only [RVs]; exact ⟨_, _, rfl, hr.env t, h2⟩, ?_⟩
    rw [List.mapM_cons]
    simp only [resOf, Sem.run_bind, Sem.run_pure, Result.andThen_ok]
    rw [h3]
    rfl
  | .cell p ty :: l, k, h => by
    simp only [resK, get_eq] at h
    obtain ⟨x, u, h1, h2, h3⟩ := yld_load hT hr.inv h (hr.env p)
    obtain ⟨vs, us, h4, h5, h6⟩ := resK_run hr l _ h1
    refine ⟨_, u :: us, h4, by simp only [RVs]; exact ⟨_, _, rfl, h2, h5⟩, ?_⟩
    have := loadAt_as (h3 w (Agree.refl r H [] w))
    rw [List.mapM_cons]
    simp only [resOf, Sem.run_bind] at this ⊢
    simp only [this, Sem.run_pure, Result.andThen_ok]
    rw [h6]
    rfl

/-- A function's rule. -/
theorem CallC.body {f : FuncId} {xs : List AV} {H : AHeap} {k : AV → AHeap → List Nat → Prop} {fn : Func} {c : Code} (pl : Plans) (hf : T.P.funcs[f]? = some fn) (hb : fn.body = some c) (hp : plansOk pl c = true) (hn : Nat.ble xs.length fn.ntmps = true)
    (h : evC T fn.ntmps H.length pl c (number 0 xs) H fun x e H' => match x with
      | .out _ => False
      | _ => resK T e H' fn.results.toList fun vs => oneK vs fun v => AbsC H.length [v] H' fun us H'' => match us with
        | [u] => k u H'' (List.range H.length)
        | _ => False) : CallC T f xs H k := by
  refine ⟨fun A r w vs hi hl hx => calls_of_wp hf hb ?_⟩
  have hn' := Nat.le_of_ble_eq_true hn
  have hlen := hx.length
  have hrel : Rel T fn.ntmps A r H w (number 0 xs) { tmps := vs.toArray ++ Array.replicate (fn.ntmps - vs.toArray.size) undef, defers := [] } := by
    refine ⟨hi, hl, fun t => ?_, by simp; omega, rfl⟩
    rcases number_rv xs vs 0 (fn.ntmps - vs.length) hx t with h | ⟨h, _⟩
    · rw [Nat.sub_zero] at h
      have e1 : (vs.toArray ++ Array.replicate (fn.ntmps - vs.toArray.size) undef).getD t undef = (vs ++ List.replicate (fn.ntmps - vs.length) undef).getD t undef := by
        have e2 : vs.toArray ++ Array.replicate (fn.ntmps - vs.toArray.size) undef = (vs ++ List.replicate (fn.ntmps - vs.length) undef).toArray := by
          apply Array.ext'; simp
        rw [e2]; simp [List.getD]
      rw [e1]; exact h
    · omega
  refine wp_mono (evC_sound hT (C0 := ctx A r H w) hi.len c _ H _ h hp r w _ hrel (Le.refl _)) ?_
  have fin : ∀ (e : Env) (H' : AHeap) (r' : List (Option Nat)) (a' : Act) (w' : World), (resK T e H' fn.results.toList fun vs => oneK vs fun v => AbsC H.length [v] H' fun us H'' => match us with
        | [u] => k u H'' (List.range H.length)
        | _ => False) → Rel T fn.ntmps A r' H' w' e a' → Le (ctx A r H w) (ctx A r' H' w') → a'.defers = [] ∧ ∃ v, (results fn a'.tmps).run T.P w' = .ok v w' ∧ CPost A r H w k (.returned v) w' := by
    intro e H' r' a' w' h hr hle
    obtain ⟨vs, us, h1, h2, h3⟩ := resK_run hT hr _ _ h
    have hus := h2.length
    have key : ∃ x v, RV (ctx A r' H' w') x v ∧ (results fn a'.tmps).run T.P w' = .ok v w' ∧ (AbsC H.length [x] H' fun us H'' => match us with
        | [u] => k u H'' (List.range H.length)
        | _ => False) := by
      have hres : ∀ v, (if h : us.toArray.size = 1 then us.toArray[0] else .tuple us.toArray) = v → (results fn a'.tmps).run T.P w' = .ok v w' := by
        rintro v rfl
        have hm : (fn.results.mapM (resOf a'.tmps)).run T.P w' = .ok us.toArray w' := by
          rw [Array.mapM_eq_mapM_toList, Sem.run_map, h3]; rfl
        rw [results_eq]
        simp only [Sem.run_bind, hm, Result.andThen_ok, Sem.run_pure]
      unfold oneK at h1
      split at h1
      · rename_i x
        simp only [RVs] at h2
        obtain ⟨v, l, rfl, h4, rfl⟩ := h2
        exact ⟨x, v, h4, hres _ (by simp), h1⟩
      · rename_i hne
        refine ⟨.tup vs, .tuple us.toArray, by simp only [RV]; exact ⟨us, rfl, h2⟩, hres _ ?_, h1⟩
        rw [dif_neg]
        simp only [List.size_toArray, hus]
        intro h1l
        cases vs with
        | nil => simp at h1l
        | cons y ys =>
          cases ys with
          | nil => exact hne y rfl
          | cons z zs => simp at h1l
    obtain ⟨x, v, hv, hrun, habs⟩ := key
    refine ⟨hr.defers, v, hrun, ?_⟩
    obtain ⟨xs', H'', r'', k1, k2, k3, k4, k5⟩ := habs.out A (ctx A r H w) r' w' [v] hi.len hle hr.inv (by simp only [RVs]; exact ⟨v, [], rfl, hv, rfl⟩)
    split at k1
    · rename_i u
      simp only [RVs] at k3
      obtain ⟨v', l, e, k3, rfl⟩ := k3
      simp only [List.cons.injEq, and_true] at e
      subst e
      refine ⟨v, u, H'', List.range H.length, r'', rfl, k1, ⟨k4, k2, fun id x b a1 _ a3 => ?_, fun id x a1 a3 => ?_⟩, k3⟩
      · exact absurd (List.mem_range.2 (List.getElem?_eq_some_iff.1 a1).1) a3
      · exact absurd (List.mem_range.2 (List.getElem?_eq_some_iff.1 a1).1) a3
    · exact k1.elim
  rintro ex a' w' ⟨x', e', H', r', rfl, h1, h2, h3⟩
  cases x' with
  | nx => exact fin e' H' r' a' w' h1 h2 h3
  | out i => exact h1.elim
  | ret => exact fin e' H' r' a' w' h1 h2 h3
end
end Go.Ev
