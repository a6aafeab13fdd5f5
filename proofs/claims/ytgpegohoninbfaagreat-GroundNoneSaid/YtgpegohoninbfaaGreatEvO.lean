/- The mill, part O: all operations, calls. -/
import Derived.Test.YtgpegohoninbfaaGreatEvMp
namespace Go.Ev
set_option linter.unusedVariables false
set_option linter.unusedSimpArgs false
open Go.RowKit
variable {A : Nat → Nat → Prop}
set_option linter.unusedVariables false

/-- How a call comes back. -/
def CPost (A : Nat → Nat → Prop) (r : List (Option Nat)) (H : AHeap) (w : World) (k : AV → AHeap → List Nat → Prop) (e : Ending) (w' : World) : Prop :=
  ∃ v x H' X r', e = .returned v ∧ k x H' X ∧ StepOK A r H w r' H' w' X ∧ RV (ctx A r' H' w') x v

/-- A call with abstract arguments, on an abstract heap. -/
structure CallC (T : Tab) (f : FuncId) (xs : List AV) (H : AHeap) (k : AV → AHeap → List Nat → Prop) : Prop where
  out : ∀ (A : Nat → Nat → Prop) (r : List (Option Nat)) (w : World) (vs : List Value), Inv A r H w → Laid T (ctx A r H w) → RVs (ctx A r H w) xs vs → Calls T.P f vs.toArray w (CPost A r H w k)

/-- A call of a function value. -/
def evCallV (T : Tab) (H : AHeap) (f : AV) (xs : List AV) (k : AV → AHeap → List Nat → Prop) : Prop :=
  match f with
  | .fn (.func g) [] [] => match T.fn g with
    | true => CallC T g xs H k
    | false => False
  | .fn (.func g) fs cs => match T.fn g with
    | true => CallC T g (fs ++ xs ++ cs) H k
    | false => False
  | _ => False

/-- Any operation. -/
def evE (T : Tab) (H : AHeap) (e : Env) (op : Op) (k : AV → AHeap → List Nat → Prop) : Prop :=
  match op with
  | .alloc t => evAlloc T H t k
  | .box t x => opd T e x fun a => evBox H t a k
  | .store t a x => opd T e a fun p => opd T e x fun v => evStore T H t p v k
  | .buildSlice t len parts => partsK T e parts.toList fun ps => evBuildSlice T H t len ps k
  | .makeSlice t l c => opd T e l fun a => opd T e c fun b => evMakeSlice T H t a b k
  | .makeMap _ none => evMakeMap H k
  | .lookup t x y ok => opd T e x fun a => opd T e y fun b => evLookup T H t a b ok fun v => k v H []
  | .mapUpdate t m y v => opd T e m fun a => opd T e y fun b => opd T e v fun c => evMapUpdate T H t a b c k
  | .insert t m y v => opd T e m fun a => opd T e y fun b => opd T e v fun c => evMapUpdate T H t a b c k
  | .mapEntry t m y => opd T e m fun a => opd T e y fun b => evMapEntry T H t a b k
  | .entryStore _ m s v => opd T e m fun a => opd T e s fun b => opd T e v fun c => evEntryStore H a b c k
  | .range t x => opd T e x fun a => evRange T H t a k
  | .next x false => opd T e x fun a => evNext H a fun v => k v H []
  | .call c => match c.callee with
    | .builtin .len => match c.argTypes.toList, c.args.toList with
      | [t], [x] => opd T e x fun
        | .m id => match T.und t with
          | some (.map _ _) => evMapLen H id fun v => k v H []
          | _ => False
        | _ => evQ T [] H e op fun v => k v H []
      | _, _ => False
    | .value f => opd T e f fun g => opdsK T e c.args.toList fun xs => evCallV T H g xs k
    | .builtin .append => match c.argTypes.toList, c.args.toList with
      | [t, u], [s, x] => opd T e s fun a => opd T e x fun b => evAppend T H t u a b k
      | _, _ => False
    | .builtin .clear => match c.argTypes.toList, c.args.toList with
      | [t], [x] => opd T e x fun a => evClear T H t a k
      | _, _ => False
    | .builtin .copy => match c.argTypes.toList, c.args.toList with
      | [t, u], [d, x] => opd T e d fun a => opd T e x fun b => evCopy T H t a b k
      | _, _ => False
    | _ => evQ T [] H e op fun v => k v H []
  | _ => evQ T [] H e op fun v => k v H []

section
variable {T : Tab} (hT : T.OK) {r : List (Option Nat)} {H : AHeap} {w : World} {k : AV → AHeap → List Nat → Prop} {e : Env} {a : Act}
include hT

/-- What follows an operation. -/
def After (P : Program) (A : Nat → Nat → Prop) (r : List (Option Nat)) (H : AHeap) (w : World) (o : Oper) (a : Act) (k : AV → AHeap → List Nat → Prop) (next : Act → World → Prop) : Prop :=
  ∀ x v H' X r' w', k x H' X → StepOK A r H w r' H' w' X → RV (ctx A r' H' w') x v → next (a.put o.dst v) w'

omit hT in
theorem upon_eff {P : Program} {o : Oper} {next : Act → World → Prop} {Q : Exit → Act → World → Prop} {s : Sem Value} (h : Eff P A r H w k s) (hn : After P A r H w o a k next) (hx : (execOp a.eval o).run P w = (do pure (.value (← s)) : Sem Next).run P w) : o.wp P a w next Q := by
  obtain ⟨x, v, H', X, r', w', h1, h2, h3, h4⟩ := h
  unfold Oper.wp
  rw [hx]
  simp only [Sem.run_bind, h1, Result.andThen_ok, Sem.run_pure, Oper.upon]
  exact hn x v H' X r' w' h2 h3 h4

set_option maxHeartbeats 1000000 in
theorem evE_sound {o : Oper} {next : Act → World → Prop} {Q : Exit → Act → World → Prop} (hi : Inv A r H w) (hl : Laid T (ctx A r H w)) (he : RE (ctx A r H w) e a) (h : evE T H e o.op k) (hn : After T.P A r H w o a k next) : o.wp T.P a w next Q := by
  have V := rv_opv hl he
  have quiet : (evQ T [] H e o.op fun v => k v H []) → o.wp T.P a w next Q := by
    intro h
    obtain ⟨x, v, h1, h2, h3⟩ := evQ_sound hT (X := []) (S := fun w' => w' = w) hi hl he o (fun _ _ _ w' e => e ▸ Agree.refl (A := A) r H [] w) h
    unfold Oper.wp
    rw [h3 w rfl]
    simp only [Oper.upon]
    exact hn x v H [] r w h1 (StepOK.refl hi) h2
  have fromY : ∀ {s : Sem Value}, Yld T.P (ctx A r H w) (fun w' => w' = w) (fun v => k v H []) s → (execOp a.eval o).run T.P w = (do pure (.value (← s)) : Sem Next).run T.P w → o.wp T.P a w next Q := by
    rintro s ⟨x, v, h1, h2, h3⟩ hx
    unfold Oper.wp
    rw [hx]
    simp only [Sem.run_bind, h3 w rfl, Result.andThen_ok, Sem.run_pure, Oper.upon]
    exact hn x v H [] r w h1 (StepOK.refl hi) h2
  have fromU : ∀ {s : Sem Unit}, (∃ w' H' X, s.run T.P w = .ok () w' ∧ k .junk H' X ∧ StepOK A r H w r H' w' X) → (execOp a.eval o).run T.P w = (do s; pure .skip : Sem Next).run T.P w → o.wp T.P a w next Q := by
    rintro s ⟨w', H', X, h1, h2, h3⟩ hx
    unfold Oper.wp
    rw [hx]
    simp only [Sem.run_bind, h1, Result.andThen_ok, Sem.run_pure, Oper.upon]
    exact hn _ undef _ _ _ _ h2 h3 (by simp [RV])
  obtain ⟨dst, op, ty, pos, after, guard⟩ := o
  cases op
  case alloc t => exact upon_eff (eff_alloc hT hi h) hn rfl
  case box t x =>
    simp only [evE, opd_eq] at h
    exact upon_eff (eff_box hi h (V x)) hn rfl
  case store t p x =>
    simp only [evE, opd_eq] at h
    obtain ⟨w', H', X, h1, h2, h3⟩ := eff_store hT hi h (V p) (V x)
    unfold Oper.wp
    have : (execOp a.eval ⟨dst, .store t p x, ty, pos, after, guard⟩).run T.P w = .ok .skip w' := by simp [execOp, h1]
    rw [this]
    simp only [Oper.upon]
    exact hn _ undef _ _ _ _ h2 h3 (by simp [RV])
  case buildSlice t len parts =>
    simp only [evE] at h
    obtain ⟨vs, h1, h2⟩ := partsK_rv hl he _ _ h
    exact upon_eff (eff_buildSlice hT hi h1 (vals := parts.map fun (i, x) => (i, a.eval x)) (by simpa using h2)) hn rfl
  case makeSlice t l c =>
    simp only [evE, opd_eq] at h
    exact upon_eff (eff_makeSlice hT hi h (V l) (V c)) hn rfl
  case makeMap t rs =>
    cases rs with
    | none => simp only [evE] at h; exact upon_eff (eff_makeMap (T := T) hi h) hn rfl
    | some x => exact quiet h
  case lookup t x y ok =>
    simp only [evE, opd_eq] at h
    exact fromY (yld_lookup hT (S := fun w' => w' = w) hi (fun w' e b _ => by rw [e]) h (V x) (V y)) rfl
  case mapUpdate t m y v =>
    simp only [evE, opd_eq] at h
    exact fromU (eff_mapUpdate hT hi h (V m) (V y) (V v)) rfl
  case insert t m y v =>
    simp only [evE, opd_eq] at h
    exact fromU (eff_mapUpdate hT hi h (V m) (V y) (V v)) rfl
  case mapEntry t m y =>
    simp only [evE, opd_eq] at h
    exact upon_eff (eff_mapEntry hT hi h (V m) (V y)) hn rfl
  case entryStore t m s v =>
    simp only [evE, opd_eq] at h
    exact fromU (eff_entryStore (P := T.P) (t := t) hi h (V m) (V s) (V v)) rfl
  case range t x =>
    simp only [evE, opd_eq] at h
    exact upon_eff (eff_range hT hi h (V x)) hn rfl
  case next x isS =>
    cases isS with
    | false =>
      simp only [evE, opd_eq] at h
      exact fromY (yld_next (P := T.P) hi (ty := ty) h (V x)) rfl
    | true => exact quiet h
  case call c =>
    obtain ⟨callee, args, ats⟩ := c
    cases callee with
    | invoke x n => exact quiet h
    | value f =>
      simp only [evE, opd_eq] at h
      obtain ⟨xs, h, hxs⟩ := opdsK_rv hl he _ _ h
      have hf := V f
      have key : ∀ (g : Nat) (fs cs : List AV), opv T e f = .fn (.func g) fs cs → T.fn g = true → CallC T g (fs ++ xs ++ cs) H k → Oper.wp T.P ⟨dst, .call ⟨.value f, args, ats⟩, ty, pos, after, guard⟩ a w next Q := by
        intro g fs cs hfv hg hc
        rw [hfv] at hf
        simp only [RV] at hf
        obtain ⟨us, zs, hu, h1, h2⟩ := hf
        have hcall := hc.out A r w (us ++ args.toList.map a.eval ++ zs) hi hl ((h1.append hxs).append h2)
        unfold Oper.wp
        have hrun : (execOp a.eval ⟨dst, .call ⟨.value f, args, ats⟩, ty, pos, after, guard⟩).run T.P w = .ok (.enter g (us ++ args.toList.map a.eval ++ zs).toArray) w := by
          have ha : us.toArray ++ args.map a.eval ++ zs.toArray = (us ++ args.toList.map a.eval ++ zs).toArray := by
            apply Array.ext'
            simp
          simp only [execOp, resolve, hu, Deferred.ofValue, Sem.run_bind, Sem.run_pure, Result.andThen_ok, invoke]
          rw [ha]
          exact hT.fn g hg _ w
        rw [hrun]
        simp only [Oper.upon]
        refine hcall.mono ?_
        rintro en w' ⟨v, x, H', X, r', rfl, h3, h4, h5⟩
        exact hn x v H' X r' w' h3 h4 h5
      unfold evCallV at h
      split at h
      · rename_i g hfv
        split at h
        · rename_i hg; exact key g [] [] hfv hg (by rw [List.nil_append, List.append_nil]; exact h)
        · exact h.elim
      · rename_i g fs cs _ hfv
        split at h
        · rename_i hg; exact key g fs cs hfv hg h
        · exact h.elim
      · exact h.elim
    | builtin b =>
      cases b
      case len =>
        simp only [evE] at h
        split at h
        · rename_i t x hts hxs
          simp only [opd_eq] at h
          split at h
          · rename_i id hv
            split at h
            · rename_i kt el hu
              have e1 : ats = #[t] := by rw [← Array.toArray_toList (xs := ats), hts]
              have e2 : args = #[x] := by rw [← Array.toArray_toList (xs := args), hxs]
              subst e1 e2
              have hvx := V x
              rw [hv] at hvx
              refine fromY (yld_mapLen hT (S := fun w' => w' = w) hi (fun w' e b _ => by rw [e]) (ty := ty) (ts := #[t]) (us := #[a.eval x]) hu h rfl hvx rfl) ?_
              simp [execOp, resolve, invoke, builtin]
            · exact h.elim
          · exact quiet h
        · exact h.elim
      case append =>
        simp only [evE] at h
        split at h
        · rename_i t u s x hts hxs
          simp only [opd_eq] at h
          refine upon_eff (eff_append hT hi (ty := ty) h (V s) (V x)) hn ?_
          have e1 : ats = #[t, u] := by rw [← Array.toArray_toList (xs := ats), hts]
          have e2 : args = #[s, x] := by rw [← Array.toArray_toList (xs := args), hxs]
          subst e1 e2
          simp [execOp, resolve, invoke, builtin]
        · exact h.elim
      case clear =>
        simp only [evE] at h
        split at h
        · rename_i t x hts hxs
          simp only [opd_eq] at h
          have e1 : ats = #[t] := by rw [← Array.toArray_toList (xs := ats), hts]
          have e2 : args = #[x] := by rw [← Array.toArray_toList (xs := args), hxs]
          subst e1 e2
          refine upon_eff (eff_clear hT hi (ty := ty) (ts := #[t]) (us := #[a.eval x]) h rfl rfl (V x)) hn ?_
          simp [execOp, resolve, invoke, builtin]
        · exact h.elim
      case copy =>
        simp only [evE] at h
        split at h
        · rename_i t u s x hts hxs
          simp only [opd_eq] at h
          refine upon_eff (eff_copy hT hi (u := u) (ty := ty) h (V s) (V x)) hn ?_
          have e1 : ats = #[t, u] := by rw [← Array.toArray_toList (xs := ats), hts]
          have e2 : args = #[s, x] := by rw [← Array.toArray_toList (xs := args), hxs]
          subst e1 e2
          simp [execOp, resolve, invoke, builtin]
        · exact h.elim
      all_goals exact quiet h
  all_goals exact quiet h
end
end Go.Ev
