/- The mill, part Be: code that is known whole, run. -/
import Derived.Test.YtgpegohoninbfaaGreatEvBd
import Derived.Test.YtgpegohoninbfaaGreatEvT
import Derived.LoopN
namespace Go.Ev
set_option linter.unusedVariables false
set_option linter.unusedSimpArgs false
open Go.RowKit
set_option linter.unusedVariables false
variable {A : Nat → Nat → Prop}

def opsTB (T : Tab) (cb : CallB) (N : Nat) (all : List Oper) : List Oper → Env → AHeap → (Env → AHeap → Bool) → Bool
  | [], e, H, k => k e H
  | o :: l, e, H, k => guardB all e o.guard
      (evEB T cb H e o.op fun v H' => setB N o.dst v e fun e' => opsTB T cb N all l e' H' k)
      (setB N o.dst (.g (.c undef)) e fun e' => opsTB T cb N all l e' H k)
def resB (T : Tab) (e : Env) (H : AHeap) : List ResultVar → (List AV → Bool) → Bool
  | [], k => k []
  | .tmp t :: l, k => getB e t fun v => resB T e H l fun vs => k (v :: vs)
  | .cell p ty :: l, k => getB e p fun a => evLoadB T H ty a fun v => resB T e H l fun vs => k (v :: vs)
def oneB (vs : List AV) (k : AV → Bool) : Bool :=
  match vs with
  | [v] => k v
  | vs => k (.tup vs)
def numB : Nat → List AV → (Env → Bool) → Bool
  | _, [], k => k []
  | i, x :: xs, k => fN (i + 1) fun j => numB j xs fun e => k ((i, x) :: e)
theorem numB_eq : ∀ (xs : List AV) (i : Nat) (k : Env → Bool), numB i xs k = k (number i xs)
  | [], _, _ => rfl
  | x :: xs, i, k => by simp only [numB, fN_eq, number, numB_eq xs]
/-- The operations of a plan that make blocks can be made. -/
def latesB (T : Tab) (N : Nat) (all : List Oper) : List PStep → Bool
  | [] => true
  | (kd, i) :: pl => match Nat.beq kd 2 with
    | true => match all[i]? with
      | some o => match o.guard, o.dst with
        | none, some d => Nat.blt d N && lateB T [] o.op (fun _ _ => true) && latesB T N all pl
        | _, _ => false
      | none => false
    | false => latesB T N all pl

/-- Plans: of a function's regions. -/
abbrev PTab := Nat → Nat → Option (List PStep × Watch)
abbrev RunB := Nat → Nat → Code → Env → AHeap → (Ex → Env → AHeap → Bool) → Bool
def callFB (T : Tab) (run : RunB) : CallB := fun g xs H k =>
  match T.P.funcs[g]? with
  | some fn => match fn.body with
    | some c => match Nat.ble xs.length fn.ntmps with
      | true => numB 0 xs fun e => run g fn.ntmps c e H fun x e' H' => match x with
        | .out _ => false
        | _ => resB T e' H' fn.results.toList fun vs => oneB vs fun v => k v H'
      | false => false
    | none => false
  | none => false
def stepB (T : Tab) (pt : PTab) (run : RunB) : RunB := fun f N c e H k =>
  match c with
  | .skip => k .nx e H
  | .region _ ops false => opsTB T (callFB T run) N ops.toList ops.toList e H (k .nx)
  | .region id ops true => match pt f id with
    | some (pl, W) => latesB T N ops.toList pl && clearB N ops.toList pl e fun e0 => match W with
      | [] => planB T (callFB T run) N ops.toList W [] pl e0 H (k .nx)
      | _ :: _ => entB T N ops.toList H pl e0 fun R => standR T H R && planB T (callFB T run) N ops.toList W R pl e0 H (k .nx)
    | none => false
  | .seq a b => run f N a e H fun x e' H' => match x with
    | .nx => run f N b e' H' k
    | .out i => k (.out i) e' H'
    | .ret => k .ret e' H'
  | .cond c a b => opdB T e c fun
    | .g (.c (.bool t)) => match t with
      | true => run f N a e H k
      | false => run f N b e H k
    | _ => false
  | .block id c => run f N c e H fun x e' H' => match x with
    | .nx => k .nx e' H'
    | .out j => match Nat.beq j id with
      | true => k .nx e' H'
      | false => k (.out j) e' H'
    | .ret => k .ret e' H'
  | .loop c => run f N c e H fun x e' H' => match x with
    | .nx => run f N (.loop c) e' H' k
    | .out i => k (.out i) e' H'
    | .ret => k .ret e' H'
  | .exit id => k (.out id) e H
  | .ret => k .ret e H
  | _ => false
def runB (T : Tab) (pt : PTab) : Nat → RunB
  | 0 => fun _ _ _ _ _ _ => false
  | n + 1 => stepB T pt (runB T pt n)

def aDst (ops : Array Oper) : List PStep → Bool
  | [] => true
  | (kd, i) :: pl => (!Nat.beq kd 2 || dstOnly ops i) && aDst ops pl
def aeOk (full : List PStep) : List PStep → Bool
  | [] => true
  | (kd, i) :: pl => (!Nat.beq kd 2 || !isE full i) && aeOk full pl
theorem aeOk_ok {full : List PStep} : ∀ (pl : List PStep), aeOk full pl = true → ∀ j, isA pl j = true → isE full j = false
  | [], _, j, hj => by simp [isA] at hj
  | (kd, i) :: pl, h, j, hj => by
    simp only [aeOk, Bool.and_eq_true, Bool.or_eq_true, Bool.not_eq_true'] at h
    simp only [isA, Bool.or_eq_true, Bool.and_eq_true] at hj
    rcases hj with ⟨hk, hj⟩ | hj
    · have := Nat.eq_of_beq_eq_true hj
      subst this
      rcases h.1 with h1 | h1
      · rw [hk] at h1; cases h1
      · exact h1
    · exact aeOk_ok pl h.2 j hj
def plansGood (pl : Nat → Option (List PStep × Watch)) : Code → Bool
  | .region id ops true => match pl id with
    | some (p, W) => planGood ops p W && aDst ops p && aeOk p p
    | none => true
  | .seq a b => plansGood pl a && plansGood pl b
  | .cond _ a b => plansGood pl a && plansGood pl b
  | .block _ c => plansGood pl c
  | .loop c => plansGood pl c
  | _ => true
/-- All plans of a program are good. -/
def PTab.OK (T : Tab) (pt : PTab) : Prop := ∀ f fn c, T.P.funcs[f]? = some fn → fn.body = some c → plansGood (pt f) c = true

/-! ### soundness -/
theorem clearB_ok {N : Nat} {all : List Oper} : ∀ (pl : List PStep) (e : Env) (k : Env → Bool), clearB N all pl e k = true →
    ∃ e0, k e0 = true ∧ (∀ d, look e0 d = look e d ∨ look e0 d = .junk) ∧ ∀ j d, isA pl j = true → (all[j]?).bind (·.dst) = some d → look e0 d = .junk
  | [], e, k, h => ⟨e, h, fun _ => .inl rfl, fun j d hj _ => by simp [isA] at hj⟩
  | (kd, i) :: pl, e, k, h => by
    simp only [clearB] at h
    split at h
    · rename_i hk
      split at h
      · rename_i d hd
        obtain ⟨h1, h2⟩ := setB_ok h
        obtain ⟨e0, h3, h4, h5⟩ := clearB_ok pl _ k h2
        have hl : ∀ d', look (setO (some d) .junk e) d' = look e d' ∨ look (setO (some d) .junk e) d' = .junk := by
          intro d'
          simp only [setO, look_setE]
          split
          · exact .inr rfl
          · exact .inl rfl
        refine ⟨e0, h3, fun d' => ?_, fun j d' hj hd' => ?_⟩
        · rcases h4 d' with h | h
          · rw [h]; exact hl d'
          · exact .inr h
        · simp only [isA, Bool.or_eq_true, Bool.and_eq_true] at hj
          rcases hj with ⟨_, hj⟩ | hj
          · have := Nat.eq_of_beq_eq_true hj
            subst this
            rw [hd] at hd'
            cases hd'
            rcases h4 d with h | h
            · rw [h]; simp [setO, look_setE]
            · exact h
          · exact h5 j d' hj hd'
      · cases h
    · rename_i hk
      obtain ⟨e0, h3, h4, h5⟩ := clearB_ok pl e k h
      refine ⟨e0, h3, h4, fun j d' hj hd' => ?_⟩
      simp only [isA, hk, Bool.false_and, Bool.false_or] at hj
      exact h5 j d' hj hd'
theorem latesB_ok {T : Tab} (hT : T.OK) {N : Nat} {ops : Array Oper} : ∀ (pl : List PStep), latesB T N ops.toList pl = true → ∀ j, isA pl j = true →
    ∃ o d x av obj val, ops[j]? = some o ∧ o.dst = some d ∧ d < N ∧ o.guard = none ∧ LateSpec T o.op x av obj val
  | [], _, j, hj => by simp [isA] at hj
  | (kd, i) :: pl, h, j, hj => by
    simp only [latesB] at h
    simp only [isA, Bool.or_eq_true, Bool.and_eq_true] at hj
    split at h
    · rename_i hk
      split at h
      · rename_i o ho
        split at h
        · rename_i d hg hd
          simp only [Bool.and_eq_true] at h
          obtain ⟨⟨h1, h2⟩, h3⟩ := h
          rcases hj with ⟨_, hj⟩ | hj
          · have := Nat.eq_of_beq_eq_true hj
            subst this
            obtain ⟨x, av, obj, val, hs, _⟩ := lateB_ok hT h2
            exact ⟨o, d, x, av, obj, val, by rw [← Array.getElem?_toList]; exact ho, hd, blt_lt h1, hg, hs⟩
          · exact latesB_ok hT pl h3 j hj
        · cases h
      · cases h
    · rename_i hk
      rcases hj with ⟨hj, _⟩ | hj
      · rw [hk] at hj; cases hj
      · exact latesB_ok hT pl h j hj
theorem aDst_ok {ops : Array Oper} : ∀ (pl : List PStep), aDst ops pl = true → ∀ j, isA pl j = true → dstOnly ops j = true
  | [], _, j, hj => by simp [isA] at hj
  | (kd, i) :: pl, h, j, hj => by
    simp only [aDst, Bool.and_eq_true, Bool.or_eq_true, Bool.not_eq_true'] at h
    simp only [isA, Bool.or_eq_true, Bool.and_eq_true] at hj
    rcases hj with ⟨hk, hj⟩ | hj
    · have := Nat.eq_of_beq_eq_true hj
      subst this
      rcases h.1 with h1 | h1
      · rw [hk] at h1; cases h1
      · exact h1
    · exact aDst_ok pl h.2 j hj
theorem standR_ok {T : Tab} (hT : T.OK) {r : List (Option Nat)} {H : AHeap} {w : World} (hi : Inv A r H w) : ∀ {R : List Ent}, standR T H R = true → ∀ n ∈ R, ∃ av c, RV (ctx A r H w) n.2.2.1 av ∧ RV (ctx A r H w) n.2.2.2 c
  | [], _, n, hn => by cases hn
  | (q, t, a, v) :: R, h, n, hn => by
    simp only [standR, Bool.and_eq_true] at h
    rcases List.mem_cons.1 hn with rfl | hn
    · have h1 := h.1
      split at h1
      · rename_i id sz i j
        have he := evLoadB_ok h1
        have hb : ∃ b, r[id]? = some (some b) := by
          simp only [evLoad] at he
          split at he
          · rename_i hH
            obtain ⟨b, hr, hok⟩ := hi.get hH
            cases b with
            | none => exact hok.elim
            | some b => exact ⟨b, hr⟩
          · rename_i hH
            obtain ⟨b, hr, hok⟩ := hi.get hH
            cases b with
            | none =>
              exfalso
              have h0 := hok.2
              split at he
              · split at he
                · omega
                · exact he
              · split at he
                · omega
                · exact he
              · exact he
            | some b => exact ⟨b, hr⟩
          · exact he.elim
        obtain ⟨b, hb⟩ := hb
        have hx : RV (ctx A r H w) (.p id sz i j) (.pointer (some ⟨b, i * sz + j, none⟩)) := by simp only [RV]; exact ⟨b, hb, rfl⟩
        obtain ⟨v', c, k1, k2, _⟩ := yld_load hT hi he hx
        obtain ⟨e, _⟩ := eqA_ok k1
        exact ⟨_, c, hx, by rw [e]; exact k2⟩
      · cases h1
    · exact standR_ok hT hi h.2 n hn
theorem unl_repl (n : Nat) : unl (Array.replicate n false) = n := by
  have : ∀ n, (List.replicate n false).countP (fun b => !b) = n := by
    intro n
    induction n with
    | zero => rfl
    | succ n ih => simp [List.replicate_succ, ih]
  simp only [unl, Array.toList_replicate]
  exact this n

section
variable {T : Tab} (hT : T.OK)
include hT

theorem opsTB_sound {cb : CallB} (hcb : CallOK T cb) {N : Nat} {C0 : Ctx} {ops : Array Oper} {k : Env → AHeap → Bool} {Q : Ex → Env → AHeap → Prop} (hkQ : ∀ e H, k e H = true → Q .nx e H) : ∀ (l : List Oper) (i : Nat), ops.toList.drop i = l → ∀ (e : Env) (r : List (Option Nat)) (H : AHeap) (w : World) (a : Act), opsTB T cb N ops.toList l e H k = true → Rel T N A r H w e a → Le C0 (ctx A r H w) →
    wpOps T.P ops (QR T N A C0 Q) (List.range' i l.length) a w
  | [], i, _, e, r, H, w, a, h, hr, hle => by
    simp only [List.length_nil, List.range'_zero, wpOps]
    exact ⟨.nx, e, H, r, rfl, hkQ _ _ h, hr, hle⟩
  | o :: l, i, hd, e, r, H, w, a, h, hr, hle => by
    have ho : ops[i]? = some o := by
      rw [← Array.getElem?_toList]
      have := congrArg (fun l => l[0]?) hd
      simpa using this
    have hd' : ops.toList.drop (i + 1) = l := by
      have := congrArg (List.drop 1) hd
      simpa [List.drop_drop] using this
    simp only [List.length_cons, List.range'_succ]
    rw [wpOps]
    simp only [ho]
    simp only [opsTB] at h
    rcases guardK_ok hr (guardB_ok h) with ⟨hw, hy⟩ | ⟨hw, hn⟩
    · rw [if_pos hw]
      refine .inl (evE_sound hT hr.inv hr.laid hr.env (evEB_ok hcb hy) ?_)
      intro x v H' X r' w' hk hs hv
      obtain ⟨hdn, hk⟩ := setB_ok hk
      exact opsTB_sound hcb hkQ l (i + 1) hd' _ r' H' w' _ hk ((hr.step hs).setO hv hdn) (hle.trans hs.le)
    · rw [if_neg (by simp [hw])]
      obtain ⟨hdn, hk⟩ := setB_ok hn
      exact opsTB_sound hcb hkQ l (i + 1) hd' _ r H w _ hk (hr.setO (v := undef) (by simp [RV, RG]) hdn) hle

theorem resB_run {N : Nat} {r : List (Option Nat)} {H : AHeap} {w : World} {e : Env} {a : Act} (hr : Rel T N A r H w e a) : ∀ (l : List ResultVar) (k : List AV → Bool), resB T e H l k = true →
    ∃ vs us, k vs = true ∧ RVs (ctx A r H w) vs us ∧ (l.mapM (resOf a.tmps)).run T.P w = .ok us w
  | [], k, h => ⟨[], [], h, by simp [RVs], by simp⟩
  | .tmp t :: l, k, h => by
    simp only [resB, getB_eq] at h
    obtain ⟨vs, us, h1, h2, h3⟩ := resB_run hr l _ h
    refine ⟨_, a.tmps.getD t undef :: us, h1, by simp only [RVs]; exact ⟨_, _, rfl, hr.env t, h2⟩, ?_⟩
    rw [List.mapM_cons]
    simp only [resOf, Sem.run_bind, Sem.run_pure, Result.andThen_ok]
    rw [h3]
    rfl
  | .cell p ty :: l, k, h => by
    simp only [resB, getB_eq] at h
    obtain ⟨x, u, h1, h2, h3⟩ := yld_load hT hr.inv (evLoadB_ok h) (hr.env p)
    obtain ⟨vs, us, h4, h5, h6⟩ := resB_run hr l _ h1
    refine ⟨_, u :: us, h4, by simp only [RVs]; exact ⟨_, _, rfl, h2, h5⟩, ?_⟩
    have := loadAt_as (h3 w (Agree.refl r H [] w))
    rw [List.mapM_cons]
    simp only [resOf, Sem.run_bind] at this ⊢
    simp only [this, Sem.run_pure, Result.andThen_ok]
    rw [h6]
    rfl

variable {pt : PTab} (hpt : PTab.OK T pt)
include hpt

omit hT hpt in
def RunOK (T : Tab) (pt : PTab) (run : RunB) : Prop := ∀ f N c e H k, run f N c e H k = true → plansGood (pt f) c = true → ∀ (A : Nat → Nat → Prop) (C0 : Ctx) (r : List (Option Nat)) (w : World) (a : Act) (Q : Ex → Env → AHeap → Prop),
  (∀ x e H, k x e H = true → Q x e H) → Rel T N A r H w e a → Le C0 (ctx A r H w) → c.wp T.P (QR T N A C0 Q) a w

theorem callFB_ok {run : RunB} (hrun : RunOK T pt run) : CallOK T (callFB T run) := by
  intro g xs H k h
  unfold callFB at h
  split at h
  · rename_i fn hf
    split at h
    · rename_i c hb
      split at h
      · rename_i hn
        rw [numB_eq] at h
        refine ⟨fun A r w vs hi hl hx => calls_of_wp hf hb ?_⟩
        have hn' := Nat.le_of_ble_eq_true hn
        have hlen := hx.length
        have hrel : Rel T fn.ntmps A r H w (number 0 xs) { tmps := vs.toArray ++ Array.replicate (fn.ntmps - vs.toArray.size) undef, defers := [] } := by
          refine ⟨hi, hl, fun t => ?_, by simp; omega, rfl⟩
          rcases number_rv xs vs 0 (fn.ntmps - vs.length) hx t with h | ⟨h, _⟩
          · rw [Nat.sub_zero] at h
            have e1 : (vs.toArray ++ Array.replicate (fn.ntmps - vs.toArray.size) undef).getD t undef = (vs ++ List.replicate (fn.ntmps - vs.length) undef).getD t undef := by
              have e2 : vs.toArray ++ Array.replicate (fn.ntmps - vs.toArray.size) undef = (vs ++ List.replicate (fn.ntmps - vs.length) undef).toArray := by
                apply Array.ext'; simp
              rw [e2]; simp [List.getD]
            rw [e1]; exact h
          · omega
        refine wp_mono (hrun g fn.ntmps c _ H _ h (hpt g fn c hf hb) A (ctx A r H w) r w _ (fun x e' H' => (match x with
          | .out _ => False
          | _ => (resB T e' H' fn.results.toList fun vs => oneB vs fun v => k v H') = true)) (fun x e H h => by cases x <;> first | exact h | cases h) hrel (Le.refl _)) ?_
        have fin : ∀ (e : Env) (H' : AHeap) (r' : List (Option Nat)) (a' : Act) (w' : World), (resB T e H' fn.results.toList fun vs => oneB vs fun v => k v H') = true → Rel T fn.ntmps A r' H' w' e a' → Le (ctx A r H w) (ctx A r' H' w') →
            a'.defers = [] ∧ ∃ v, (results fn a'.tmps).run T.P w' = .ok v w' ∧ CPost A r H w (fun v H' _ => k v H' = true) (.returned v) w' := by
          intro e H' r' a' w' h hr hle
          obtain ⟨vs, us, h1, h2, h3⟩ := resB_run hT hr _ _ h
          have hus := h2.length
          have hres : ∀ v, (if h : us.toArray.size = 1 then us.toArray[0] else .tuple us.toArray) = v → (results fn a'.tmps).run T.P w' = .ok v w' := by
            rintro v rfl
            have hm : (fn.results.mapM (resOf a'.tmps)).run T.P w' = .ok us.toArray w' := by
              rw [Array.mapM_eq_mapM_toList, Sem.run_map, h3]; rfl
            rw [results_eq]
            simp only [Sem.run_bind, hm, Result.andThen_ok, Sem.run_pure]
          have key : ∃ x v, RV (ctx A r' H' w') x v ∧ (results fn a'.tmps).run T.P w' = .ok v w' ∧ k x H' = true := by
            unfold oneB at h1
            split at h1
            · rename_i x
              simp only [RVs] at h2
              obtain ⟨v, l, rfl, h4, rfl⟩ := h2
              exact ⟨x, v, h4, hres _ (by simp), h1⟩
            · rename_i hne
              refine ⟨.tup vs, .tuple us.toArray, by simp only [RV]; exact ⟨us, rfl, h2⟩, hres _ ?_, h1⟩
              rw [dif_neg]
              simp only [List.size_toArray, hus]
              intro h1l
              cases vs with
              | nil => simp at h1l
              | cons y ys =>
                cases ys with
                | nil => exact hne y rfl
                | cons z zs => simp at h1l
          obtain ⟨x, v, hv, hrun', hk⟩ := key
          refine ⟨hr.defers, v, hrun', v, x, H', List.range H.length, r', rfl, hk, ⟨hle, hr.inv, fun id y b a1 _ a3 => ?_, fun id y a1 a3 => ?_⟩, hv⟩
          · exact absurd (List.mem_range.2 (List.getElem?_eq_some_iff.1 a1).1) a3
          · exact absurd (List.mem_range.2 (List.getElem?_eq_some_iff.1 a1).1) a3
        rintro ex a' w' ⟨x', e', H', r', rfl, h1, h2, h3⟩
        cases x' with
        | nx => exact fin e' H' r' a' w' h1 h2 h3
        | out i => exact h1.elim
        | ret => exact fin e' H' r' a' w' h1 h2 h3
      · cases h
    · cases h
  · cases h

omit hT hpt in
/-- A loop's rounds. -/
def LoopOK (T : Tab) (pt : PTab) (run : RunB) (n : Nat) : Prop := ∀ f N c e H k, run f N (.loop c) e H k = true → plansGood (pt f) c = true → ∀ (A : Nat → Nat → Prop) (C0 : Ctx) (r : List (Option Nat)) (w : World) (a : Act) (Q : Ex → Env → AHeap → Prop),
  (∀ x e H, k x e H = true → Q x e H) → Rel T N A r H w e a → Le C0 (ctx A r H w) → Code.rounds T.P c (QR T N A C0 Q) n a w

theorem stepB_sound {run : RunB} {n : Nat} (hrun : RunOK T pt run) (hloop : LoopOK T pt (stepB T pt run) n) : RunOK T pt (stepB T pt run) := by
  intro f N c e H k h hp A C0 r w a Q hkQ hr hle
  have hcb := callFB_ok hT hpt hrun
  cases c with
  | skip => exact wp_skip ⟨.nx, e, H, r, rfl, hkQ _ _ _ h, hr, hle⟩
  | region id ops draw =>
    cases draw with
    | false =>
      simp only [stepB] at h
      refine wp_region ?_
      have := opsTB_sound hT hcb (k := k .nx) (Q := Q) (fun e H h => hkQ _ _ _ h) ops.toList 0 rfl e r H w a h hr hle
      rw [← List.range_eq_range'] at this
      simpa using this
    | true =>
      simp only [stepB] at h
      split at h
      · rename_i pl W hpl
        simp only [plansGood, hpl, Bool.and_eq_true] at hp
        obtain ⟨⟨hp1, hp2⟩, hp3⟩ := hp
        simp only [planGood, Bool.and_eq_true] at hp1
        simp only [Bool.and_eq_true] at h
        obtain ⟨h1, h2⟩ := h
        obtain ⟨e0, h3, h4, h5⟩ := clearB_ok _ _ _ h2
        have hrel : Rel T N A r H w.drew e0 a := by
          refine ⟨inv_drew hr.inv, hr.laid.mono (le_drew r H w), fun t => ?_, hr.size, hr.defers⟩
          rcases h4 t with h | h
          · rw [h]; exact RV.mono (le_drew r H w) _ _ (hr.env t)
          · rw [h]; simp [RV]
        have hle' : Le C0 (ctx A r H w.drew) := hle.trans (le_drew r H w)
        have fin : ∀ R, (∀ n ∈ R, ∃ av c, RV (ctx A r H w.drew) n.2.2.1 av ∧ RV (ctx A r H w.drew) n.2.2.2 c) → planB T (callFB T run) N ops.toList W R pl e0 H (k .nx) = true → (Code.region id ops true).wp T.P (QR T N A C0 Q) a w := by
          intro R hR h3
          refine wp_mono (Q := QR T N A (ctx A r H w.drew) Q) ?_ ?_
          · refine wp_region_any hT.mixed (wpAny_of_R (E := isE pl) (Ob := fun j w' => ∀ n ∈ R, watches W n.1 j = true → SE T (ctx A r H w.drew) n w') _ _ _ _ ?_)
            refine planB_sound hT hcb (k := k .nx) (Q := Q) (W := W) (R := R) (fun e H h => hkQ _ _ _ h) ⟨hp1.1, fun j hj => aDst_ok pl hp2 j hj, fun j hj => aeOk_ok pl hp3 j hj, fun j hj => latesB_ok hT pl h1 j hj⟩ hR pl _ hp1.2 e0 r H h3 ops.size (Array.replicate ops.size false) [] w.drew a ?_ ?_
            · refine ⟨by simp, by simp, fun j hj => ?_, (fun p hp => by cases hp), (fun p hp => by cases hp), List.Pairwise.nil, fun j d hj _ hd => h5 j d hj (by simpa using hd), ?_, ?_⟩
              · rw [getD_repl _ _ _ hj]; simp
              · rw [Aof_nil]; exact hrel
              · rw [Aof_nil]; exact Le.refl _
            · rw [unl_repl]; exact Nat.le_refl _
          · rintro ex a' w' ⟨x', e', H', r', rfl, k1, k2, k3⟩
            exact ⟨x', e', H', r', rfl, k1, k2, hle'.trans k3⟩
        split at h3
        · exact fin [] (fun n hn => by cases hn) h3
        · have : ∀ (pl' : List PStep) (e : Env) (a : Act) (kk : List Ent → Bool), Rel T N A r H w.drew e a → entB T N ops.toList H pl' e kk = true → ∃ R, kk R = true := by
            intro pl'
            induction pl' with
            | nil => intro e a kk _ h; exact ⟨_, h⟩
            | cons st pl' ih =>
              obtain ⟨kd, i⟩ := st
              intro e a kk hr h
              have un : ∀ {o : Oper} {kk' : Env → Bool}, setB N o.dst (.g (.c undef)) e kk' = true → ∃ e' a', Rel T N A r H w.drew e' a' ∧ kk' e' = true := by
                intro o kk' h
                obtain ⟨h1, h2⟩ := setB_ok h
                exact ⟨_, _, hr.setO (v := undef) (by simp [RV, RG]) h1, h2⟩
              have va : ∀ {o : Oper} {x : AV} {v : Value} {kk' : Env → Bool}, RV (ctx A r H w.drew) x v → setB N o.dst x e kk' = true → ∃ e' a', Rel T N A r H w.drew e' a' ∧ kk' e' = true := by
                intro o x v kk' hv h
                obtain ⟨h1, h2⟩ := setB_ok h
                exact ⟨_, _, hr.setO hv h1, h2⟩
              have gd : ∀ {o : Oper} {yes no : Bool}, guardB ops.toList e o.guard yes no = true → yes = true ∨ no = true := by
                intro o yes no h
                unfold guardB at h
                split at h
                · exact .inl h
                · split at h
                  · exact .inr h
                  · rw [getB_eq] at h
                    split at h
                    · split at h
                      · exact .inl h
                      · exact .inr h
                    · exact .inr h
                    · cases h
              simp only [entB] at h
              split at h
              · rename_i o ho
                split at h
                · rcases gd h with h | h
                  · split at h
                    · cases h
                    · rename_i hrd
                      obtain ⟨x, v, k1, k2, _⟩ := evQ_sound hT (X := []) (S := fun _ => True) hr.inv hr.laid hr.env o (fun t y hop => by rw [hop] at hrd; cases hrd) (evQB_ok h)
                      obtain ⟨e', a', q1, q2⟩ := va k2 k1
                      exact ih _ _ _ q1 q2
                  · obtain ⟨e', a', q1, q2⟩ := un h
                    exact ih _ _ _ q1 q2
                · rcases gd h with h | h
                  · obtain ⟨x, v, k1, k2, _⟩ := evRB_ok hT hr.inv hr.laid hr.env h
                    obtain ⟨e', a', q1, q2⟩ := va k2 k1
                    exact ih _ _ _ q1 q2
                  · obtain ⟨e', a', q1, q2⟩ := un h
                    exact ih _ _ _ q1 q2
                · rcases gd h with h | h
                  · split at h
                    · rename_i t x hop
                      rw [opdB_eq] at h
                      obtain ⟨v, c, k1, k2, _⟩ := yld_load hT hr.inv (evLoadB_ok h) (rv_opv hr.laid hr.env x)
                      obtain ⟨e', a', q1, q2⟩ := va k2 k1
                      obtain ⟨R, q3⟩ := ih _ _ _ q1 q2
                      exact ⟨_, q3⟩
                    · cases h
                  · obtain ⟨e', a', q1, q2⟩ := un h
                    exact ih _ _ _ q1 q2
                · exact ⟨_, h⟩
              · exact ⟨_, h⟩
          obtain ⟨R, h⟩ := this _ _ a _ hrel h3
          simp only [Bool.and_eq_true] at h
          exact fin R (standR_ok hT hrel.inv h.1) h.2
      · cases h
  | seq x y =>
    simp only [stepB] at h
    simp only [plansGood, Bool.and_eq_true] at hp
    refine wp_seq (wp_mono (hrun f N x e H _ h hp.1 A C0 r w a (fun x e' H' => match x with
      | .nx => run f N y e' H' k = true
      | .out i => k (.out i) e' H' = true
      | .ret => k .ret e' H' = true) (fun x e H h => by cases x <;> exact h) hr hle) ?_)
    rintro ex a' w' ⟨x', e', H', r', rfl, h1, h2, h3⟩
    cases x' with
    | nx => exact hrun f N y e' H' k h1 hp.2 A C0 r' w' a' Q hkQ h2 h3
    | out i => exact ⟨.out i, e', H', r', rfl, hkQ _ _ _ h1, h2, h3⟩
    | ret => exact ⟨.ret, e', H', r', rfl, hkQ _ _ _ h1, h2, h3⟩
  | cond q x y =>
    simp only [stepB, opdB_eq] at h
    simp only [plansGood, Bool.and_eq_true] at hp
    have hv := rv_opv hr.laid hr.env q
    split at h
    · rename_i t ht
      rw [ht] at hv
      simp only [RV, RG] at hv
      cases t with
      | true => exact wp_cond_true hv (hrun f N x e H k h hp.1 A C0 r w a Q hkQ hr hle)
      | false => exact wp_cond_false hv (hrun f N y e H k h hp.2 A C0 r w a Q hkQ hr hle)
    · cases h
  | block id q =>
    simp only [stepB] at h
    simp only [plansGood] at hp
    refine wp_block (wp_mono (hrun f N q e H _ h hp A C0 r w a (fun x e' H' => match x with
      | .nx => k .nx e' H' = true
      | .out j => (match Nat.beq j id with
        | true => k .nx e' H'
        | false => k (.out j) e' H') = true
      | .ret => k .ret e' H' = true) (fun x e H h => by cases x <;> exact h) hr hle) ?_)
    rintro ex a' w' ⟨x', e', H', r', rfl, h1, h2, h3⟩
    cases x' with
    | nx => exact ⟨.nx, e', H', r', rfl, hkQ _ _ _ h1, h2, h3⟩
    | out i =>
      simp only [Ex.real, Exit.inBlock]
      simp only at h1
      by_cases hi : i = id
      · subst hi
        rw [if_pos rfl]
        simp at h1
        exact ⟨.nx, e', H', r', rfl, hkQ _ _ _ h1, h2, h3⟩
      · rw [if_neg hi]
        have : Nat.beq i id = false := by
          cases hb : Nat.beq i id with
          | false => rfl
          | true => exact absurd (Nat.eq_of_beq_eq_true hb) hi
        rw [this] at h1
        exact ⟨.out i, e', H', r', rfl, hkQ _ _ _ h1, h2, h3⟩
    | ret => exact ⟨.ret, e', H', r', rfl, hkQ _ _ _ h1, h2, h3⟩
  | loop q =>
    simp only [plansGood] at hp
    exact wp_loop_rounds n (hloop f N q e H k h hp A C0 r w a Q hkQ hr hle)
  | exit id => exact wp_exit ⟨.out id, e, H, r, rfl, hkQ _ _ _ h, hr, hle⟩
  | ret => exact wp_ret ⟨.ret, e, H, r, rfl, hkQ _ _ _ h, hr, hle⟩
  | rangeFunc _ _ _ _ => cases h
  | scope _ => cases h
  | label _ => cases h
  | goto _ => cases h
  | refuse _ => cases h

theorem runB_sound : ∀ n, RunOK T pt (runB T pt n) ∧ LoopOK T pt (runB T pt n) n
  | 0 => ⟨fun f N c e H k h => by simp [runB] at h, fun f N c e H k h => by simp [runB] at h⟩
  | n + 1 => by
    obtain ⟨ih1, ih2⟩ := runB_sound n
    have hl : LoopOK T pt (runB T pt (n + 1)) (n + 1) := by
      intro f N c e H k h hp A C0 r w a Q hkQ hr hle
      simp only [runB, stepB] at h
      rw [rounds_succ]
      refine wp_mono (ih1 f N c e H _ h hp A C0 r w a (fun x e' H' => match x with
        | .nx => runB T pt n f N (.loop c) e' H' k = true
        | .out i => k (.out i) e' H' = true
        | .ret => k .ret e' H' = true) (fun x e H h => by cases x <;> exact h) hr hle) ?_
      rintro ex a' w' ⟨x', e', H', r', rfl, h1, h2, h3⟩
      cases x' with
      | nx => exact ih2 f N c e' H' k h1 hp A C0 r' w' a' Q hkQ h2 h3
      | out i => exact ⟨.out i, e', H', r', rfl, hkQ _ _ _ h1, h2, h3⟩
      | ret => exact ⟨.ret, e', H', r', rfl, hkQ _ _ _ h1, h2, h3⟩
    exact ⟨stepB_sound hT hpt ih1 hl, hl⟩

/-- A call of a function that is known whole. -/
theorem callB_ok (n : Nat) : CallOK T (callFB T (runB T pt n)) := callFB_ok hT hpt (runB_sound hT hpt n).1
end

/-! ### a program's plans, by list -/
abbrev PList := List (Nat × List (Nat × List PStep × Watch))
def assocP {α : Type} : List (Nat × α) → Nat → Option α
  | [], _ => none
  | (a, x) :: l, i => match Nat.beq a i with
    | true => some x
    | false => assocP l i
def ptabOf (L : PList) : PTab := fun f id => match assocP L f with
  | some l => assocP l id
  | none => none
def plOk (P : Program) : PList → Bool
  | [] => true
  | (f, l) :: L => (match P.funcs[f]? with
    | some fn => match fn.body with
      | some c => plansGood (fun id => assocP l id) c
      | none => true
    | none => true) && plOk P L
theorem plansGood_none : ∀ c : Code, plansGood (fun _ => none) c = true
  | .region _ _ true => rfl
  | .region _ _ false => rfl
  | .seq a b => by simp [plansGood, plansGood_none a, plansGood_none b]
  | .cond _ a b => by simp [plansGood, plansGood_none a, plansGood_none b]
  | .block _ c => by simp only [plansGood]; exact plansGood_none c
  | .loop c => by simp only [plansGood]; exact plansGood_none c
  | .skip => rfl
  | .rangeFunc _ _ _ _ => rfl
  | .exit _ => rfl
  | .scope _ => rfl
  | .label _ => rfl
  | .goto _ => rfl
  | .ret => rfl
  | .refuse _ => rfl
theorem ptab_ok_of {T : Tab} (L : PList) (h : plOk T.P L = true) : PTab.OK T (ptabOf L) := by
  intro f fn c hf hb
  have key : ∀ L : PList, plOk T.P L = true → plansGood (ptabOf L f) c = true := by
    intro L
    induction L with
    | nil => intro _; exact plansGood_none c
    | cons q L ih =>
      obtain ⟨g, l⟩ := q
      intro h
      simp only [plOk, Bool.and_eq_true] at h
      by_cases hg : g = f
      · subst hg
        have h1 := h.1
        rw [hf] at h1
        simp only [hb] at h1
        have : ptabOf ((g, l) :: L) g = fun id => assocP l id := by
          funext id
          simp [ptabOf, assocP]
        rw [this]; exact h1
      · have hgb : Nat.beq g f = false := by
          cases hb' : Nat.beq g f with
          | false => rfl
          | true => exact absurd (nbeq hb') hg
        have : ptabOf ((g, l) :: L) f = ptabOf L f := by
          funext id
          simp [ptabOf, assocP, hgb]
        rw [this]; exact ih h.2
  exact key L h
end Go.Ev
