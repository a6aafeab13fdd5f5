/- The mill, part P: regions. -/
import Derived.Test.YtgpegohoninbfaaGreatEvO
namespace Go.Ev
set_option linter.unusedVariables false
set_option linter.unusedSimpArgs false
open Go.RowKit
variable {A : Nat → Nat → Prop}
set_option linter.unusedVariables false

def setK (N : Nat) (dst : Option Nat) (v : AV) (e : Env) (k : Env → Prop) : Prop :=
  match dst with
  | none => k e
  | some d => match Nat.blt d N with
    | true => k ((d, v) :: e)
    | false => False
def guardK (ops : List Oper) (e : Env) (g : Option (Nat × Bool)) (yes no : Prop) : Prop :=
  match g with
  | none => yes
  | some (j, want) => match (ops[j]?).bind (·.dst) with
    | none => no
    | some d => get e d fun
      | .g (.c (.bool b)) => (b = want → yes) ∧ (b = !want → no)
      | .g (.c (.tuple _)) => no
      | _ => False

/-- The operations in the text's order. -/
def evOps (T : Tab) (N : Nat) (all : List Oper) : List Oper → Env → AHeap → (Env → AHeap → Prop) → Prop
  | [], e, H, k => k e H
  | o :: l, e, H, k => guardK all e o.guard
      (evE T H e o.op fun v H' _ => setK N o.dst v e fun e' => evOps T N all l e' H' k)
      (setK N o.dst (.g (.c undef)) e fun e' => evOps T N all l e' H k)

def isLoad : Op → Bool
  | .load _ _ => true
  | _ => false
def touchOK (n0 : Nat) (X : List Nat) : List Nat → Bool
  | [] => true
  | j :: l => (Nat.ble n0 j || X.contains j) && touchOK n0 X l

/-- A plan of a region that draws: an operation taken first; the only one that may come up; one of two. -/
inductive PT where
  | done
  | take (i : Nat) (p : PT)
  | one (i : Nat) (p : PT)
  | two (i : Nat) (p : PT) (j : Nat) (q : PT)

/-- An operation of a region that draws, carried out. -/
def effK (T : Tab) (N : Nat) (all : List Oper) (n0 : Nat) (X : List Nat) (i : Nat) (clean : Bool) (e : Env) (H : AHeap) (next : Bool → Env → AHeap → Prop) : Prop :=
  match all[i]? with
  | some o => guardK all e o.guard
      (evE T H e o.op fun v H' X1 => match touchOK n0 X X1 with
        | true => setK N o.dst v e fun e' => next false e' H'
        | false => False)
      (setK N o.dst (.g (.c undef)) e fun e' => next clean e' H)
  | none => False

def evPlan (T : Tab) (N : Nat) (all : List Oper) (n0 : Nat) (X : List Nat) : PT → Bool → Env → AHeap → (Env → AHeap → Prop) → Prop
  | .done, _, e, H, k => k e H
  | .take i pl, clean, e, H, k => match all[i]? with
    | some o => guardK all e o.guard
        (match clean || !isLoad o.op with
         | true => evQ T X H e o.op fun v => setK N o.dst v e fun e' => evPlan T N all n0 X pl clean e' H k
         | false => False)
        (setK N o.dst (.g (.c undef)) e fun e' => evPlan T N all n0 X pl clean e' H k)
    | none => False
  | .one i pl, clean, e, H, k => effK T N all n0 X i clean e H fun c e' H' => evPlan T N all n0 X pl c e' H' k
  | .two i p j q, clean, e, H, k => (effK T N all n0 X i clean e H fun c e' H' => evPlan T N all n0 X p c e' H' k) ∧
      (effK T N all n0 X j clean e H fun c e' H' => evPlan T N all n0 X q c e' H' k)

def planOk (ops : Array Oper) : PT → Array Bool → Bool
  | .done, listed => (Region.ready .any ops listed).isEmpty
  | .take i pl, listed => Region.free .any ops listed i && (Region.ready .any ops listed).contains i && planOk ops pl (listed.setIfInBounds i true)
  | .one i pl, listed => (Region.ready .any ops listed == [i]) && planOk ops pl (listed.setIfInBounds i true)
  | .two i p j q, listed => (Region.ready .any ops listed == [i, j]) && planOk ops p (listed.setIfInBounds i true) && planOk ops q (listed.setIfInBounds j true)
def PT.depth : PT → Nat
  | .done => 0
  | .take _ p => p.depth + 1
  | .one _ p => p.depth + 1
  | .two _ p _ q => max p.depth q.depth + 1

/-- The mill's state, and the machine's. -/
structure Rel (T : Tab) (N : Nat) (A : Nat → Nat → Prop) (r : List (Option Nat)) (H : AHeap) (w : World) (e : Env) (a : Act) : Prop where
  inv : Inv A r H w
  laid : Laid T (ctx A r H w)
  env : RE (ctx A r H w) e a
  size : a.tmps.size = N
  defers : a.defers = []

inductive Ex where
  | nx
  | out (id : Nat)
  | ret
def Ex.real : Ex → Exit
  | .nx => .normal
  | .out id => .exit id
  | .ret => .ret

/-- What is asked of the machine where the mill asks Q. -/
def QR (T : Tab) (N : Nat) (A : Nat → Nat → Prop) (C0 : Ctx) (Q : Ex → Env → AHeap → Prop) (x : Exit) (a : Act) (w : World) : Prop :=
  ∃ x' e H r, x = Ex.real x' ∧ Q x' e H ∧ Rel T N A r H w e a ∧ Le C0 (ctx A r H w)

theorem Rel.step {T : Tab} {N : Nat} {r : List (Option Nat)} {H : AHeap} {w : World} {e : Env} {a : Act} (h : Rel T N A r H w e a) {r' : List (Option Nat)} {H' : AHeap} {w' : World} {X : List Nat} (hs : StepOK A r H w r' H' w' X) :
    Rel T N A r' H' w' e a := ⟨hs.inv, h.laid.mono hs.le, h.env.mono hs.le, h.size, h.defers⟩

theorem Rel.put {T : Tab} {N : Nat} {r : List (Option Nat)} {H : AHeap} {w : World} {e : Env} {a : Act} (h : Rel T N A r H w e a) {dst : Option Nat} {x : AV} {v : Value} (hv : RV (ctx A r H w) x v) {k : Env → Prop} (hk : setK N dst x e k) :
    ∃ e', k e' ∧ Rel T N A r H w e' (a.put dst v) := by
  cases dst with
  | none => exact ⟨e, hk, h⟩
  | some d =>
    simp only [setK] at hk
    split at hk
    · rename_i hlt
      have hlt' : d < N := by have := Nat.le_of_ble_eq_true (show Nat.ble (d + 1) N = true from hlt); omega
      refine ⟨_, hk, h.inv, h.laid, fun t => ?_, by simp [Act.put, h.size], by simp [Act.put, h.defers]⟩
      have hsz := h.size
      by_cases e1 : d = t
      · subst e1
        simp only [look, if_true, Act.put]
        have : (a.tmps.setIfInBounds d v).getD d undef = v := by simp [Array.getD, hsz, hlt']
        rw [this]; exact hv
      · simp only [look, if_neg e1, Act.put]
        have : (a.tmps.setIfInBounds d v).getD t undef = a.tmps.getD t undef := by
          simp [Array.getElem?_setIfInBounds_ne e1]
        rw [this]; exact h.env t
    · exact hk.elim

theorem guardK_ok {T : Tab} {N : Nat} {r : List (Option Nat)} {H : AHeap} {w : World} {e : Env} {a : Act} (h : Rel T N A r H w e a) {ops : Array Oper} {o : Oper} {yes no : Prop} (hg : guardK ops.toList e o.guard yes no) :
    (Region.wanted o (yielded ops a.tmps) = true ∧ yes) ∨ (Region.wanted o (yielded ops a.tmps) = false ∧ no) := by
  unfold guardK at hg
  split at hg
  · rename_i hgd
    exact .inl ⟨by simp [Region.wanted, hgd], hg⟩
  · rename_i j want hgd
    split at hg
    · rename_i hd
      refine .inr ⟨?_, hg⟩
      have : (ops[j]?).bind (·.dst) = none := by rw [← hd]; simp
      simp [Region.wanted, hgd, yielded, this]
    · rename_i d hd
      have hd' : (ops[j]?).bind (·.dst) = some d := by rw [← hd]; simp
      rw [get_eq] at hg
      have hv := h.env d
      split at hg
      · rename_i b hb
        rw [hb] at hv
        simp only [RV, RG] at hv
        have ht : a.tmps[d]? = some (.bool b) := by
          by_cases hlt : d < a.tmps.size
          · simp [Array.getD, hlt] at hv; simp [hlt, hv]
          · simp [Array.getD, hlt, undef] at hv
        have hw : Region.wanted o (yielded ops a.tmps) = (b == want) := by simp [Region.wanted, hgd, yielded, hd', ht]
        rw [hw]
        cases b <;> cases want <;> simp_all
      · rename_i vs hb
        rw [hb] at hv
        simp only [RV, RG] at hv
        refine .inr ⟨?_, hg⟩
        have ht : yielded ops a.tmps j = none := by
          simp only [yielded, hd', Option.bind_some]
          by_cases hlt : d < a.tmps.size
          · simp [Array.getD, hlt] at hv; simp [hlt, hv]
          · simp [hlt]
        simp [Region.wanted, hgd, ht]
      · exact hg.elim

section
variable {T : Tab} (hT : T.OK) {N : Nat} {C0 : Ctx}
include hT

theorem ops_sound {ops : Array Oper} {k : Env → AHeap → Prop} {Q : Ex → Env → AHeap → Prop} (hkQ : ∀ e H, k e H → Q .nx e H) : ∀ (l : List Oper) (i : Nat), ops.toList.drop i = l → ∀ (e : Env) (r : List (Option Nat)) (H : AHeap) (w : World) (a : Act), evOps T N ops.toList l e H k → Rel T N A r H w e a → Le C0 (ctx A r H w) →
    wpOps T.P ops (QR T N A C0 Q) (List.range' i l.length) a w
  | [], i, _, e, r, H, w, a, h, hr, hle => by
    simp only [List.length_nil, List.range'_zero, wpOps]
    exact ⟨.nx, e, H, r, rfl, hkQ _ _ h, hr, hle⟩
  | o :: l, i, hd, e, r, H, w, a, h, hr, hle => by
    have ho : ops[i]? = some o := by
      rw [← Array.getElem?_toList]
      have := congrArg (fun l => l[0]?) hd
      simpa using this
    have hd' : ops.toList.drop (i + 1) = l := by
      have := congrArg (List.drop 1) hd
      simpa [List.drop_drop] using this
    simp only [List.length_cons, List.range'_succ]
    rw [wpOps]
    simp only [ho]
    simp only [evOps] at h
    rcases guardK_ok hr h with ⟨hw, hy⟩ | ⟨hw, hn⟩
    · rw [if_pos hw]
      refine .inl (evE_sound hT hr.inv hr.laid hr.env hy ?_)
      intro x v H' X r' w' hk hs hv
      obtain ⟨e', hk, hr'⟩ := (hr.step hs).put hv hk
      exact ops_sound hkQ l (i + 1) hd' e' r' H' w' _ hk hr' (hle.trans hs.le)
    · rw [if_neg (by simp [hw])]
      obtain ⟨e', hk, hr'⟩ := hr.put (v := undef) (by simp [RV, RG]) hn
      exact ops_sound hkQ l (i + 1) hd' e' r H w _ hk hr' hle

theorem plan_sound {ops : Array Oper} {n0 : Nat} {X : List Nat} {k : Env → AHeap → Prop} {Q : Ex → Env → AHeap → Prop} (hkQ : ∀ e H, k e H → Q .nx e H) {r0 : List (Option Nat)} {H0 : AHeap} {w0 : World} (hn0 : H0.length = n0) (hsel : Region.noSelect ops = true) :
    ∀ (pl : PT) (clean : Bool) (listed : Array Bool) (fuel : Nat) (e : Env) (r : List (Option Nat)) (H : AHeap) (w : World) (a : Act),
      planOk ops pl listed = true → evPlan T N ops.toList n0 X pl clean e H k → Rel T N A r H w e a → Le C0 (ctx A r H w) → Agree A r0 H0 X w0 w → (clean = true → r = r0 ∧ H = H0 ∧ w = w0) →
      (∀ (id : Nat) x, H0[id]? = some x → id ∉ X → H[id]? = some x) → Le (ctx A r0 H0 w0) (ctx A r H w) → pl.depth ≤ fuel →
      wpAnyH T.P .any ops (QR T N A C0 Q) (Agree A r0 H0 X w0) fuel listed a w := by
  -- one operation carried out, whatever follows
  have eff : ∀ (i : Nat) (p : PT) (listed : Array Bool) (clean : Bool) (fuel : Nat) (e : Env) (r : List (Option Nat)) (H : AHeap) (w : World) (a : Act),
      (∀ (clean : Bool) (e : Env) (r : List (Option Nat)) (H : AHeap) (w : World) (a : Act), evPlan T N ops.toList n0 X p clean e H k → Rel T N A r H w e a → Le C0 (ctx A r H w) → Agree A r0 H0 X w0 w → (clean = true → r = r0 ∧ H = H0 ∧ w = w0) →
        (∀ (id : Nat) x, H0[id]? = some x → id ∉ X → H[id]? = some x) → Le (ctx A r0 H0 w0) (ctx A r H w) → wpAnyH T.P .any ops (QR T N A C0 Q) (Agree A r0 H0 X w0) fuel (listed.setIfInBounds i true) a w) →
      (effK T N ops.toList n0 X i clean e H fun c e' H' => evPlan T N ops.toList n0 X p c e' H' k) → Rel T N A r H w e a → Le C0 (ctx A r H w) → Agree A r0 H0 X w0 w → (clean = true → r = r0 ∧ H = H0 ∧ w = w0) →
      (∀ (id : Nat) x, H0[id]? = some x → id ∉ X → H[id]? = some x) → Le (ctx A r0 H0 w0) (ctx A r H w) →
      wpOp T.P ops (QR T N A C0 Q) i (fun a' w' => Agree A r0 H0 X w0 w' ∧ wpAnyH T.P .any ops (QR T N A C0 Q) (Agree A r0 H0 X w0) fuel (listed.setIfInBounds i true) a' w') a w := by
    intro i p listed clean fuel e r H w a ih h hr hle hag hcl hkeep hle0
    unfold effK at h
    split at h
    · rename_i o ho
      have ho' : ops[i]? = some o := by rw [← Array.getElem?_toList]; exact ho
      unfold wpOp
      simp only [ho']
      rcases guardK_ok hr h with ⟨hw, hy⟩ | ⟨hw, hn⟩
      · rw [if_pos hw]
        refine .inl (evE_sound hT hr.inv hr.laid hr.env hy ?_)
        intro x v H' X1 r' w' hk hs hv
        split at hk
        · rename_i htouch
          have htouch' : ∀ q ∈ X1, n0 ≤ q ∨ q ∈ X := by
            clear hk hs hv
            induction X1 with
            | nil => simp
            | cons q l ih =>
              simp only [touchOK, Bool.and_eq_true, Bool.or_eq_true] at htouch
              intro q' hq'
              rcases List.mem_cons.1 hq' with rfl | hq'
              · rcases htouch.1 with h | h
                · exact .inl (Nat.le_of_ble_eq_true h)
                · exact .inr (by simpa using h)
              · exact ih htouch.2 q' hq'
          have hnot : ∀ (id : Nat) x, H0[id]? = some x → id ∉ X → id ∉ X1 := fun id x hx hX hm => by
            have := (List.getElem?_eq_some_iff.1 hx).1
            rcases htouch' id hm with h | h
            · omega
            · exact hX h
          have hag' : Agree A r0 H0 X w0 w' := ⟨fun b o v hv hw => (hle0.trans hs.le).cell b o v hv hw, fun id x b h1 h2 h3 h4 => by
            rw [hs.same id x b (hkeep id x h1 h3) h2 (hnot id x h1 h3) (hle0.rho id _ h4)]
            exact hag.obj id x b h1 h2 h3 h4⟩
          obtain ⟨e', hk, hr'⟩ := (hr.step hs).put hv hk
          exact ⟨hag', ih false e' r' H' w' _ hk hr' (hle.trans hs.le) hag' (fun h => by cases h) (fun id x h1 h2 => hs.keep id x (hkeep id x h1 h2) (hnot id x h1 h2)) (hle0.trans hs.le)⟩
        · exact hk.elim
      · rw [if_neg (by simp [hw])]
        obtain ⟨e', hk, hr'⟩ := hr.put (v := undef) (by simp [RV, RG]) hn
        exact ⟨hag, ih clean e' r H w _ hk hr' hle hag hcl hkeep hle0⟩
    · exact h.elim
  intro pl
  induction pl with
  | done =>
    intro clean listed fuel e r H w a hp h hr hle _ _ _ _ _
    exact wpAnyH_done (by simpa [planOk] using hp) ⟨.nx, e, H, r, rfl, hkQ _ _ h, hr, hle⟩ fuel
  | take i pl ih =>
    intro clean listed fuel e r H w a hp h hr hle hag hcl hkeep hle0 hf
    obtain ⟨fuel, rfl⟩ : ∃ f, fuel = f + 1 := ⟨fuel - 1, by simp only [PT.depth] at hf; omega⟩
    have hf' : pl.depth ≤ fuel := by simp only [PT.depth] at hf; omega
    simp only [planOk, Bool.and_eq_true] at hp
    obtain ⟨⟨hp1, hp2⟩, hp3⟩ := hp
    simp only [evPlan] at h
    split at h
    · rename_i o ho
      have ho' : ops[i]? = some o := by rw [← Array.getElem?_toList]; exact ho
      rcases guardK_ok hr h with ⟨hw, hy⟩ | ⟨hw, hn⟩
      · split at hy
        · rename_i hcl2
          obtain ⟨x, v, h1, h2, h3⟩ := evQ_sound hT (S := Agree A r0 H0 X w0) hr.inv hr.laid hr.env o (fun t y ho w' hw' => by
            have hc : clean = true := by
              simp only [ho, isLoad, Bool.not_true, Bool.or_false] at hcl2
              exact hcl2
            obtain ⟨rfl, rfl, rfl⟩ := hcl hc
            exact hw') hy
          obtain ⟨e', hk, hr'⟩ := hr.put h2 h1
          exact wpAnyH_take ho' hsel hp1 hp2 (fun c a w hq => by obtain ⟨x', _, _, _, hx, _⟩ := hq; cases x' <;> cases hx) (.inl ⟨hw, h3⟩) hag
            (ih clean _ fuel e' r H w _ hp3 hk hr' hle hag hcl hkeep hle0 hf')
        · exact hy.elim
      · obtain ⟨e', hk, hr'⟩ := hr.put (v := undef) (by simp [RV, RG]) hn
        exact wpAnyH_take ho' hsel hp1 hp2 (fun c a w hq => by obtain ⟨x', _, _, _, hx, _⟩ := hq; cases x' <;> cases hx) (.inr ⟨hw, rfl⟩) hag
          (ih clean _ fuel e' r H w _ hp3 hk hr' hle hag hcl hkeep hle0 hf')
    · exact h.elim
  | one i pl ih =>
    intro clean listed fuel e r H w a hp h hr hle hag hcl hkeep hle0 hf
    obtain ⟨fuel, rfl⟩ : ∃ f, fuel = f + 1 := ⟨fuel - 1, by simp only [PT.depth] at hf; omega⟩
    have hf' : pl.depth ≤ fuel := by simp only [PT.depth] at hf; omega
    simp only [planOk, Bool.and_eq_true, beq_iff_eq] at hp
    obtain ⟨hp1, hp3⟩ := hp
    simp only [evPlan] at h
    refine wpAnyH_all hp1 (by simp) fun j hj => ?_
    have hji : j = i := by simpa using hj
    subst hji
    exact eff j pl listed clean fuel e r H w a (fun clean e r H w a h1 h2 h3 h4 h5 h6 h7 => ih clean _ fuel e r H w a hp3 h1 h2 h3 h4 h5 h6 h7 hf') h hr hle hag hcl hkeep hle0
  | two i p j q ihp ihq =>
    intro clean listed fuel e r H w a hp h hr hle hag hcl hkeep hle0 hf
    obtain ⟨fuel, rfl⟩ : ∃ f, fuel = f + 1 := ⟨fuel - 1, by simp only [PT.depth] at hf; omega⟩
    have hfp : p.depth ≤ fuel := by simp only [PT.depth] at hf; omega
    have hfq : q.depth ≤ fuel := by simp only [PT.depth] at hf; omega
    simp only [planOk, Bool.and_eq_true, beq_iff_eq] at hp
    obtain ⟨⟨hp1, hp2⟩, hp3⟩ := hp
    simp only [evPlan] at h
    refine wpAnyH_all hp1 (by simp) fun m hm => ?_
    have hmi : m = i ∨ m = j := by simpa using hm
    rcases hmi with rfl | rfl
    · exact eff m p listed clean fuel e r H w a (fun clean e r H w a h1 h2 h3 h4 h5 h6 h7 => ihp clean _ fuel e r H w a hp2 h1 h2 h3 h4 h5 h6 h7 hfp) h.1 hr hle hag hcl hkeep hle0
    · exact eff m q listed clean fuel e r H w a (fun clean e r H w a h1 h2 h3 h4 h5 h6 h7 => ihq clean _ fuel e r H w a hp3 h1 h2 h3 h4 h5 h6 h7 hfq) h.2 hr hle hag hcl hkeep hle0
end
end Go.Ev
