/- The mill, part I: the quiet operations together. -/
import Derived.Test.YtgpegohoninbfaaGreatEvH
namespace Go.Ev
set_option linter.unusedVariables false
set_option linter.unusedSimpArgs false
open Go.RowKit
variable {A : Nat → Nat → Prop}

def placesK (T : Tab) : List Field → (List (Nat × Nat) → Prop) → Prop
  | [], k => k []
  | f :: fs, k => match T.inf f.type with
    | some (s, _, _) => placesK T fs fun l => k ((f.offset, s) :: l)
    | none => False
def opdsK (T : Tab) (e : Env) : List Operand → (List AV → Prop) → Prop
  | [], k => k []
  | x :: xs, k => opd T e x fun v => opdsK T e xs fun vs => k (v :: vs)
def partsK (T : Tab) (e : Env) : List (Nat × Operand) → (List (Nat × AV) → Prop) → Prop
  | [], k => k []
  | (i, x) :: xs, k => opd T e x fun v => partsK T e xs fun vs => k ((i, v) :: vs)
def optK (T : Tab) (e : Env) : Option Operand → (Option AV → Prop) → Prop
  | none, k => k none
  | some x, k => opd T e x fun v => k (some v)

def evBuild (T : Tab) (t : TypeId) (parts : List (Nat × AV)) (k : AV → Prop) : Prop :=
  match T.und t, T.inf t with
  | some (.struct fs), some (_, _, z) => placesK T fs.toList fun pl => gcK z.cells.toList fun cs => evFill (fun i => pl[i]?) cs parts fun r => k (.agg r)
  | some (.array _ el), some (_, _, z) => match T.inf el with
    | some (s, _, _) => gcK z.cells.toList fun cs => evFill (fun i => some (i * s, s)) cs parts fun r => k (.agg r)
    | none => False
  | _, _ => False

def evConv (T : Tab) (src dst : TypeId) (x : AV) (k : AV → Prop) : Prop :=
  match T.und src, T.und dst, x with
  | some _, some (.int kd), .g (.c (.int _ n)) => arith kd n k
  | some _, some .string, .g (.c (.string s)) => k (vstr s)
  | _, _, _ => False

def evUn (op : UnOp) (x : AV) (k : AV → Prop) : Prop :=
  match op, x with
  | .not, .g (.c (.bool b)) => k (vbool (!b))
  | .neg, .g (.c (.int kd n)) => arith kd (0 - n) k
  | .xor, .g (.c (.int kd n)) => k (vint kd (bitsOf .xor kd (if kd.signed then -1 else kd.max) n))
  | _, _ => False

def evLen (T : Tab) (t : TypeId) (x : AV) (k : AV → Prop) : Prop :=
  match T.und t, x with
  | some .string, .g (.c (.string s)) => k (vint .i64 s.size)
  | some (.slice _), .g (.sl _ n _) => k (vint .i64 n)
  | some (.slice _), .sl _ _ _ n _ => k (vint .i64 n)
  | some (.slice _), .nz => k (vint .i64 0)
  | some (.slice _), .g (.c (.slice _ n _)) => k (vint .i64 n)
  | some (.array n _), _ => k (vint .i64 n)
  | _, _ => False

def evBuiltinQ (T : Tab) (b : Builtin) (ts : List TypeId) (xs : List AV) (k : AV → Prop) : Prop :=
  match b, ts, xs with
  | .len, t :: _, x :: _ => evLen T t x k
  | .min, _, [.g (.c (.int kd a)), .g (.c (.int _ b))] => k (vint kd (min a b))
  | .max, _, [.g (.c (.int kd a)), .g (.c (.int _ b))] => k (vint kd (max a b))
  | _, _, _ => False

def evNil (x : AV) (k : AV → Prop) : Prop :=
  match x with
  | .p .. => k x
  | .rp .. => k x
  | .sl .. => k x
  | .agg .. => k x
  | .fn (.func _) _ _ => k x
  | .ifc .. => k x
  | _ => False

/-- A quiet operation: what it yields (X: the objects that may not be read). -/
def evQ (T : Tab) (X : List Nat) (H : AHeap) (e : Env) (op : Op) (k : AV → Prop) : Prop :=
  match op with
  | .move x => opd T e x k
  | .assign x => opd T e x k
  | .pick c a b => opd T e c fun
    | .g (.c (.bool t)) => (t = true → opd T e a k) ∧ (t = false → opd T e b k)
    | _ => False
  | .binOp op t x y _ => opd T e x fun a => opd T e y fun b => evBin T op t x y a b k
  | .unOp op _ x => opd T e x fun a => evUn op a k
  | .convert src dst x => opd T e x fun a => evConv T src dst a k
  | .field t x f => match T.und t with
    | some (.struct fs) => match fs.toList[f]? with
      | some fl => opd T e x fun
        | .agg cs => evField T cs fl.offset fl.type k
        | _ => False
      | none => False
    | _ => False
  | .extract x i => opd T e x fun
    | .tup vs => match vs[i]? with
      | some v => k v
      | none => False
    | _ => False
  | .build t parts => partsK T e parts.toList fun ps => evBuild T t ps k
  | .fieldAddr s x f => opd T e x fun a => evFieldAddr T s a f k
  | .indexAddr t x y => opd T e x fun a => opd T e y fun b => evIndexAddr T t a b k
  | .index t x y => opd T e x fun a => opd T e y fun b => evIndex T t a b k
  | .slice t x lo hi mx => opd T e x fun a => optK T e lo fun l => optK T e hi fun h => optK T e mx fun m => evSlice T H t a l h m k
  | .load t x => opd T e x fun a => evLoad T X H t a k
  | .nilCheck x => opd T e x fun a => evNil a k
  | .makeInterface t x => match T.und t with
    | some (.interface _) => False
    | some _ => opd T e x fun a => k (.ifc t a)
    | none => False
  | .makeFunc fn first captured => opdsK T e first.toList fun fs => opdsK T e captured.toList fun cs => k (.fn fn fs cs)
  | .call c => match c.callee with
    | .builtin b => opdsK T e c.args.toList fun xs => evBuiltinQ T b c.argTypes.toList xs k
    | _ => False
  | _ => False

/-- In every world of a class one value comes of an operation, and the world stays. -/
def YldN (P : Program) (C : Ctx) (S : World → Prop) (k : AV → Prop) (s : Sem Next) : Prop := ∃ r v, k r ∧ RV C r v ∧ ∀ w, S w → s.run P w = .ok (.value v) w

theorem Yld.next {P : Program} {C : Ctx} {S : World → Prop} {k : AV → Prop} {s : Sem Value} (h : Yld P C S k s) : YldN P C S k (do pure (.value (← s))) := by
  obtain ⟨r, v, h1, h2, h3⟩ := h
  exact ⟨r, v, h1, h2, fun w hw => by simp [h3 w hw]⟩

theorem opdsK_rv {T : Tab} {C : Ctx} {e : Env} {a : Act} (hl : Laid T C) (he : RE C e a) : ∀ (xs : List Operand) (k : List AV → Prop), opdsK T e xs k → ∃ vs, k vs ∧ RVs C vs (xs.map a.eval)
  | [], k, h => ⟨[], h, by simp [RVs]⟩
  | x :: xs, k, h => by
    simp only [opdsK, opd_eq] at h
    obtain ⟨vs, h1, h2⟩ := opdsK_rv hl he xs _ h
    refine ⟨_, h1, ?_⟩
    simp only [List.map_cons, RVs]
    exact ⟨_, _, rfl, rv_opv hl he x, h2⟩
theorem partsK_rv {T : Tab} {C : Ctx} {e : Env} {a : Act} (hl : Laid T C) (he : RE C e a) : ∀ (xs : List (Nat × Operand)) (k : List (Nat × AV) → Prop), partsK T e xs k → ∃ vs, k vs ∧ PR C vs (xs.map fun (i, x) => (i, a.eval x))
  | [], k, h => ⟨[], h, by simp [PR]⟩
  | (i, x) :: xs, k, h => by
    simp only [partsK, opd_eq] at h
    obtain ⟨vs, h1, h2⟩ := partsK_rv hl he xs _ h
    refine ⟨_, h1, ?_⟩
    simp only [List.map_cons, PR]
    exact ⟨_, _, rfl, rv_opv hl he x, h2⟩
theorem optK_rv {T : Tab} {C : Ctx} {e : Env} {a : Act} (hl : Laid T C) (he : RE C e a) (o : Option Operand) (k : Option AV → Prop) (h : optK T e o k) : ∃ v, k v ∧ OV C v (o.map a.eval) := by
  cases o with
  | none => exact ⟨none, h, rfl⟩
  | some x => simp only [optK, opd_eq] at h; exact ⟨_, h, _, rfl, rv_opv hl he x⟩

section
variable {T : Tab} (hT : T.OK) {C : Ctx} {S : World → Prop} {k : AV → Prop}
include hT

theorem placesK_run : ∀ (fs : List Field) (k : List (Nat × Nat) → Prop), placesK T fs k → ∃ l, k l ∧ ∀ w, (fs.mapM fun f => do pure (f.offset, ← sizeOf f.type) : Sem (List (Nat × Nat))).run T.P w = .ok l w
  | [], k, h => ⟨[], h, fun w => by simp⟩
  | f :: fs, k, h => by
    simp only [placesK] at h
    split at h
    · rename_i s _ _ hi
      obtain ⟨l, h1, h2⟩ := placesK_run fs _ h
      refine ⟨_, h1, fun w => ?_⟩
      rw [List.mapM_cons]
      have e := h2 w
      simp only [Sem.run_bind] at e ⊢
      simp only [run_size hT hi, Result.andThen_ok, Sem.run_pure, e]
    · exact h.elim

theorem run_zero {t s b : Nat} {z : Value} (h : T.inf t = some (s, b, z)) (w : World) : (zeroValue t).run T.P w = .ok z w := by
  obtain ⟨i, h1, _, _, h4, _⟩ := hT.inf _ _ _ _ h
  simp [zeroValue, typeInfo, h1, h4]

theorem yld_build {t : TypeId} {parts : List (Nat × AV)} {vals : Array (Nat × Value)} (h : evBuild T t parts k) (hp : PR C parts vals.toList) : Yld T.P C S k (Instr.build t vals) := by
  unfold evBuild at h
  split at h
  · rename_i fs _ _ z hu hi
    have hP := hT.und _ _ hu
    obtain ⟨pl, h, hpl⟩ := placesK_run hT _ _ h
    rw [gcK_eq] at h
    obtain ⟨cs, us, h1, h2, h3, h4⟩ := fill_ok parts vals.toList _ z.cells _ h (by rw [← Array.toList_map]; simpa using RVs.exacts z.cells.toList) hp
    refine ⟨_, .agg us, h1, by simp only [RV]; exact ⟨us.toList, by simp, h3⟩, fun w _ => ?_⟩
    have hm : (fs.mapM fun f => do pure (f.offset, ← sizeOf f.type) : Sem (Array (Nat × Nat))).run T.P w = .ok pl.toArray w := by
      rw [Array.mapM_eq_mapM_toList, Sem.run_map, hpl w]
      rfl
    simp only [Instr.build, Sem.run_bind, run_zero hT hi, Result.andThen_ok, run_underlying hP, hm]
    simp [h2]
  · rename_i n el _ _ z hu hi
    have hP := hT.und _ _ hu
    split at h
    · rename_i s _ _ hi'
      rw [gcK_eq] at h
      obtain ⟨cs, us, h1, h2, h3, h4⟩ := fill_ok parts vals.toList _ z.cells _ h (by rw [← Array.toList_map]; simpa using RVs.exacts z.cells.toList) hp
      refine ⟨_, .agg us, h1, by simp only [RV]; exact ⟨us.toList, by simp, h3⟩, fun w _ => ?_⟩
      simp only [Instr.build, Sem.run_bind, run_zero hT hi, Result.andThen_ok, run_underlying hP, run_size hT hi']
      simp [h2]
    · exact h.elim
  · exact h.elim

theorem yld_conv {src dst : TypeId} {x : AV} {v : Value} (h : evConv T src dst x k) (hx : RV C x v) : Yld T.P C S k (convert src dst v) := by
  unfold evConv at h
  split at h
  · rename_i h1 h2
    simp only [RV, RG] at hx
    subst hx
    refine yld_arith h fun w _ => ?_
    simp [convert, run_underlying (hT.und _ _ h1), run_underlying (hT.und _ _ h2), Conv.intToInt]
  · rename_i d s h1 h2
    simp only [RV, RG] at hx
    subst hx
    refine Yld.exact_ _ h fun w _ => ?_
    cases d <;> simp [convert, run_underlying (hT.und _ _ h1), run_underlying (hT.und _ _ h2)]
  · exact h.elim

theorem yld_len {t ty : TypeId} {ts : Array TypeId} {x : AV} {v : Value} {us : Array Value} (h : evLen T t x k) (ht : ts[0]? = some t) (hx : RV C x v) (hu : us[0]? = some v) : Yld T.P C S k (Builtin.len_ ts ty us) := by
  unfold evLen at h
  have hts : 0 < ts.size := (Array.getElem?_eq_some_iff.1 ht).1
  have hus : 0 < us.size := (Array.getElem?_eq_some_iff.1 hu).1
  split at h
  · rename_i he; simp only [RV, RG] at hx; subst hx
    exact Yld.exact_ _ h fun w _ => by simp [Builtin.len_, ht, hu, run_underlying (hT.und _ _ he), goInt]
  · rename_i he; simp only [RV, RG] at hx; obtain ⟨a, c, rfl, _⟩ := hx
    exact Yld.exact_ _ h fun w _ => by simp [Builtin.len_, ht, hu, run_underlying (hT.und _ _ he), goInt]
  · rename_i he; simp only [RV] at hx; obtain ⟨a, c, rfl, _⟩ := hx
    exact Yld.exact_ _ h fun w _ => by simp [Builtin.len_, ht, hu, run_underlying (hT.und _ _ he), goInt]
  · rename_i he; simp only [RV] at hx; obtain ⟨a, rfl⟩ := hx
    exact Yld.exact_ _ h fun w _ => by simp [Builtin.len_, ht, hu, run_underlying (hT.und _ _ he), goInt]
  · rename_i he; simp only [RV, RG] at hx; subst hx
    exact Yld.exact_ _ h fun w _ => by simp [Builtin.len_, ht, hu, run_underlying (hT.und _ _ he), goInt]
  · rename_i n el he
    exact Yld.exact_ _ h fun w _ => by simp [Builtin.len_, ht, hu, run_underlying (hT.und _ _ he), goInt]
  · exact h.elim
end
end Go.Ev
