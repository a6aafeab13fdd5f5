/- The mill, part E: equality. -/
import Derived.Test.YtgpegohoninbfaaGreatEvD
namespace Go.Ev
set_option linter.unusedVariables false
set_option linter.unusedSimpArgs false
open Go.RowKit
variable {A : Nat → Nat → Prop}

theorem RVs.drop {C : Ctx} : ∀ {xs : List AV} {vs : List Value} (n : Nat), RVs C xs vs → RVs C (xs.drop n) (vs.drop n)
  | _, _, 0, h => by simpa using h
  | [], vs, n + 1, h => by simp only [RVs] at h; subst h; simp [RVs]
  | x :: xs, vs, n + 1, h => by
    simp only [RVs] at h
    obtain ⟨v, us, rfl, _, h3⟩ := h
    simpa using RVs.drop n h3
theorem RVs.take {C : Ctx} : ∀ {xs : List AV} {vs : List Value} (n : Nat), RVs C xs vs → RVs C (xs.take n) (vs.take n)
  | _, _, 0, h => by simp [RVs]
  | [], vs, n + 1, h => by simp only [RVs] at h; subst h; simp [RVs]
  | x :: xs, vs, n + 1, h => by
    simp only [RVs] at h
    obtain ⟨v, us, rfl, h2, h3⟩ := h
    simp only [List.take_succ_cons, RVs]
    exact ⟨v, _, rfl, h2, RVs.take n h3⟩

theorem RVs.exact {C : Ctx} {xs : List AV} {vs : List Value} (h : RVs C xs vs) {i : Nat} {v : Value} (hx : xs[i]? = some (.g (.c v))) : vs[i]? = some v := by
  obtain ⟨u, h1, h2⟩ := RVs.get h i _ hx
  simp only [RV, RG] at h2
  rw [h1, h2]

section
variable {T : Tab} (hT : T.OK)
include hT

theorem run_size {t s b : Nat} {z : Value} (h : T.inf t = some (s, b, z)) (w : World) : (sizeOf t).run T.P w = .ok s w := by
  obtain ⟨i, h1, h2, _⟩ := hT.inf _ _ _ _ h
  simp [sizeOf, typeInfo, h1, h2]

theorem run_isAgg {t : Nat} {d : TypeDesc} (h : T.und t = some d) (w : World) : (isAgg t).run T.P w = .ok (match d with | .struct _ => true | .array _ _ => true | _ => false) w := by
  have h1 := hT.und _ _ h
  simp only [isAgg, Sem.run_bind, run_underlying h1, Result.andThen_ok]
  cases d <;> rfl

theorem run_part_one {t : Nat} {d : TypeDesc} (h : T.und t = some d) (hd : (match d with | .struct _ => true | .array _ _ => true | _ => false) = false) (vs : List Value) (off : Nat) (v : Value) (hv : vs[off]? = some v) (w : World) :
    (part t vs.toArray off).run T.P w = .ok v w := by
  simp only [part, Sem.run_bind, run_isAgg hT h, hd, Result.andThen_ok]
  simp [hv]

theorem run_part_agg {t s b : Nat} {z : Value} {d : TypeDesc} (h : T.und t = some d) (hd : (match d with | .struct _ => true | .array _ _ => true | _ => false) = true) (hi : T.inf t = some (s, b, z)) (vs : List Value) (off : Nat) (w : World) :
    (part t vs.toArray off).run T.P w = .ok (.agg ((vs.drop off).take s).toArray) w := by
  simp only [part, Sem.run_bind, run_isAgg hT h, hd, Result.andThen_ok]
  simp [run_size hT hi, List.extract]

theorem eq_cells {C : Ctx} : ∀ (n D : Nat), n ≤ D → ∀ (fs : List Field), (∀ f ∈ fs, f.name ≠ "_") → ∀ (xs ys : List AV) (k : Bool → Prop), eqCells T n (fs.map fun f => (f.offset, f.type)) xs ys k →
    ∀ us vs, RVs C xs us → RVs C ys vs → ∃ b, k b ∧ ∀ w, (Op.eqFields D us.toArray vs.toArray fs).run T.P w = .ok b w
  | 0, _, _, _, _, _, _, _, h => by simp [eqCells] at h
  | n + 1, D, hD, [], _, xs, ys, k, h => by
    intro us vs _ _
    simp only [List.map_nil, eqCells] at h
    exact ⟨true, h, fun w => by simp [Op.eqFields]⟩
  | n + 1, D, hD, f :: fs, hn, xs, ys, k, h => by
    intro us vs hu hv
    obtain ⟨D, rfl⟩ : ∃ m, D = m + 1 := ⟨D - 1, by omega⟩
    have hname : f.name ≠ "_" := hn f (by simp)
    have hrest : ∀ g ∈ fs, g.name ≠ "_" := fun g hg => hn g (by simp [hg])
    -- one field, whatever it is
    have one : ∀ (b : Bool) (k' : Bool → Prop), (∀ w, (do let a ← part f.type us.toArray f.offset; let c ← part f.type vs.toArray f.offset; Op.equalIn (D + 1) f.type a c : Sem Bool).run T.P w = .ok b w) →
        eqCells T n (fs.map fun f => (f.offset, f.type)) xs ys k' → (∀ c, k' c → k (b && c)) → ∃ b, k b ∧ ∀ w, (Op.eqFields (D + 1) us.toArray vs.toArray (f :: fs)).run T.P w = .ok b w := by
      intro b k' h1 h2 h3
      obtain ⟨c, hc, hrun⟩ := eq_cells n (D + 1) (by omega) fs hrest xs ys k' h2 us vs hu hv
      refine ⟨b && c, h3 c hc, fun w => ?_⟩
      have h1w := h1 w
      simp only [Op.eqFields, ne_eq, hname, not_false_eq_true, if_true, Sem.run_bind] at h1w ⊢
      generalize (part f.type us.toArray f.offset).run T.P w = r1 at h1w ⊢
      cases r1 with
      | halt x w1 => simp [Result.andThen] at h1w
      | ok a w1 =>
        simp only [Result.andThen_ok] at h1w ⊢
        generalize (part f.type vs.toArray f.offset).run T.P w1 = r2 at h1w ⊢
        cases r2 with
        | halt x w2 => simp [Result.andThen] at h1w
        | ok c' w2 =>
          simp only [Result.andThen_ok] at h1w ⊢
          rw [h1w]
          cases b
          · simp
          · simp [hrun w]
    simp only [List.map_cons, eqCells] at h
    split at h
    · rename_i fs' hund
      split at h
      · rename_i l s _ _ heq hinf
        obtain ⟨gs, g1, g2, g3, g4, _⟩ := hT.eqt _ _ heq
        have hb := eq_cells n D (by omega) gs.toList (fun f hf => g2 f (by simpa using hf)) _ _ _ (g3 ▸ h) _ _ ((hu.drop f.offset).take s) ((hv.drop f.offset).take s)
        obtain ⟨b, hb1, hb2⟩ := hb
        refine one b _ (fun w => ?_) hb1 (fun c hc => hc)
        have hfo : T.P.underlying f.type = some (.struct (T.P.fieldsOf f.type)) := by rw [Program.fieldsOf, g1]
        have hgs : T.P.fieldsOf f.type = gs := by rw [Program.fieldsOf, g1]
        simp only [Sem.run_bind, run_part_agg hT hund rfl hinf, Result.andThen_ok]
        rw [run_equalIn_struct w D f.type _ _ hfo g4, hgs]
        exact hb2 w
      · exact h.elim
    · rename_i kd hund
      split at h
      · rename_i k1 a k2 b hx hy
        split at h
        · rename_i hk
          refine one (a == b) _ (fun w => ?_) h (fun c hc => hc)
          have hx' := hu.exact hx
          have hy' := hv.exact hy
          have hk' : k1 = k2 := of_decide_eq_true hk
          subst hk'
          simp only [Sem.run_bind, run_part_one hT hund rfl _ _ _ hx', run_part_one hT hund rfl _ _ _ hy', Result.andThen_ok]
          exact run_equalIn_int w D _ _ _ a b (hT.und _ _ hund)
        · exact h.elim
      · exact h.elim
    · rename_i hund
      split at h
      · rename_i a b hx hy
        refine one (a == b) _ (fun w => ?_) h (fun c hc => hc)
        have hx' := hu.exact hx
        have hy' := hv.exact hy
        simp only [Sem.run_bind, run_part_one hT hund rfl _ _ _ hx', run_part_one hT hund rfl _ _ _ hy', Result.andThen_ok]
        exact run_equalIn_bool w D _ a b (hT.und _ _ hund)
      · exact h.elim
    · rename_i hund
      split at h
      · rename_i a b hx hy
        refine one (a == b) _ (fun w => ?_) h (fun c hc => hc)
        have hx' := hu.exact hx
        have hy' := hv.exact hy
        simp only [Sem.run_bind, run_part_one hT hund rfl _ _ _ hx', run_part_one hT hund rfl _ _ _ hy', Result.andThen_ok]
        rw [run_equalIn_string w D _ a b (hT.und _ _ hund), beq_toListBytes]
      · exact h.elim
    · exact h.elim

theorem yld_agg {C : Ctx} {S : World → Prop} {k : AV → Prop} {op : BinOp} {t : TypeId} {ox oy : Operand} {xs ys : List AV} {us vs : List Value} {q : Bool} (hq : isEq op = some q) {l : List (Nat × Nat)} (ht : T.eqt t = some l)
    (h : eqCells T 100 l xs ys fun b => k (vbool (if q then b else !b))) (hu : RVs C xs us) (hv : RVs C ys vs) :
    Yld T.P C S k (do eqGuard op t ox oy (.agg us.toArray) (.agg vs.toArray); binOp op t (.agg us.toArray) (.agg vs.toArray)) := by
  obtain ⟨gs, g1, g2, g3, g4, g5⟩ := hT.eqt _ _ ht
  obtain ⟨b, h1, h2⟩ := eq_cells hT 100 9999 (by omega) gs.toList (fun f hf => g2 f (by simpa using hf)) _ _ _ (g3 ▸ h) us vs hu hv
  have hfo : T.P.underlying t = some (.struct (T.P.fieldsOf t)) := by rw [Program.fieldsOf, g1]
  have hgs : T.P.fieldsOf t = gs := by rw [Program.fieldsOf, g1]
  refine Yld.exact_ _ h1 fun w _ => ?_
  have hg := run_eqGuard_agg (P := T.P) w op t ox oy us.toArray vs.toArray g5
  have he := run_equalIn_struct (P := T.P) w 9999 t us.toArray vs.toArray hfo g4
  rw [hgs, h2 w] at he
  simp only [Sem.run_bind, hg, Result.andThen_ok]
  cases op <;> simp only [isEq, Option.some.injEq, reduceCtorEq] at hq <;> subst hq
  · rw [run_eql_struct, he]; rfl
  · rw [run_neq_struct, he]; rfl

theorem yld_bool {C : Ctx} {S : World → Prop} {k : AV → Prop} {op : BinOp} {t : TypeId} {ox oy : Operand} {a b : Bool} {q : Bool} (hq : isEq op = some q) (ht : T.und t = some .bool)
    (h : k (vbool (if q then a == b else !(a == b)))) : Yld T.P C S k (do eqGuard op t ox oy (.bool a) (.bool b); binOp op t (.bool a) (.bool b)) := by
  refine Yld.exact_ _ h fun w _ => ?_
  have he := run_equal_bool (P := T.P) w t a b (hT.und _ _ ht)
  simp only [Sem.run_bind, run_guard_bool, Result.andThen_ok]
  cases op <;> simp only [isEq, Option.some.injEq, reduceCtorEq] at hq <;> subst hq <;> simp [binOp, he]

/-- What is nil, and what is not, is so of the value. -/
inductive NilV : NK → Bool → Value → Prop
  | ptr : NilV .ptr true (.pointer none)
  | func : NilV .fn true .nilFunc
  | iface : NilV .ifc true .nilIface
  | ptr' (a : Addr) : NilV .ptr false (.pointer (some a))
  | func' (f : Fn) (xs ys : Array Value) : NilV .fn false (.func f xs ys)
  | iface' (t : TypeId) (v : Value) : NilV .ifc false (.iface t v)
omit hT in
theorem nil_of {C : Ctx} {x : AV} {n : NK} {b : Bool} (h : nilness x = some (n, b)) {v : Value} (hx : RV C x v) : NilV n b v := by
  unfold nilness at h
  split at h <;> first | (cases h; done) | skip
  all_goals (cases h; simp only [RV, RG] at hx)
  · subst hx; exact .ptr
  · subst hx; exact .func
  · subst hx; exact .iface
  · obtain ⟨b, _, rfl⟩ := hx; exact .ptr' _
  · obtain ⟨b, o, rfl, _⟩ := hx; exact .ptr' _
  · obtain ⟨xs, ys, rfl, _⟩ := hx; exact .func' _ _ _
  · obtain ⟨u, rfl, _⟩ := hx; exact .iface' _ _

def NK.fits : NK → TypeDesc → Prop
  | .ptr, .pointer _ => True | .fn, .func _ _ _ => True | .ifc, .interface _ => True | _, _ => False
omit hT in
theorem run_nil_eq {P : Program} {D : Nat} {t : TypeId} {d : TypeDesc} (hP : P.underlying t = some d) {n : NK} {a b : Bool} {u v : Value} (hd : NK.fits n d)
    (hu : NilV n a u) (hv : NilV n b v) (hab : (a || b) = true) (w : World) : (Op.equalIn (D + 1) t u v).run P w = .ok (a && b) w := by
  cases hu <;> cases hv <;> simp at hab <;> (cases d <;> simp [NK.fits] at hd) <;> simp [Op.equalIn, run_underlying hP]

omit hT in
theorem bin_nil {n : NK} {a b : Bool} {u v : Value} (hu : NilV n a u) (hv : NilV n b v) (t : TypeId) :
    binOp .eql t u v = (do pure (.bool (← Op.equal t u v))) ∧ binOp .neq t u v = (do pure (.bool (!(← Op.equal t u v)))) := by
  cases hu <;> cases hv <;> exact ⟨rfl, rfl⟩

omit hT in
theorem guard_nil {P : Program} {n : NK} {a b : Bool} {u v : Value} (hu : NilV n a u) (hv : NilV n b v) (op : BinOp) (t : TypeId) (ox oy : Operand) (hc : n = .ifc → (Operand.isConst ox || Operand.isConst oy) = true) (w : World) :
    (eqGuard op t ox oy u v).run P w = .ok () w := by
  cases hu <;> cases hv <;> first
    | (cases op <;> simp [eqGuard]; done)
    | (have hcc := hc rfl
       cases op <;> cases ox <;> cases oy <;> simp [Operand.isConst] at hcc <;> simp [eqGuard])

theorem yld_nil {C : Ctx} {S : World → Prop} {k : AV → Prop} {op : BinOp} {t : TypeId} {ox oy : Operand} {q a b : Bool} {n : NK} {u v : Value} (hq : isEq op = some q)
    {d : TypeDesc} (ht : T.und t = some d) (hd : NK.fits n d)
    (hu : NilV n a u) (hv : NilV n b v) (hab : (a || b) = true) (hc : n = .ifc → (Operand.isConst ox || Operand.isConst oy) = true)
    (h : k (vbool (if q then a && b else !(a && b)))) : Yld T.P C S k (do eqGuard op t ox oy u v; binOp op t u v) := by
  refine Yld.exact_ _ h fun w _ => ?_
  have he := run_nil_eq (D := 9999) (hT.und _ _ ht) hd hu hv hab w
  have he' : (Op.equal t u v).run T.P w = .ok (a && b) w := he
  simp only [Sem.run_bind, guard_nil hu hv op t ox oy hc, Result.andThen_ok]
  cases op <;> simp only [isEq, Option.some.injEq, reduceCtorEq] at hq <;> subst hq
  · rw [(bin_nil hu hv t).1]; simp [he']
  · rw [(bin_nil hu hv t).2]; simp [he']

theorem yld_slnil {C : Ctx} {S : World → Prop} {k : AV → Prop} {op : BinOp} {t : TypeId} {ox oy : Operand} {q : Bool} {x : AV} {u : Value} {n m : Nat} (hq : isEq op = some q) {el : TypeId} (ht : T.und t = some (.slice el))
    (h : evSlNil x fun b => k (vbool (if q then b else !b))) (hx : RV C x u) : Yld T.P C S k (do eqGuard op t ox oy u (.slice none n m); binOp op t u (.slice none n m)) := by
  have hP := hT.und _ _ ht
  have fin : ∀ (a : Option Addr) (l c : Nat), u = .slice a l c → k (vbool (if q then a.isNone else !a.isNone)) → Yld T.P C S k (do eqGuard op t ox oy u (.slice none n m); binOp op t u (.slice none n m)) := by
    rintro a l c rfl hk
    refine Yld.exact_ _ hk fun w _ => ?_
    have he' : ∀ D, (Op.equalIn (D + 1) t (.slice a l c) (.slice none n m)).run T.P w = .ok a.isNone w := by
      intro D
      cases a <;> simp [Op.equalIn, run_underlying hP]
    have he : (Op.equal t (.slice a l c) (.slice none n m)).run T.P w = .ok a.isNone w := he' 9999
    have hg : (eqGuard op t ox oy (.slice a l c) (.slice none n m)).run T.P w = .ok () w := by
      unfold eqGuard
      cases op <;> simp
    simp only [Sem.run_bind, hg, Result.andThen_ok]
    cases op <;> simp only [isEq, Option.some.injEq, reduceCtorEq] at hq <;> subst hq
    · simp [binOp, he]
    · simp [binOp, he]
  unfold evSlNil at h
  split at h
  · simp only [RV, RG] at hx; exact fin _ _ _ hx h
  · simp only [RV, RG] at hx; exact fin _ _ _ hx h
  · rename_i sz n' at_
    simp only [RV, RG] at hx
    obtain ⟨a, c, e, _, _, h3⟩ := hx
    refine fin _ _ _ e (h _ fun h1 h2 => ?_)
    obtain ⟨ad, v, e1, _⟩ := h3 0 h1 0 h2
    rw [e1]; rfl
  · rename_i id sz off len cap
    simp only [RV] at hx
    obtain ⟨a, c, e, _, _, h3⟩ := hx
    refine fin _ _ _ e (h _ fun h1 => ?_)
    rcases h3 with ⟨b, _, rfl, _⟩ | ⟨e0, _⟩
    · rfl
    · omega
  · simp only [RV] at hx
    obtain ⟨a, e⟩ := hx
    exact fin _ _ _ e (h _)
  · exact h.elim

theorem evBin_sound {C : Ctx} {S : World → Prop} {k : AV → Prop} {op : BinOp} {t : TypeId} {ox oy : Operand} {x y : AV} {u v : Value} (h : evBin T op t ox oy x y k) (hx : RV C x u) (hy : RV C y v) :
    Yld T.P C S k (do eqGuard op t ox oy u v; binOp op t u v) := by
  unfold evBin at h
  split at h
  · rename_i kd a kd' b
    simp only [RV, RG] at hx hy
    subst hx hy
    have key : Yld T.P C S k (binOp op t (.int kd a) (.int kd' b)) := by
      split at h
      · exact yld_shl h
      · exact yld_shr h
      · split at h
        · rename_i hk
          have := of_decide_eq_true hk
          subst this
          exact yld_int h
        · exact h.elim
    obtain ⟨r, v, h1, h2, h3⟩ := key
    exact ⟨r, v, h1, h2, fun w hw => by simp [run_guard_int, h3 w hw]⟩
  · simp only [RV, RG] at hx hy
    subst hx hy
    obtain ⟨r, v, h1, h2, h3⟩ := yld_str (P := T.P) (C := C) (S := S) (t := t) h
    exact ⟨r, v, h1, h2, fun w hw => by simp [run_guard_str, h3 w hw]⟩
  · simp only [RV, RG] at hx hy
    subst hx hy
    split at h
    · rename_i h1 h2; exact yld_bool hT h1 h2 (by simpa using h)
    · rename_i h1 h2; exact yld_bool hT h1 h2 (by simpa using h)
    · exact h.elim
  · simp only [RV] at hx hy
    obtain ⟨us, rfl, hu⟩ := hx
    obtain ⟨vs, rfl, hv⟩ := hy
    split at h
    · rename_i h1 h2; exact yld_agg hT h1 h2 (by simpa using h) hu hv
    · rename_i h1 h2; exact yld_agg hT h1 h2 (by simpa using h) hu hv
    · exact h.elim
  · simp only [RV, RG] at hy
    subst hy
    split at h
    · rename_i h1 h2; exact yld_slnil hT h1 h2 h hx
    · exact h.elim
  · split at h
    · rename_i h1 h2 h3 h4
      split at h
      · rename_i hab
        exact yld_nil (n := .ptr) hT h1 h2 (by simp [NK.fits]) (nil_of h3 hx) (nil_of h4 hy) hab (fun e => by cases e) h
      · exact h.elim
    · rename_i h1 h2 h3 h4
      split at h
      · rename_i hab
        exact yld_nil (n := .fn) hT h1 h2 (by simp [NK.fits]) (nil_of h3 hx) (nil_of h4 hy) hab (fun e => by cases e) h
      · exact h.elim
    · rename_i h1 h2 h3 h4
      split at h
      · rename_i hab
        simp only [Bool.and_eq_true] at hab
        exact yld_nil (n := .ifc) hT h1 h2 (by simp [NK.fits]) (nil_of h3 hx) (nil_of h4 hy) hab.1 (fun _ => hab.2) h
      · exact h.elim
    · exact h.elim
end
end Go.Ev
