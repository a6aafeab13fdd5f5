/- The mill, part J: a quiet operation is as it is told. -/
import Derived.Test.YtgpegohoninbfaaGreatEvI
namespace Go.Ev
set_option linter.unusedVariables false
set_option linter.unusedSimpArgs false
open Go.RowKit
variable {A : Nat → Nat → Prop}

section
variable {T : Tab} (hT : T.OK) {r : List (Option Nat)} {H : AHeap} {X : List Nat} {w : World} {k : AV → Prop} {e : Env} {a : Act}
include hT

omit hT in
theorem yld_un {C : Ctx} {S : World → Prop} {op : UnOp} {x : AV} {v : Value} (h : evUn op x k) (hx : RV C x v) : Yld T.P C S k (Op.unary op v) := by
  unfold evUn at h
  split at h
  · simp only [RV, RG] at hx; subst hx
    exact Yld.exact_ _ h fun w _ => by simp [Op.unary]
  · simp only [RV, RG] at hx; subst hx
    exact yld_arith h fun w _ => by simp [Op.unary, Op.intArith]
  · simp only [RV, RG] at hx; subst hx
    exact Yld.exact_ _ h fun w _ => by simp [Op.unary, Op.intBits, bitsOf]
  · exact h.elim

theorem yld_field {C : Ctx} {S : World → Prop} {t : TypeId} {fs : Array Field} {fl : Field} {f : Nat} (hu : T.und t = some (.struct fs)) (hf : fs.toList[f]? = some fl) {cs : List AV} {v : Value} (h : evField T cs fl.offset fl.type k) (hx : RV C (.agg cs) v) : Yld T.P C S k (Instr.field t v f) := by
  have hP := hT.und _ _ hu
  simp only [RV] at hx
  obtain ⟨vs, rfl, hv⟩ := hx
  obtain ⟨b, u, h1, h2, h3⟩ := yld_part hT (S := S) h hv
  refine ⟨b, u, h1, h2, fun w hw => ?_⟩
  have hf' : fs[f]? = some fl := by rw [← hf]; simp
  simp [Instr.field, run_underlying hP, hf', asAgg, h3 w hw]

omit hT in
theorem min2_int {P : Program} {kd kd' : IntKind} {a b : Int} {w : World} : (Builtin.min2 (.int kd a) (.int kd' b)).run P w = .ok (.int kd (min a b)) w := by
  simp only [Builtin.min2, Sem.run_pure]
  congr 2
  split <;> omega
omit hT in
theorem max2_int {P : Program} {kd kd' : IntKind} {a b : Int} {w : World} : (Builtin.max2 (.int kd a) (.int kd' b)).run P w = .ok (.int kd (max a b)) w := by
  simp only [Builtin.max2, Sem.run_pure]
  congr 2
  split <;> omega

theorem evQ_sound (S : World → Prop) (hi : Inv A r H w) (hl : Laid T (ctx A r H w)) (he : RE (ctx A r H w) e a) (o : Oper) (hS : ∀ t x, o.op = .load t x → ∀ w', S w' → Agree A r H X w w') (h : evQ T X H e o.op k) : YldN T.P (ctx A r H w) S k (execOp a.eval o) := by
  obtain ⟨dst, op, ty, pos, after, guard⟩ := o
  have V := rv_opv hl he
  cases op <;> simp only [evQ, opd_eq] at h <;> try exact h.elim
  case move x => exact ⟨_, _, h, V x, fun w _ => by simp [execOp]⟩
  case assign x => exact ⟨_, _, h, V x, fun w _ => by simp [execOp]⟩
  case pick c x y =>
    have hc := V c
    split at h
    · rename_i t hcv
      rw [hcv] at hc
      simp only [RV, RG] at hc
      cases t with
      | true => exact ⟨_, _, h.1 rfl, V x, fun w _ => by simp [execOp, hc, asBool]⟩
      | false => exact ⟨_, _, h.2 rfl, V y, fun w _ => by simp [execOp, hc, asBool]⟩
    · exact h.elim
  case binOp op t x y _ => exact Yld.next (evBin_sound hT h (V x) (V y))
  case unOp op _ x => exact Yld.next (yld_un h (V x))
  case convert src dst x => exact Yld.next (yld_conv hT h (V x))
  case field t x f =>
    split at h
    · rename_i fs hu
      split at h
      · rename_i fl hf
        split at h
        · rename_i cs hx
          have hv := V x
          rw [hx] at hv
          exact Yld.next (yld_field hT hu hf h hv)
        · exact h.elim
      · exact h.elim
    · exact h.elim
  case extract x i =>
    split at h
    · rename_i vs hx
      have hv := V x
      rw [hx] at hv
      simp only [RV] at hv
      obtain ⟨us, hu, hv⟩ := hv
      split at h
      · rename_i v hvi
        obtain ⟨u, h1, h2⟩ := RVs.get hv _ _ hvi
        exact ⟨_, u, h, h2, fun w _ => by simp [execOp, hu, Instr.extract, h1]⟩
      · exact h.elim
    · exact h.elim
  case build t parts =>
    obtain ⟨vs, h1, h2⟩ := partsK_rv hl he _ _ h
    exact Yld.next (yld_build hT h1 (by simpa using h2))
  case fieldAddr s x f => exact Yld.next (yld_fieldAddr hT h (V x))
  case indexAddr t x y => exact Yld.next (yld_indexAddr hT h (V x) (V y))
  case index t x y => exact Yld.next (yld_index hT h (V x) (V y))
  case slice t x lo hi' mx =>
    obtain ⟨l, h, hlo⟩ := optK_rv hl he _ _ h
    obtain ⟨q, h, hq⟩ := optK_rv hl he _ _ h
    obtain ⟨m, h, hm⟩ := optK_rv hl he _ _ h
    exact Yld.next (yld_slice hT hi h (V x) hlo hq hm)
  case load t x =>
    obtain ⟨b, u, h1, h2, h3⟩ := yld_load hT hi h (V x)
    exact Yld.next ⟨b, u, h1, h2, fun w' hw' => h3 w' (hS t x rfl w' hw')⟩
  case nilCheck x =>
    have hv := V x
    unfold evNil at h
    split at h
    · rename_i hx
      refine ⟨_, _, h, hv, fun w _ => ?_⟩
      rw [hx] at hv; simp only [RV] at hv; obtain ⟨b, _, hv⟩ := hv
      simp [execOp, hv]
    · rename_i hx
      refine ⟨_, _, h, hv, fun w _ => ?_⟩
      rw [hx] at hv; simp only [RV] at hv; obtain ⟨b, _, hv, _⟩ := hv
      simp [execOp, hv]
    · rename_i hx
      refine ⟨_, _, h, hv, fun w _ => ?_⟩
      rw [hx] at hv; simp only [RV] at hv; obtain ⟨b, _, hv, _⟩ := hv
      simp [execOp, hv]
    · rename_i hx
      refine ⟨_, _, h, hv, fun w _ => ?_⟩
      rw [hx] at hv; simp only [RV] at hv; obtain ⟨b, hv, _⟩ := hv
      simp [execOp, hv]
    · rename_i hx
      refine ⟨_, _, h, hv, fun w _ => ?_⟩
      rw [hx] at hv; simp only [RV] at hv; obtain ⟨b, c, hv, _⟩ := hv
      simp [execOp, hv]
    · rename_i hx
      refine ⟨_, _, h, hv, fun w _ => ?_⟩
      rw [hx] at hv; simp only [RV] at hv; obtain ⟨b, hv, _⟩ := hv
      simp [execOp, hv]
    · exact h.elim
  case makeInterface t x =>
    split at h
    · exact h.elim
    · rename_i d hd hu
      refine ⟨_, .iface t (a.eval x), h, by simp only [RV]; exact ⟨_, rfl, V x⟩, fun w _ => ?_⟩
      have hP := hT.und _ _ hu
      cases d <;> simp_all [execOp, Instr.makeInterface, run_underlying hP]
    · exact h.elim
  case makeFunc fn first captured =>
    obtain ⟨fs, h, hf⟩ := opdsK_rv hl he _ _ h
    obtain ⟨cs, h, hc⟩ := opdsK_rv hl he _ _ h
    refine ⟨_, .func fn (first.map a.eval) (captured.map a.eval), h, ?_, fun w _ => by simp [execOp, Instr.makeFunc]⟩
    simp only [RV]
    exact ⟨_, _, by rw [← Array.toList_map, ← Array.toList_map, Array.toArray_toList, Array.toArray_toList], hf, hc⟩
  case call c =>
    obtain ⟨callee, args, ats⟩ := c
    cases callee with
    | value f => exact h.elim
    | invoke x n => exact h.elim
    | builtin b =>
      simp only at h
      obtain ⟨xs, h, hx⟩ := opdsK_rv hl he _ _ h
      generalize hats : ats.toList = ts at h
      unfold evBuiltinQ at h
      split at h
      · rename_i t ts' x xs'
        simp only [RVs] at hx
        obtain ⟨v, us, hv, hv1, _⟩ := hx
        refine Yld.next (yld_len hT h (ts := ats) (us := args.map a.eval) ?_ hv1 ?_)
        · rw [← Array.getElem?_toList, hats]; rfl
        · rw [← Array.getElem?_toList, Array.toList_map, hv]; rfl
      · rename_i kd n kd' m _
        simp only [RVs, RV, RG] at hx
        obtain ⟨v, us, hv, rfl, v', us', rfl, rfl, rfl⟩ := hx
        refine ⟨_, .int kd (min n m), h, by simp only [RV, RG], fun w _ => ?_⟩
        have := min2_int (P := T.P) (kd := kd) (kd' := kd') (a := n) (b := m) (w := w)
        simp [execOp, resolve, invoke, builtin, Builtin.min_, hv, this]
      · rename_i kd n kd' m _
        simp only [RVs, RV, RG] at hx
        obtain ⟨v, us, hv, rfl, v', us', rfl, rfl, rfl⟩ := hx
        refine ⟨_, .int kd (max n m), h, by simp only [RV, RG], fun w _ => ?_⟩
        have := max2_int (P := T.P) (kd := kd) (kd' := kd') (a := n) (b := m) (w := w)
        simp [execOp, resolve, invoke, builtin, Builtin.max_, hv, this]
      · exact h.elim
end
end Go.Ev
