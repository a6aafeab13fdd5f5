/- The mill, part D: the two-place operators. -/
import Derived.Test.YtgpegohoninbfaaGreatEvC
namespace Go.Ev
set_option linter.unusedVariables false
set_option linter.unusedSimpArgs false
open Go.RowKit
variable {A : Nat → Nat → Prop}

/-- In every world of a class one value comes, and the world stays. -/
def Yld (P : Program) (C : Ctx) (S : World → Prop) (k : AV → Prop) (s : Sem Value) : Prop := ∃ r v, k r ∧ RV C r v ∧ ∀ w, S w → s.run P w = .ok v w

section
variable {P : Program} {C : Ctx} {S : World → Prop} {k : AV → Prop}
theorem Yld.exact_ {s : Sem Value} (v : Value) (hk : k (.g (.c v))) (h : ∀ w, S w → s.run P w = .ok v w) : Yld P C S k s := ⟨_, v, hk, by simp [RV, RG], h⟩

theorem yld_arith {kd : IntKind} {n : Int} {s : Sem Value} (h : arith kd n k) (hs : ∀ w, S w → s.run P w = .ok (.int kd (kd.wrap n)) w) : Yld P C S k s := by
  have e : arith kd n k → k (vint kd (kd.wrap n)) := by
    intro h
    cases kd <;> simp only [arith] at h <;> try exact h
    rcases h with ⟨hb, h⟩ | h
    · rw [IntWalk.i64_in n hb]; exact h
    · exact h
  exact Yld.exact_ _ (e h) hs

theorem run_guard_int (op : BinOp) (t : TypeId) (ox oy : Operand) (kd kd' : IntKind) (a b : Int) (w : World) : (eqGuard op t ox oy (.int kd a) (.int kd' b)).run P w = .ok () w := by
  unfold eqGuard
  cases op <;> simp
theorem run_guard_str (op : BinOp) (t : TypeId) (ox oy : Operand) (a b : ByteArray) (w : World) : (eqGuard op t ox oy (.string a) (.string b)).run P w = .ok () w := by
  unfold eqGuard
  cases op <;> simp
theorem run_guard_bool (op : BinOp) (t : TypeId) (ox oy : Operand) (a b : Bool) (w : World) : (eqGuard op t ox oy (.bool a) (.bool b)).run P w = .ok () w := by
  unfold eqGuard
  cases op <;> simp

theorem yld_shl {t : TypeId} {kd kd' : IntKind} {a b : Int} (h : evInt .shl kd a b k) : Yld P C S k (binOp .shl t (.int kd a) (.int kd' b)) := by
  simp only [evInt] at h
  refine Yld.exact_ _ h.2 fun w _ => ?_
  simp [binOp, Op.shift, show ¬ b < 0 by omega]
theorem yld_shr {t : TypeId} {kd kd' : IntKind} {a b : Int} (h : evInt .shr kd a b k) : Yld P C S k (binOp .shr t (.int kd a) (.int kd' b)) := by
  simp only [evInt] at h
  refine Yld.exact_ _ h.2 fun w _ => ?_
  simp [binOp, Op.shift, show ¬ b < 0 by omega]

theorem yld_int {op : BinOp} {t : TypeId} {kd : IntKind} {a b : Int} (h : evInt op kd a b k) : Yld P C S k (binOp op t (.int kd a) (.int kd b)) := by
  cases op
  case shl => exact yld_shl h
  case shr => exact yld_shr h
  case add => exact yld_arith h fun w _ => by simp [binOp, Op.intArith]
  case sub => exact yld_arith h fun w _ => by simp [binOp, Op.intArith]
  case mul => exact yld_arith h fun w _ => by simp [binOp, Op.intArith]
  case quo => exact yld_arith h.2 fun w _ => by simp [binOp, Op.intDiv, show ¬ b = 0 from h.1]
  case rem => exact Yld.exact_ _ h.2 fun w _ => by simp [binOp, Op.intDiv, show ¬ b = 0 from h.1]
  case and => exact Yld.exact_ _ h fun w _ => by simp [binOp, Op.intBits, bitsOf]
  case or => exact Yld.exact_ _ h fun w _ => by simp [binOp, Op.intBits, bitsOf]
  case xor => exact Yld.exact_ _ h fun w _ => by simp [binOp, Op.intBits, bitsOf]
  case andNot => exact Yld.exact_ _ h fun w _ => by simp [binOp, Op.intBits, bitsOf]
  case eql => exact Yld.exact_ _ h fun w _ => by simp [binOp, Op.intCmp]
  case neq => exact Yld.exact_ _ h fun w _ => by simp [binOp, Op.intCmp]
  case lss => exact Yld.exact_ _ h fun w _ => by simp [binOp, Op.intCmp]
  case leq => exact Yld.exact_ _ h fun w _ => by simp [binOp, Op.intCmp]
  case gtr => exact Yld.exact_ _ h fun w _ => by simp [binOp, Op.intCmp]
  case geq => exact Yld.exact_ _ h fun w _ => by simp [binOp, Op.intCmp]

theorem yld_str {op : BinOp} {t : TypeId} {a b : ByteArray} (h : evStr op a b k) : Yld P C S k (binOp op t (.string a) (.string b)) := by
  have e := beq_toListBytes a b
  cases op <;> simp only [evStr] at h
  case add => 
    refine Yld.exact_ _ h.2 fun w _ => ?_
    have h1 := h.1
    have : ¬ ((a.size + b.size : Nat) : Int) > IntKind.i64.max := by
      have : IntKind.i64.max = 9223372036854775807 := by decide
      omega
    simp only [binOp, Op.stringOp, if_neg this]; rfl
  case eql => exact Yld.exact_ _ h fun w _ => by simp [binOp, Op.stringOp, e]
  case neq => exact Yld.exact_ _ h fun w _ => by simp [binOp, Op.stringOp, e]
  case lss => exact Yld.exact_ _ h fun w _ => by simp [binOp, Op.stringOp]
  case leq => exact Yld.exact_ _ h fun w _ => by simp [binOp, Op.stringOp, e]
  case gtr => exact Yld.exact_ _ h fun w _ => by simp [binOp, Op.stringOp, e]
  case geq => exact Yld.exact_ _ h fun w _ => by simp [binOp, Op.stringOp]
  all_goals exact h.elim
end
end Go.Ev
