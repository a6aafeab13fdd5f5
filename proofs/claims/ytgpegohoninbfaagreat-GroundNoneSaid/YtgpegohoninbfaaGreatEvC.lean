/- The mill, part C: what a quiet operation yields. -/
import Derived.Test.YtgpegohoninbfaaGreatEvB
import Derived.Laws.StructEq
import Derived.Laws.Slices
import Derived.Laws.Strings
import Derived.IntWalk
namespace Go.Ev
set_option linter.unusedVariables false
set_option linter.unusedSimpArgs false
open Go.RowKit
variable {A : Nat → Nat → Prop}

/-- What the mill knows of a program's tables. -/
structure Tab where
  P : Program
  und : Nat → Option TypeDesc
  inf : Nat → Option (Nat × Nat × Value)
  eqt : Nat → Option (List (Nat × Nat))
  glob : Nat → Option (Nat × (Nat → G))
  fn : Nat → Bool

structure Tab.OK (T : Tab) : Prop where
  und : ∀ t d, T.und t = some d → T.P.underlying t = some d
  inf : ∀ t s b z, T.inf t = some (s, b, z) → ∃ i, T.P.info? t = some i ∧ i.size = s ∧ i.bytes = b ∧ i.zero = some z ∧ z.cells.size = s
  eqt : ∀ t l, T.eqt t = some l → ∃ fs, T.P.underlying t = some (.struct fs) ∧ (∀ f ∈ fs, f.name ≠ "_") ∧ fs.toList.map (fun f => (f.offset, f.type)) = l ∧ T.P.stoodInHeld t = false ∧ T.P.eqGuardType T.P.depth t = false
  mixed : T.P.follows .mixedOrders = true
  fn : ∀ f, T.fn f = true → ∀ args w, (callFunc f args).run T.P w = .ok (.enter f args) w

abbrev Env := List (Nat × AV)
def look : Env → Nat → AV
  | [], _ => .junk
  | (a, v) :: l, t => if a = t then v else look l t
def get : Env → Nat → (AV → Prop) → Prop
  | [], _, k => k .junk
  | (a, v) :: l, t, k => match Nat.beq a t with
    | true => k v
    | false => get l t k
theorem get_eq : ∀ (e : Env) (t : Nat) (k : AV → Prop), get e t k = k (look e t)
  | [], _, _ => rfl
  | (a, v) :: l, t, k => by
    unfold get look
    by_cases h : a = t
    · subst h; simp
    · have : Nat.beq a t = false := by
        cases hb : Nat.beq a t with
        | false => rfl
        | true => exact absurd (Nat.eq_of_beq_eq_true hb) h
      rw [this, if_neg h]; exact get_eq l t k

def opv (T : Tab) (e : Env) : Operand → AV
  | .tmp t => look e t
  | .const v => .g (.c v)
  | .global g => match T.glob g with
    | some (n, at_) => .rp n at_
    | none => .junk
  | .func f => .fn (.func f) [] []
def opd (T : Tab) (e : Env) : Operand → (AV → Prop) → Prop
  | .tmp t, k => get e t k
  | .const v, k => k (.g (.c v))
  | .global g, k => match T.glob g with
    | some (n, at_) => k (.rp n at_)
    | none => k .junk
  | .func f, k => k (.fn (.func f) [] [])
theorem opd_eq (T : Tab) (e : Env) (x : Operand) (k : AV → Prop) : opd T e x k = k (opv T e x) := by
  cases x with
  | tmp t => exact get_eq e t k
  | const v => rfl
  | global g => simp only [opd, opv]; cases T.glob g <;> rfl
  | func f => rfl

/-- The globals that the table tells of stand there. -/
def Laid (T : Tab) (C : Ctx) : Prop := ∀ g n at_, T.glob g = some (n, at_) → RV C (.rp n at_) (.pointer (some ⟨g, 0, none⟩))
theorem Laid.mono {T : Tab} {C D : Ctx} (h : Le C D) (hl : Laid T C) : Laid T D := fun g n at_ hg => RV.mono h _ _ (hl g n at_ hg)

/-- A frame's slots are as the environment says. -/
def RE (C : Ctx) (e : Env) (a : Act) : Prop := ∀ t, RV C (look e t) (a.tmps.getD t undef)
theorem RE.mono {C D : Ctx} (h : Le C D) {e : Env} {a : Act} (he : RE C e a) : RE D e a := fun t => RV.mono h _ _ (he t)

theorem rv_opv {T : Tab} {C : Ctx} {e : Env} {a : Act} (hl : Laid T C) (he : RE C e a) (x : Operand) : RV C (opv T e x) (a.eval x) := by
  cases x with
  | tmp t => exact he t
  | const v => simp [opv, Act.eval, RV, RG]
  | global g =>
    simp only [opv, Act.eval]
    cases hg : T.glob g with
    | none => simp [RV]
    | some q => obtain ⟨n, at_⟩ := q; exact hl g n at_ hg
  | func f => simp only [opv, Act.eval, RV]; exact ⟨[], [], rfl, by simp [RVs], by simp [RVs]⟩

abbrev vint (kd : IntKind) (n : Int) : AV := .g (.c (.int kd n))
abbrev vbool (b : Bool) : AV := .g (.c (.bool b))
abbrev vstr (s : ByteArray) : AV := .g (.c (.string s))

/-- A sum, difference or product: bare where it fits (i64), else wrapped. -/
def arith (kd : IntKind) (n : Int) (k : AV → Prop) : Prop :=
  match kd with
  | .i64 => ((-9223372036854775808 ≤ n ∧ n ≤ 9223372036854775807) ∧ k (vint .i64 n)) ∨ k (vint .i64 (IntKind.i64.wrap n))
  | kd => k (vint kd (kd.wrap n))
def bitsOf (op : BinOp) (kd : IntKind) (x y : Int) : Int :=
  let a := BitVec.ofInt kd.bits x
  let b := BitVec.ofInt kd.bits y
  match op with
  | .and => kd.wrap (a &&& b).toNat
  | .or => kd.wrap (a ||| b).toNat
  | .xor => kd.wrap (a ^^^ b).toNat
  | _ => kd.wrap (a &&& ~~~b).toNat
def evInt (op : BinOp) (kd : IntKind) (a b : Int) (k : AV → Prop) : Prop :=
  match op with
  | .add => arith kd (a + b) k
  | .sub => arith kd (a - b) k
  | .mul => arith kd (a * b) k
  | .quo => b ≠ 0 ∧ arith kd (a.tdiv b) k
  | .rem => b ≠ 0 ∧ k (vint kd (a.tmod b))
  | .and => k (vint kd (bitsOf .and kd a b))
  | .or => k (vint kd (bitsOf .or kd a b))
  | .xor => k (vint kd (bitsOf .xor kd a b))
  | .andNot => k (vint kd (bitsOf .andNot kd a b))
  | .shl => 0 ≤ b ∧ k (vint kd (kd.wrap (a * 2 ^ (min b.toNat kd.bits))))
  | .shr => 0 ≤ b ∧ k (vint kd (a.fdiv (2 ^ (min b.toNat kd.bits))))
  | .eql => k (vbool (a == b))
  | .neq => k (vbool (a != b))
  | .lss => k (vbool (decide (a < b)))
  | .leq => k (vbool (decide (a ≤ b)))
  | .gtr => k (vbool (decide (b < a)))
  | .geq => k (vbool (decide (b ≤ a)))
def evStr (op : BinOp) (a b : ByteArray) (k : AV → Prop) : Prop :=
  match op with
  | .add => ((a.size + b.size : Nat) : Int) ≤ 9223372036854775807 ∧ k (vstr (a ++ b))
  | .eql => k (vbool (a == b))
  | .neq => k (vbool (!(a == b)))
  | .lss => k (vbool (Op.bytesLess a.toList b.toList))
  | .leq => k (vbool (Op.bytesLess a.toList b.toList || a == b))
  | .gtr => k (vbool (!(Op.bytesLess a.toList b.toList || a == b)))
  | .geq => k (vbool (!Op.bytesLess a.toList b.toList))
  | _ => False
inductive NK where | ptr | fn | ifc
/-- Nil (true), or surely not. -/
def nilness : AV → Option (NK × Bool)
  | .g (.c (.pointer none)) => some (.ptr, true)
  | .g (.c .nilFunc) => some (.fn, true)
  | .g (.c .nilIface) => some (.ifc, true)
  | .p .. => some (.ptr, false)
  | .rp .. => some (.ptr, false)
  | .fn .. => some (.fn, false)
  | .ifc .. => some (.ifc, false)
  | _ => none
/-- The cells of two structs of basic fields, one by one. -/
def eqCells (T : Tab) : Nat → List (Nat × Nat) → List AV → List AV → (Bool → Prop) → Prop
  | 0, _, _, _, _ => False
  | _ + 1, [], _, _, k => k true
  | d + 1, (off, t) :: fs, xs, ys, k =>
    match T.und t with
    | some (.struct _) => match T.eqt t, T.inf t with
      | some l, some (s, _, _) => eqCells T d l ((xs.drop off).take s) ((ys.drop off).take s) fun b => eqCells T d fs xs ys fun c => k (b && c)
      | _, _ => False
    | some (.int _) => match xs[off]?, ys[off]? with
      | some (.g (.c (.int kd a))), some (.g (.c (.int kd' b))) => match decide (kd = kd') with
        | true => eqCells T d fs xs ys fun c => k (a == b && c)
        | false => False
      | _, _ => False
    | some .bool => match xs[off]?, ys[off]? with
      | some (.g (.c (.bool a))), some (.g (.c (.bool b))) => eqCells T d fs xs ys fun c => k (a == b && c)
      | _, _ => False
    | some .string => match xs[off]?, ys[off]? with
      | some (.g (.c (.string a))), some (.g (.c (.string b))) => eqCells T d fs xs ys fun c => k (a == b && c)
      | _, _ => False
    | _ => False
def isEq : BinOp → Option Bool
  | .eql => some true
  | .neq => some false
  | _ => none
def Operand.isConst : Operand → Bool
  | .const _ => true
  | _ => false
/-- Is it the nil slice? Of an empty one nothing is known. -/
def evSlNil (x : AV) (k : Bool → Prop) : Prop :=
  match x with
  | .g (.c (.slice none _ _)) => k true
  | .g (.c (.slice (some _) _ _)) => k false
  | .g (.sl sz n _) => ∀ b : Bool, (0 < n → 0 < sz → b = false) → k b
  | .sl _ _ _ len _ => ∀ b : Bool, (0 < len → b = false) → k b
  | .nz => ∀ b : Bool, k b
  | _ => False
def evBin (T : Tab) (op : BinOp) (t : TypeId) (ox oy : Operand) (x y : AV) (k : AV → Prop) : Prop :=
  match x, y with
  | .g (.c (.int kd a)), .g (.c (.int kd' b)) => match op with
    | .shl => evInt .shl kd a b k
    | .shr => evInt .shr kd a b k
    | op => match decide (kd = kd') with
      | true => evInt op kd a b k
      | false => False
  | .g (.c (.string a)), .g (.c (.string b)) => evStr op a b k
  | .g (.c (.bool a)), .g (.c (.bool b)) => match isEq op, T.und t with
    | some true, some .bool => k (vbool (a == b))
    | some false, some .bool => k (vbool (!(a == b)))
    | _, _ => False
  | .agg xs, .agg ys => match isEq op, T.eqt t with
    | some true, some l => eqCells T 100 l xs ys fun b => k (vbool b)
    | some false, some l => eqCells T 100 l xs ys fun b => k (vbool (!b))
    | _, _ => False
  | x, .g (.c (.slice none _ _)) => match isEq op, T.und t with
    | some q, some (.slice _) => evSlNil x fun b => k (vbool (if q then b else !b))
    | _, _ => False
  | x, y => match isEq op, T.und t, nilness x, nilness y with
    | some q, some (.pointer _), some (.ptr, a), some (.ptr, b) => match a || b with
      | true => k (vbool (if q then a && b else !(a && b)))
      | false => False
    | some q, some (.func _ _ _), some (.fn, a), some (.fn, b) => match a || b with
      | true => k (vbool (if q then a && b else !(a && b)))
      | false => False
    | some q, some (.interface _), some (.ifc, a), some (.ifc, b) => match (a || b) && (Operand.isConst ox || Operand.isConst oy) with
      | true => k (vbool (if q then a && b else !(a && b)))
      | false => False
    | _, _, _, _ => False
end Go.Ev
