/- The mill, part Ba: the operations with a Bool's answer, for what is known whole; values come forced. -/
import Derived.Test.YtgpegohoninbfaaGreatEvO
namespace Go.Ev
set_option linter.unusedVariables false
set_option linter.unusedSimpArgs false
open Go.RowKit
set_option linter.unusedVariables false

def fN (n : Nat) (k : Nat → Bool) : Bool :=
  match n with
  | 0 => k 0
  | Nat.succ m => k (Nat.succ m)
theorem fN_eq (n : Nat) (k : Nat → Bool) : fN n k = k n := by cases n <;> rfl
def fI (n : Int) (k : Int → Bool) : Bool :=
  match n with
  | .ofNat m => fN m fun m => k (.ofNat m)
  | .negSucc m => fN m fun m => k (.negSucc m)
theorem fI_eq (n : Int) (k : Int → Bool) : fI n k = k n := by cases n <;> simp only [fI, fN_eq]
def fB (b : Bool) (k : Bool → Bool) : Bool :=
  match b with
  | true => k true
  | false => k false
theorem fB_eq (b : Bool) (k : Bool → Bool) : fB b k = k b := by cases b <;> rfl
def fL : List UInt8 → (List UInt8 → Bool) → Bool
  | [], k => k []
  | x :: xs, k => fN x.toNat fun n => fL xs fun ys => k (UInt8.ofNat n :: ys)
theorem fL_eq : ∀ (l : List UInt8) (k : List UInt8 → Bool), fL l k = k l
  | [], _ => rfl
  | x :: xs, k => by simp only [fL, fN_eq, fL_eq xs, UInt8.ofNat_toNat]
def fS (s : ByteArray) (k : ByteArray → Bool) : Bool := fL s.data.toList fun l => k ⟨⟨l⟩⟩
theorem fS_eq (s : ByteArray) (k : ByteArray → Bool) : fS s k = k s := by simp only [fS, fL_eq]
def fV (v : Value) (k : Value → Bool) : Bool :=
  match v with
  | .int kd n => fI n fun m => k (.int kd m)
  | .bool b => fB b fun c => k (.bool c)
  | .string s => fS s fun t => k (.string t)
  | .pointer a => k (.pointer a)
  | .slice a n c => k (.slice a n c)
  | .map r => k (.map r)
  | v => k v
theorem fV_eq (v : Value) (k : Value → Bool) : fV v k = k v := by cases v <;> simp only [fV, fI_eq, fB_eq, fS_eq]
def fG (x : G) (k : G → Bool) : Bool :=
  match x with
  | .c v => fV v fun v => k (.c v)
  | .sl sz n at_ => fN n fun n => k (.sl sz n at_)
theorem fG_eq (x : G) (k : G → Bool) : fG x k = k x := by cases x <;> simp only [fG, fV_eq, fN_eq]
/-- An abstract value, to its head. -/
def fA (x : AV) (k : AV → Bool) : Bool :=
  match x with
  | .g y => fG y fun y => k (.g y)
  | .p id sz i j => k (.p id sz i j)
  | .rp n at_ => k (.rp n at_)
  | .sl id sz off len cap => k (.sl id sz off len cap)
  | .nz => k .nz
  | .agg cs => k (.agg cs)
  | .tup cs => k (.tup cs)
  | .fn f fs cs => k (.fn f fs cs)
  | .ifc t y => k (.ifc t y)
  | .m id => k (.m id)
  | .junk => k .junk
theorem fA_eq (x : AV) (k : AV → Bool) : fA x k = k x := by cases x <;> simp only [fA, fG_eq]

def getB : Env → Nat → (AV → Bool) → Bool
  | [], _, k => k .junk
  | (a, v) :: l, t, k => match Nat.beq a t with
    | true => k v
    | false => getB l t k
theorem getB_eq : ∀ (e : Env) (t : Nat) (k : AV → Bool), getB e t k = k (look e t)
  | [], _, _ => rfl
  | (a, v) :: l, t, k => by
    unfold getB look
    by_cases h : a = t
    · subst h; simp
    · have : Nat.beq a t = false := by
        cases hb : Nat.beq a t with
        | false => rfl
        | true => exact absurd (Nat.eq_of_beq_eq_true hb) h
      rw [this, if_neg h]; exact getB_eq l t k
def opdB (T : Tab) (e : Env) : Operand → (AV → Bool) → Bool
  | .tmp t, k => getB e t k
  | .const v, k => k (.g (.c v))
  | .global g, k => match T.glob g with
    | some (n, at_) => k (.rp n at_)
    | none => k .junk
  | .func f, k => k (.fn (.func f) [] [])
theorem opdB_eq (T : Tab) (e : Env) (x : Operand) (k : AV → Bool) : opdB T e x k = k (opv T e x) := by
  cases x with
  | tmp t => exact getB_eq e t k
  | const v => rfl
  | global g => simp only [opdB, opv]; cases T.glob g <;> rfl
  | func f => rfl
def opdsB (T : Tab) (e : Env) : List Operand → (List AV → Bool) → Bool
  | [], k => k []
  | x :: xs, k => opdB T e x fun v => opdsB T e xs fun vs => k (v :: vs)
theorem opdsB_eq (T : Tab) (e : Env) : ∀ (xs : List Operand) (k : List AV → Bool), opdsB T e xs k = k (xs.map (opv T e))
  | [], _ => rfl
  | x :: xs, k => by simp only [opdsB, opdB_eq, opdsB_eq T e xs, List.map_cons]
theorem opdsK_eq (T : Tab) (e : Env) : ∀ (xs : List Operand) (k : List AV → Prop), opdsK T e xs k = k (xs.map (opv T e))
  | [], _ => rfl
  | x :: xs, k => by simp only [opdsK, opd_eq, opdsK_eq T e xs, List.map_cons]
def partsB (T : Tab) (e : Env) : List (Nat × Operand) → (List (Nat × AV) → Bool) → Bool
  | [], k => k []
  | (i, x) :: xs, k => opdB T e x fun v => partsB T e xs fun vs => k ((i, v) :: vs)
theorem partsB_eq (T : Tab) (e : Env) : ∀ (xs : List (Nat × Operand)) (k : List (Nat × AV) → Bool), partsB T e xs k = k (xs.map fun q => (q.1, opv T e q.2))
  | [], _ => rfl
  | (i, x) :: xs, k => by simp only [partsB, opdB_eq, partsB_eq T e xs, List.map_cons]
theorem partsK_eq (T : Tab) (e : Env) : ∀ (xs : List (Nat × Operand)) (k : List (Nat × AV) → Prop), partsK T e xs k = k (xs.map fun q => (q.1, opv T e q.2))
  | [], _ => rfl
  | (i, x) :: xs, k => by simp only [partsK, opd_eq, partsK_eq T e xs, List.map_cons]
def optB (T : Tab) (e : Env) : Option Operand → (Option AV → Bool) → Bool
  | none, k => k none
  | some x, k => opdB T e x fun v => k (some v)
theorem optB_eq (T : Tab) (e : Env) (o : Option Operand) (k : Option AV → Bool) : optB T e o k = k (o.map (opv T e)) := by
  cases o <;> simp only [optB, opdB_eq, Option.map_none, Option.map_some]
theorem optK_eq (T : Tab) (e : Env) (o : Option Operand) (k : Option AV → Prop) : optK T e o k = k (o.map (opv T e)) := by
  cases o <;> simp only [optK, opd_eq, Option.map_none, Option.map_some]

/-! ### operators -/
def arithB (kd : IntKind) (n : Int) (k : AV → Bool) : Bool := fI (kd.wrap n) fun m => k (vint kd m)
theorem arithB_ok {kd : IntKind} {n : Int} {k : AV → Bool} (h : arithB kd n k = true) : arith kd n (fun v => k v = true) := by
  simp only [arithB, fI_eq] at h
  cases kd <;> simp only [arith] <;> first | exact h | exact .inr h
def isZr : Int → Bool
  | .ofNat n => Nat.beq n 0
  | .negSucc _ => false
theorem isZr_false {n : Int} (h : isZr n = false) : n ≠ 0 := by rintro rfl; cases h
def evIntB (op : BinOp) (kd : IntKind) (a b : Int) (k : AV → Bool) : Bool :=
  match op with
  | .add => arithB kd (a + b) k
  | .sub => arithB kd (a - b) k
  | .mul => arithB kd (a * b) k
  | .quo => match isZr b with
    | true => false
    | false => arithB kd (a.tdiv b) k
  | .rem => match isZr b with
    | true => false
    | false => fI (a.tmod b) fun m => k (vint kd m)
  | .and => fI (bitsOf .and kd a b) fun m => k (vint kd m)
  | .or => fI (bitsOf .or kd a b) fun m => k (vint kd m)
  | .xor => fI (bitsOf .xor kd a b) fun m => k (vint kd m)
  | .andNot => fI (bitsOf .andNot kd a b) fun m => k (vint kd m)
  | .shl => match b with
    | .ofNat m => fI (kd.wrap (a * 2 ^ (min m kd.bits))) fun m => k (vint kd m)
    | .negSucc _ => false
  | .shr => match b with
    | .ofNat m => fI (a.fdiv (2 ^ (min m kd.bits))) fun m => k (vint kd m)
    | .negSucc _ => false
  | .eql => fB (a == b) fun t => k (vbool t)
  | .neq => fB (a != b) fun t => k (vbool t)
  | .lss => fB (decide (a < b)) fun t => k (vbool t)
  | .leq => fB (decide (a ≤ b)) fun t => k (vbool t)
  | .gtr => fB (decide (b < a)) fun t => k (vbool t)
  | .geq => fB (decide (b ≤ a)) fun t => k (vbool t)
theorem evIntB_ok {op : BinOp} {kd : IntKind} {a b : Int} {k : AV → Bool} (h : evIntB op kd a b k = true) : evInt op kd a b (fun v => k v = true) := by
  cases op <;> simp only [evIntB, fI_eq, fB_eq] at h <;> simp only [evInt] <;> first | exact arithB_ok h | exact h | skip
  case quo =>
    revert h; split <;> intro h
    · cases h
    · rename_i hz; exact ⟨isZr_false hz, arithB_ok h⟩
  case rem =>
    revert h; split <;> intro h
    · cases h
    · rename_i hz; exact ⟨isZr_false hz, h⟩
  case shl =>
    revert h; split <;> intro h
    · rename_i m; exact ⟨by simp, h⟩
    · cases h
  case shr =>
    revert h; split <;> intro h
    · rename_i m; exact ⟨by simp, h⟩
    · cases h
def eqL : List UInt8 → List UInt8 → Bool
  | [], [] => true
  | x :: xs, y :: ys => match Nat.beq x.toNat y.toNat with
    | true => eqL xs ys
    | false => false
  | _, _ => false
theorem eqL_eq : ∀ a b : List UInt8, eqL a b = (a == b)
  | [], [] => rfl
  | [], _ :: _ => rfl
  | _ :: _, [] => rfl
  | x :: xs, y :: ys => by
    simp only [eqL, List.cons_beq_cons]
    cases hb : Nat.beq x.toNat y.toNat with
    | true =>
      have : x = y := UInt8.toNat_inj.1 (Nat.eq_of_beq_eq_true hb)
      simp [this, eqL_eq xs ys]
    | false =>
      have : ¬ x = y := by
        rintro rfl
        simp at hb
      simp [this]
theorem eqS (a b : ByteArray) : eqL a.data.toList b.data.toList = (a == b) := by
  rw [eqL_eq, beq_toListBytes, ByteArray.toList_eq, ByteArray.toList_eq]
def evStrB (op : BinOp) (a b : ByteArray) (k : AV → Bool) : Bool :=
  match op with
  | .add => match Nat.ble (a.size + b.size) 9223372036854775807 with
    | true => fL (a.data.toList ++ b.data.toList) fun l => k (vstr ⟨⟨l⟩⟩)
    | false => false
  | .eql => fB (eqL a.data.toList b.data.toList) fun t => k (vbool t)
  | .neq => fB (eqL a.data.toList b.data.toList) fun t => k (vbool (!t))
  | .lss => fB (Op.bytesLess a.data.toList b.data.toList) fun t => k (vbool t)
  | _ => false
theorem evStrB_ok {op : BinOp} {a b : ByteArray} {k : AV → Bool} (h : evStrB op a b k = true) : evStr op a b (fun v => k v = true) := by
  cases op <;> simp only [evStrB, fL_eq, fB_eq, eqS] at h <;> simp only [evStr] <;> first | exact h | (cases h; done) | skip
  case add =>
    split at h
    · rename_i hb
      have := Nat.le_of_ble_eq_true hb
      first | refine ⟨by omega, ?_⟩ | (simp only [*]; refine ⟨by omega, ?_⟩)
      have e : a ++ b = ⟨⟨a.data.toList ++ b.data.toList⟩⟩ := by
        apply ByteArray.ext
        apply Array.ext'
        simp [ByteArray.data_append]
      rw [e]; first | exact h | (simp only [*]; done) | (simp only [*]; exact h)
    · cases h
  case lss => rw [ByteArray.toList_eq, ByteArray.toList_eq]; first | exact h | (simp only [*]; done) | (simp only [*]; exact h)
def eqCellsB (T : Tab) : Nat → List (Nat × Nat) → List AV → List AV → (Bool → Bool) → Bool
  | 0, _, _, _, _ => false
  | _ + 1, [], _, _, k => k true
  | d + 1, (off, t) :: fs, xs, ys, k =>
    match T.und t with
    | some (.struct _) => match T.eqt t, T.inf t with
      | some l, some (s, _, _) => eqCellsB T d l ((xs.drop off).take s) ((ys.drop off).take s) fun b => eqCellsB T d fs xs ys fun c => fB (b && c) k
      | _, _ => false
    | some (.int _) => match xs[off]?, ys[off]? with
      | some (.g (.c (.int kd a))), some (.g (.c (.int kd' b))) => match decide (kd = kd') with
        | true => eqCellsB T d fs xs ys fun c => fB (a == b && c) k
        | false => false
      | _, _ => false
    | some .bool => match xs[off]?, ys[off]? with
      | some (.g (.c (.bool a))), some (.g (.c (.bool b))) => eqCellsB T d fs xs ys fun c => fB (a == b && c) k
      | _, _ => false
    | some .string => match xs[off]?, ys[off]? with
      | some (.g (.c (.string a))), some (.g (.c (.string b))) => eqCellsB T d fs xs ys fun c => fB (eqL a.data.toList b.data.toList && c) k
      | _, _ => false
    | _ => false
theorem eqCells_mono {T : Tab} : ∀ (d : Nat) (l : List (Nat × Nat)) (xs ys : List AV) (k k' : Bool → Prop), (∀ b, k b → k' b) → eqCells T d l xs ys k → eqCells T d l xs ys k'
  | 0, _, _, _, _, _, _, h => by simp [eqCells] at h
  | _ + 1, [], _, _, k, k', hk, h => by simp only [eqCells] at h ⊢; exact hk _ h
  | d + 1, (off, t) :: fs, xs, ys, k, k', hk, h => by
    simp only [eqCells] at h ⊢
    split at h
    · split at h
      · exact eqCells_mono d _ _ _ _ _ (fun b h => eqCells_mono d _ _ _ _ _ (fun c h => hk _ h) h) h
      · exact h
    · split at h
      · split at h
        · exact eqCells_mono d _ _ _ _ _ (fun c h => hk _ h) h
        · exact h
      · exact h
    · split at h
      · exact eqCells_mono d _ _ _ _ _ (fun c h => hk _ h) h
      · exact h
    · split at h
      · exact eqCells_mono d _ _ _ _ _ (fun c h => hk _ h) h
      · exact h
    · exact h
theorem eqCellsB_ok {T : Tab} : ∀ (d : Nat) (l : List (Nat × Nat)) (xs ys : List AV) (k : Bool → Bool), eqCellsB T d l xs ys k = true → eqCells T d l xs ys (fun b => k b = true)
  | 0, _, _, _, _, h => by simp [eqCellsB] at h
  | _ + 1, [], _, _, k, h => by simp only [eqCellsB] at h; simp only [eqCells]; first | exact h | (simp only [*]; done) | (simp only [*]; exact h)
  | d + 1, (off, t) :: fs, xs, ys, k, h => by
    simp only [eqCellsB] at h
    simp only [eqCells]
    split at h
    · split at h
      · first | exact eqCells_mono d _ _ _ _ _ (fun b hb => eqCells_mono d _ _ _ _ _ (fun c hc => by simpa only [fB_eq] using hc) (eqCellsB_ok d _ _ _ _ hb)) (eqCellsB_ok d _ _ _ _ h) | (simp only [*]; done) | (simp only [*]; exact eqCells_mono d _ _ _ _ _ (fun b hb => eqCells_mono d _ _ _ _ _ (fun c hc => by simpa only [fB_eq] using hc) (eqCellsB_ok d _ _ _ _ hb)) (eqCellsB_ok d _ _ _ _ h))
      · cases h
    · split at h
      · split at h
        · first | exact eqCells_mono d _ _ _ _ _ (fun c hc => by simpa only [fB_eq] using hc) (eqCellsB_ok d _ _ _ _ h) | (simp only [*]; done) | (simp only [*]; exact eqCells_mono d _ _ _ _ _ (fun c hc => by simpa only [fB_eq] using hc) (eqCellsB_ok d _ _ _ _ h))
        · cases h
      · cases h
    · split at h
      · first | exact eqCells_mono d _ _ _ _ _ (fun c hc => by simpa only [fB_eq] using hc) (eqCellsB_ok d _ _ _ _ h) | (simp only [*]; done) | (simp only [*]; exact eqCells_mono d _ _ _ _ _ (fun c hc => by simpa only [fB_eq] using hc) (eqCellsB_ok d _ _ _ _ h))
      · cases h
    · split at h
      · first | exact eqCells_mono d _ _ _ _ _ (fun c hc => by simpa only [fB_eq, eqS] using hc) (eqCellsB_ok d _ _ _ _ h) | (simp only [*]; done) | (simp only [*]; exact eqCells_mono d _ _ _ _ _ (fun c hc => by simpa only [fB_eq, eqS] using hc) (eqCellsB_ok d _ _ _ _ h))
      · cases h
    · cases h
def evSlNilB (x : AV) (k : Bool → Bool) : Bool :=
  match x with
  | .g (.c (.slice none _ _)) => k true
  | .g (.c (.slice (some _) _ _)) => k false
  | .sl _ _ _ (Nat.succ _) _ => k false
  | .sl _ _ _ 0 _ => k true && k false
  | .nz => k true && k false
  | _ => false
theorem evSlNilB_ok {x : AV} {k : Bool → Bool} (h : evSlNilB x k = true) : evSlNil x (fun b => k b = true) := by
  unfold evSlNilB at h
  split at h <;> simp only [evSlNil]
  · first | exact h | (simp only [*]; done) | (simp only [*]; exact h)
  · first | exact h | (simp only [*]; done) | (simp only [*]; exact h)
  · intro b hb; rw [hb (by omega)]; first | exact h | (simp only [*]; done) | (simp only [*]; exact h)
  · simp only [Bool.and_eq_true] at h
    intro b _; cases b <;> simp [h]
  · simp only [Bool.and_eq_true] at h
    intro b; cases b <;> simp [h]
  · cases h
def evBinB (T : Tab) (op : BinOp) (t : TypeId) (ox oy : Operand) (x y : AV) (k : AV → Bool) : Bool :=
  match x, y with
  | .g (.c (.int kd a)), .g (.c (.int kd' b)) => match op with
    | .shl => evIntB .shl kd a b k
    | .shr => evIntB .shr kd a b k
    | op => match decide (kd = kd') with
      | true => evIntB op kd a b k
      | false => false
  | .g (.c (.string a)), .g (.c (.string b)) => evStrB op a b k
  | .g (.c (.bool a)), .g (.c (.bool b)) => match isEq op, T.und t with
    | some true, some .bool => fB (a == b) fun c => k (vbool c)
    | some false, some .bool => fB (a == b) fun c => k (vbool (!c))
    | _, _ => false
  | .agg xs, .agg ys => match isEq op, T.eqt t with
    | some true, some l => eqCellsB T 100 l xs ys fun b => k (vbool b)
    | some false, some l => eqCellsB T 100 l xs ys fun b => k (vbool (!b))
    | _, _ => false
  | x, .g (.c (.slice none _ _)) => match isEq op, T.und t with
    | some q, some (.slice _) => evSlNilB x fun b => fB (if q then b else !b) fun c => k (vbool c)
    | _, _ => false
  | x, y => match isEq op, T.und t, nilness x, nilness y with
    | some q, some (.pointer _), some (.ptr, a), some (.ptr, b) => match a || b with
      | true => fB (if q then a && b else !(a && b)) fun c => k (vbool c)
      | false => false
    | some q, some (.func _ _ _), some (.fn, a), some (.fn, b) => match a || b with
      | true => fB (if q then a && b else !(a && b)) fun c => k (vbool c)
      | false => false
    | some q, some (.interface _), some (.ifc, a), some (.ifc, b) => match (a || b) && (Operand.isConst ox || Operand.isConst oy) with
      | true => fB (if q then a && b else !(a && b)) fun c => k (vbool c)
      | false => false
    | _, _, _, _ => false
theorem evSlNil_mono {x : AV} {k k' : Bool → Prop} (hk : ∀ b, k b → k' b) (h : evSlNil x k) : evSlNil x k' := by
  unfold evSlNil at h ⊢
  split at h <;> first | exact hk _ h | exact fun b hb => hk _ (h b hb) | exact fun b => hk _ (h b) | exact h
theorem evBinB_ok {T : Tab} {op : BinOp} {t : TypeId} {ox oy : Operand} {x y : AV} {k : AV → Bool} (h : evBinB T op t ox oy x y k = true) : evBin T op t ox oy x y (fun v => k v = true) := by
  unfold evBinB at h
  split at h
  · simp only [evBin]
    split at h
    · exact evIntB_ok h
    · exact evIntB_ok h
    · rename_i op h1 h2
      split at h
      · rename_i hd
        split
        · exact absurd rfl h1
        · exact absurd rfl h2
        · rw [hd]; exact evIntB_ok h
      · cases h
  · simp only [evBin]; exact evStrB_ok h
  · simp only [evBin]
    split at h
    · rename_i g1 g2; simp only [g1, g2]; rw [fB_eq] at h; exact h
    · rename_i g1 g2; simp only [g1, g2]; rw [fB_eq] at h; exact h
    · cases h
  · simp only [evBin]
    split at h
    · rename_i g1 g2; simp only [g1, g2]; exact eqCellsB_ok _ _ _ _ _ h
    · rename_i g1 g2; simp only [g1, g2]; exact eqCellsB_ok _ _ _ _ _ h
    · cases h
  · rename_i n m
    have key : evBin T op t ox oy x (.g (.c (.slice none n m))) (fun v => k v = true) = (match isEq op, T.und t with
      | some q, some (.slice _) => evSlNil x fun b => k (vbool (if q then b else !b)) = true
      | _, _ => False) := by
      cases x with
      | g y => cases y with
        | c v => cases v <;> rfl
        | sl _ _ _ => rfl
      | _ => rfl
    rw [key]
    split at h
    · have h' := evSlNilB_ok h
      simp only [fB_eq] at h'
      first | exact h' | (simp only [*]; exact h')
    · cases h
  · rename_i h5 h1 h2 h3 h4
    have fin : (match isEq op, T.und t, nilness x, nilness y with
      | some q, some (.pointer _), some (.ptr, a), some (.ptr, b) => match a || b with
        | true => k (vbool (if q then a && b else !(a && b))) = true
        | false => False
      | some q, some (.func _ _ _), some (.fn, a), some (.fn, b) => match a || b with
        | true => k (vbool (if q then a && b else !(a && b))) = true
        | false => False
      | some q, some (.interface _), some (.ifc, a), some (.ifc, b) => match (a || b) && (Operand.isConst ox || Operand.isConst oy) with
        | true => k (vbool (if q then a && b else !(a && b))) = true
        | false => False
      | _, _, _, _ => False) := by
      split at h
      · rename_i g1 g2 g3 g4
        try simp only [g1, g2, g3, g4]
        split at h
        · rw [fB_eq] at h; first | exact h | (simp only [*]; done) | (simp only [*]; exact h)
        · cases h
      · rename_i g1 g2 g3 g4
        try simp only [g1, g2, g3, g4]
        split at h
        · rw [fB_eq] at h; first | exact h | (simp only [*]; done) | (simp only [*]; exact h)
        · cases h
      · rename_i g1 g2 g3 g4
        try simp only [g1, g2, g3, g4]
        split at h
        · rw [fB_eq] at h; first | exact h | (simp only [*]; done) | (simp only [*]; exact h)
        · cases h
      · cases h
    unfold evBin
    split
    · exact (h1 _ _ _ _ rfl rfl).elim
    · exact (h2 _ _ rfl rfl).elim
    · exact (h3 _ _ rfl rfl).elim
    · exact (h4 _ _ rfl rfl).elim
    · exact (h5 _ _ rfl).elim
    · exact fin

/-! ### lists, heap -/
def dropB : List AV → Nat → (List AV → Bool) → Bool
  | cs, 0, k => k cs
  | [], Nat.succ _, k => k []
  | _ :: cs, Nat.succ n, k => dropB cs n k
theorem dropB_eq : ∀ (cs : List AV) (n : Nat) (k : List AV → Bool), dropB cs n k = k (cs.drop n)
  | [], 0, _ => rfl
  | _ :: _, 0, _ => rfl
  | [], _ + 1, _ => rfl
  | _ :: cs, n + 1, k => by simp only [dropB, dropB_eq cs n, List.drop_succ_cons]
def takeB : List AV → Nat → (List AV → Bool) → Bool
  | _, 0, k => k []
  | [], Nat.succ _, k => k []
  | c :: cs, Nat.succ n, k => takeB cs n fun r => k (c :: r)
theorem takeB_eq : ∀ (cs : List AV) (n : Nat) (k : List AV → Bool), takeB cs n k = k (cs.take n)
  | [], 0, _ => rfl
  | _ :: _, 0, _ => rfl
  | [], _ + 1, _ => rfl
  | _ :: cs, n + 1, k => by simp only [takeB, takeB_eq cs n, List.take_succ_cons]
def appB : List AV → List AV → (List AV → Bool) → Bool
  | [], ys, k => k ys
  | x :: xs, ys, k => appB xs ys fun r => k (x :: r)
theorem appB_eq : ∀ (xs ys : List AV) (k : List AV → Bool), appB xs ys k = k (xs ++ ys)
  | [], _, _ => rfl
  | x :: xs, ys, k => by simp only [appB, appB_eq xs, List.cons_append]
def hsetB (H : AHeap) (id : Nat) (x : AObj) (k : AHeap → Bool) : Bool :=
  match H, id with
  | [], _ => k []
  | _ :: H, 0 => k (x :: H)
  | y :: H, Nat.succ id => hsetB H id x fun H' => k (y :: H')
theorem hsetB_eq : ∀ (H : AHeap) (id : Nat) (x : AObj) (k : AHeap → Bool), hsetB H id x k = k (H.set id x)
  | [], _, _, _ => by simp [hsetB]
  | _ :: H, 0, x, k => rfl
  | y :: H, id + 1, x, k => by simp only [hsetB, List.set_cons_succ]; exact hsetB_eq H id x _
def hpushB (H : AHeap) (x : AObj) (k : Nat → AHeap → Bool) : Bool :=
  match H with
  | [] => k 0 [x]
  | y :: H => hpushB H x fun n H' => fN (n + 1) fun m => k m (y :: H')
theorem hpushB_eq : ∀ (H : AHeap) (x : AObj) (k : Nat → AHeap → Bool), hpushB H x k = k H.length (H ++ [x])
  | [], _, _ => rfl
  | y :: H, x, k => by simp only [hpushB, List.length_cons, List.cons_append, fN_eq]; exact hpushB_eq H x _
def putB : List AV → Nat → List AV → (List AV → Bool) → Bool
  | cs, 0, [], k => k cs
  | [], 0, _ :: _, k => k []
  | _ :: cs, 0, y :: ys, k => putB cs 0 ys fun r => k (y :: r)
  | [], Nat.succ _, _, k => k []
  | c :: cs, Nat.succ n, ys, k => putB cs n ys fun r => k (c :: r)
theorem putB_eq : ∀ (cs : List AV) (n : Nat) (ys : List AV) (k : List AV → Bool), putB cs n ys k = k (put cs n ys)
  | [], 0, [], _ => rfl
  | _ :: _, 0, [], _ => rfl
  | [], 0, _ :: _, _ => rfl
  | _ :: cs, 0, y :: ys, k => by simp only [putB, put]; exact putB_eq cs 0 ys _
  | [], _ + 1, _, _ => rfl
  | c :: cs, n + 1, ys, k => by simp only [putB, put]; exact putB_eq cs n ys _
def cellsB (x : AV) (k : List AV → Bool) : Bool :=
  match x with
  | .agg cs => k cs
  | .junk => false
  | .tup _ => false
  | .g (.c (.agg _)) => false
  | .g (.c (.tuple _)) => false
  | x => k [x]
theorem cellsB_ok {x : AV} {k : List AV → Bool} (h : cellsB x k = true) : cellsK x (fun l => k l = true) := by
  unfold cellsB at h
  unfold cellsK
  split at h <;> first | exact h | (cases h; done) | skip
  split <;> first | exact h | simp_all
theorem cellsK_mono {x : AV} {k k' : List AV → Prop} (hk : ∀ l, k l → k' l) (h : cellsK x k) : cellsK x k' := by
  unfold cellsK at h ⊢
  split at h <;> first | exact hk _ h | exact h
def gcB : List Value → (List AV → Bool) → Bool
  | [], k => k []
  | v :: vs, k => fV v fun v => gcB vs fun r => k (.g (.c v) :: r)
theorem gcB_eq : ∀ (vs : List Value) (k : List AV → Bool), gcB vs k = k (vs.map fun v => .g (.c v))
  | [], _ => rfl
  | v :: vs, k => by simp only [gcB, fV_eq, List.map_cons]; exact gcB_eq vs _
def evFillB (pl : Nat → Option (Nat × Nat)) : List AV → List (Nat × AV) → (List AV → Bool) → Bool
  | cs, [], k => k cs
  | cs, (i, x) :: rest, k => match pl i with
    | none => false
    | some (off, size) => cellsB x fun ys => match Nat.beq ys.length size, Nat.ble (off + ys.length) cs.length with
      | true, true => putB cs off ys fun cs' => evFillB pl cs' rest k
      | _, _ => false
theorem evFill_mono {pl : Nat → Option (Nat × Nat)} : ∀ (parts : List (Nat × AV)) (cs : List AV) (k k' : List AV → Prop), (∀ l, k l → k' l) → evFill pl cs parts k → evFill pl cs parts k'
  | [], cs, k, k', hk, h => by simp only [evFill] at h ⊢; exact hk _ h
  | (i, x) :: rest, cs, k, k', hk, h => by
    simp only [evFill] at h ⊢
    split at h
    · exact h
    · refine cellsK_mono (fun ys h => ?_) h
      split at h
      · rw [putK_eq] at h ⊢; exact evFill_mono rest _ _ _ hk h
      · exact h
theorem evFillB_ok {pl : Nat → Option (Nat × Nat)} : ∀ (parts : List (Nat × AV)) (cs : List AV) (k : List AV → Bool), evFillB pl cs parts k = true → evFill pl cs parts (fun l => k l = true)
  | [], cs, k, h => by simp only [evFillB] at h; simp only [evFill]; first | exact h | (simp only [*]; done) | (simp only [*]; exact h)
  | (i, x) :: rest, cs, k, h => by
    simp only [evFillB] at h
    simp only [evFill]
    split at h
    · cases h
    · rename_i off size hp
      first | refine cellsK_mono (fun ys h => ?_) (cellsB_ok h) | (simp only [*]; refine cellsK_mono (fun ys h => ?_) (cellsB_ok h))
      split at h
      · rename_i h1 h2
        rw [putB_eq] at h
        rw [h1, h2]
        simp only [putK_eq]
        first | exact evFillB_ok rest _ _ h | (simp only [*]; done) | (simp only [*]; exact evFillB_ok rest _ _ h)
      · cases h
def cellsAtB (at_ : Nat → AV) : Nat → Nat → (List AV → Bool) → Bool
  | _, 0, k => k []
  | j, Nat.succ s, k => fA (at_ j) fun v => fN (j + 1) fun j => cellsAtB at_ j s fun r => k (v :: r)
theorem cellsAtB_eq (at_ : Nat → AV) : ∀ (s j : Nat) (k : List AV → Bool), cellsAtB at_ j s k = k (cellsAt at_ j s)
  | 0, _, _ => rfl
  | s + 1, j, k => by simp only [cellsAtB, fA_eq, fN_eq, cellsAtB_eq at_ s, cellsAt]

/-! ### the quiet operations -/
def evFieldB (T : Tab) (cs : List AV) (off : Nat) (t : TypeId) (k : AV → Bool) : Bool :=
  match aggOf T t with
  | some none => match cs[off]? with
    | some v => k v
    | none => false
  | some (some s) => dropB cs off fun l => takeB l s fun r => k (.agg r)
  | none => false
theorem evFieldB_ok {T : Tab} {cs : List AV} {off : Nat} {t : TypeId} {k : AV → Bool} (h : evFieldB T cs off t k = true) : evField T cs off t (fun v => k v = true) := by
  unfold evFieldB at h
  unfold evField
  split at h
  · split at h
    · first | exact h | (simp only [*]; done) | (simp only [*]; exact h)
    · cases h
  · rw [dropB_eq, takeB_eq] at h; first | exact h | (simp only [*]; done) | (simp only [*]; exact h)
  · cases h
def evLoadB (T : Tab) (H : AHeap) (t : TypeId) (x : AV) (k : AV → Bool) : Bool :=
  match x with
  | .p id sz i j => match H[id]? with
    | some (.box _ cs) => match Nat.beq sz 0, aggOf T t with
      | true, some none => match cs[j]? with
        | some v => k v
        | none => false
      | true, some (some s) => match Nat.ble (j + s) cs.length with
        | true => dropB cs j fun l => takeB l s fun r => k (.agg r)
        | false => false
      | _, _ => false
    | some (.row _ sz' n at_ _) => match Nat.beq sz sz', aggOf T t with
      | true, some none => match Nat.blt j sz, Nat.blt i n with
        | true, true => fA (at_ i j) k
        | _, _ => false
      | true, some (some s) => match Nat.ble (j + s) sz, Nat.blt i n with
        | true, true => cellsAtB (at_ i) j s fun r => k (.agg r)
        | _, _ => false
      | _, _ => false
    | _ => false
  | .rp n at_ => match aggOf T t with
    | some none => match Nat.blt 0 n with
      | true => fG (at_ 0) fun y => k (.g y)
      | false => false
    | some (some s) => match Nat.ble s n with
      | true => cellsAtB (fun j => .g (at_ j)) 0 s fun r => k (.agg r)
      | false => false
    | none => false
  | _ => false
theorem blt_lt {a b : Nat} (h : Nat.blt a b = true) : a < b := Nat.le_of_ble_eq_true h
theorem evLoadB_ok {T : Tab} {H : AHeap} {t : TypeId} {x : AV} {k : AV → Bool} (h : evLoadB T H t x k = true) : evLoad T [] H t x (fun v => k v = true) := by
  unfold evLoadB at h
  unfold evLoad
  split at h
  · have hX : ∀ id : Nat, ([] : List Nat).contains id = false := fun id => rfl
    split at h
    · rename_i hH
      try simp only [hX, hH]
      split at h
      · rename_i h1 h2
        try simp only [h1, h2]
        split at h
        · first | exact h | (simp only [*]; done) | (simp only [*]; exact h)
        · cases h
      · rename_i h1 h2
        try simp only [h1, h2]
        split at h
        · rename_i h3; try simp only [h3]; simpa only [dropB_eq, takeB_eq] using h
        · cases h
      · cases h
    · rename_i hH
      try simp only [hX, hH]
      split at h
      · rename_i h1 h2
        try simp only [h1, h2]
        split at h
        · rename_i h3 h4; try simp only [h3]; rw [fA_eq] at h; first | exact ⟨blt_lt h4, h⟩ | (simp only [*]; done) | (simp only [*]; exact ⟨blt_lt h4, h⟩)
        · cases h
      · rename_i h1 h2
        try simp only [h1, h2]
        split at h
        · rename_i h3 h4; try simp only [h3]; rw [cellsAtB_eq] at h; first | exact ⟨blt_lt h4, h⟩ | (simp only [*]; done) | (simp only [*]; exact ⟨blt_lt h4, h⟩)
        · cases h
      · cases h
    · cases h
  · split at h
    · split at h
      · rw [fG_eq] at h; first | exact h | (simp only [*]; done) | (simp only [*]; exact h)
      · cases h
    · split at h
      · rw [cellsAtB_eq] at h; first | exact h | (simp only [*]; done) | (simp only [*]; exact h)
      · cases h
    · cases h
  · cases h
def evFieldAddrB (T : Tab) (s : TypeId) (x : AV) (f : Nat) (k : AV → Bool) : Bool :=
  match T.und s with
  | some (.struct fs) => match fs.toList[f]? with
    | some fl => match T.inf fl.type with
      | some (s, _, _) => match Nat.beq s 0, x with
        | false, .p id sz i j => fN (j + fl.offset) fun j => k (.p id sz i j)
        | false, .rp n at_ => match Nat.ble fl.offset n with
          | true => k (.rp (n - fl.offset) (fun q => at_ (fl.offset + q)))
          | false => false
        | _, _ => false
      | none => false
    | none => false
  | _ => false
theorem evFieldAddrB_ok {T : Tab} {s : TypeId} {x : AV} {f : Nat} {k : AV → Bool} (h : evFieldAddrB T s x f k = true) : evFieldAddr T s x f (fun v => k v = true) := by
  unfold evFieldAddrB at h
  unfold evFieldAddr
  split at h
  · split at h
    · split at h
      · split at h
        · rw [fN_eq] at h; first | exact h | (simp only [*]; done) | (simp only [*]; exact h)
        · split at h
          · first | exact h | (simp only [*]; done) | (simp only [*]; exact h)
          · cases h
        · cases h
      · cases h
    · cases h
  · cases h
/-- An index below a bound. -/
def inB (i : Int) (n : Nat) (k : Nat → Bool) : Bool :=
  match i with
  | .ofNat m => match Nat.blt m n with
    | true => k m
    | false => false
  | .negSucc _ => false
theorem inB_ok {i : Int} {n : Nat} {k : Nat → Bool} (h : inB i n k = true) : (0 ≤ i ∧ i < n) ∧ k i.toNat = true := by
  unfold inB at h
  split at h
  · split at h
    · rename_i m hb
      have := blt_lt hb
      first | exact ⟨⟨by simp, by simpa using this⟩, by simpa using h⟩ | (simp only [*]; done) | (simp only [*]; exact ⟨⟨by simp, by simpa using this⟩, by simpa using h⟩)
    · cases h
  · cases h
def evIndexAddrB (T : Tab) (t : TypeId) (x y : AV) (k : AV → Bool) : Bool :=
  match y with
  | .g (.c (.int _ i)) => match T.und t with
    | some (.slice e) => match T.inf e with
      | some (s, _, _) => match x with
        | .g (.sl sz n at_) => match Nat.beq s sz, Nat.beq sz 0 with
          | true, false => inB i n fun m => k (.rp sz (fun j => at_ m j))
          | _, _ => false
        | .sl id sz off len _ => match Nat.beq s sz with
          | true => inB i len fun m => fN (off + m) fun q => k (.p id sz q 0)
          | false => false
        | _ => false
      | none => false
    | some (.array len e) => match T.inf e with
      | some (s, _, _) => match x with
        | .p id sz i0 j => inB i len fun m => fN (j + m * s) fun q => k (.p id sz i0 q)
        | .rp n at_ => match Nat.ble (len * s) n with
          | true => inB i len fun m => k (.rp s (fun q => at_ (m * s + q)))
          | false => false
        | _ => false
      | none => false
    | _ => false
  | _ => false
theorem evIndexAddrB_ok {T : Tab} {t : TypeId} {x y : AV} {k : AV → Bool} (h : evIndexAddrB T t x y k = true) : evIndexAddr T t x y (fun v => k v = true) := by
  unfold evIndexAddrB at h
  unfold evIndexAddr
  split at h
  · split at h
    · split at h
      · split at h
        · split at h
          · (try simp only [*]); obtain ⟨h1, h2⟩ := inB_ok h; exact ⟨h1, h2⟩
          · cases h
        · split at h
          · (try simp only [*]); obtain ⟨h1, h2⟩ := inB_ok h; rw [fN_eq] at h2; exact ⟨h1, h2⟩
          · cases h
        · cases h
      · cases h
    · split at h
      · split at h
        · (try simp only [*]); obtain ⟨h1, h2⟩ := inB_ok h; rw [fN_eq] at h2; exact ⟨h1, h2⟩
        · split at h
          · (try simp only [*]); obtain ⟨h1, h2⟩ := inB_ok h; exact ⟨h1, h2⟩
          · cases h
        · cases h
      · cases h
    · cases h
  · cases h
def evIndexB (T : Tab) (t : TypeId) (x y : AV) (k : AV → Bool) : Bool :=
  match y with
  | .g (.c (.int _ i)) => match T.und t, x with
    | some .string, .g (.c (.string s)) => inB i s.size fun m => fN (s[m]!).toNat fun c => k (vint .u8 (Int.ofNat c))
    | some (.array len e), .agg cs => match T.inf e with
      | some (s, _, _) => match Nat.ble (len * s) cs.length with
        | true => inB i len fun m => evFieldB T cs (m * s) e k
        | false => false
      | none => false
    | _, _ => false
  | _ => false
theorem evIndexB_ok {T : Tab} {t : TypeId} {x y : AV} {k : AV → Bool} (h : evIndexB T t x y k = true) : evIndex T t x y (fun v => k v = true) := by
  unfold evIndexB at h
  unfold evIndex
  split at h
  · split at h
    · (try simp only [*]); obtain ⟨h1, h2⟩ := inB_ok h; rw [fN_eq] at h2; exact ⟨h1, h2⟩
    · split at h
      · split at h
        · (try simp only [*]); obtain ⟨h1, h2⟩ := inB_ok h; exact ⟨h1, evFieldB_ok h2⟩
        · cases h
      · cases h
    · cases h
  · cases h
def optIB : Option AV → Int → (Int → Bool) → Bool
  | none, d, k => k d
  | some (.g (.c (.int _ n))), _, k => k n
  | some _, _, _ => false
theorem optI_mono {o : Option AV} {d : Int} {k k' : Int → Prop} (hk : ∀ n, k n → k' n) (h : optI o d k) : optI o d k' := by
  unfold optI at h ⊢
  split at h <;> first | exact hk _ h | exact h
theorem optIB_ok {o : Option AV} {d : Int} {k : Int → Bool} (h : optIB o d k = true) : optI o d (fun n => k n = true) := by
  unfold optIB at h
  unfold optI
  split at h <;> first | exact h | (cases h; done)
/-- Two bounds, in order, not above a third. -/
def bdB (l h R : Int) (k : Nat → Nat → Bool) : Bool :=
  match l, h with
  | .ofNat a, .ofNat b => match Nat.ble a b, decide ((b : Int) ≤ R) with
    | true, true => k a b
    | _, _ => false
  | _, _ => false
theorem bdB_ok {l h R : Int} {k : Nat → Nat → Bool} (e : bdB l h R k = true) : (0 ≤ l ∧ l ≤ h ∧ h ≤ R) ∧ k l.toNat h.toNat = true := by
  unfold bdB at e
  split at e
  · split at e
    · rename_i a b h1 h2
      have h1 := Nat.le_of_ble_eq_true h1
      have h2 := of_decide_eq_true h2
      first | exact ⟨⟨by simp, by simpa using h1, h2⟩, e⟩ | (simp only [*]; done) | (simp only [*]; exact ⟨⟨by simp, by simpa using h1, h2⟩, e⟩)
    · cases e
  · cases e
def roomB (H : AHeap) (id sz off len : Nat) (cap : Option Nat) (k : Nat → Bool) : Bool := fN (room H id sz off len cap) k
def evSliceB (T : Tab) (H : AHeap) (t : TypeId) (x : AV) (lo hi mx : Option AV) (k : AV → Bool) : Bool :=
  match T.und t, mx with
  | some .string, none => match x with
    | .g (.c (.string s)) => optIB lo 0 fun l => optIB hi s.size fun h => bdB l h s.size fun a b => fL ((s.data.toList.drop a).take (b - a)) fun r => k (vstr ⟨⟨r⟩⟩)
    | _ => false
  | some (.slice e), none => match T.inf e with
    | some (s, _, _) => match x with
      | .g (.sl sz n at_) => match Nat.beq s sz with
        | true => optIB lo 0 fun l => optIB hi n fun h => bdB l h n fun a b => fN (b - a) fun c => k (.g (.sl sz c (fun i j => at_ (a + i) j)))
        | false => false
      | .sl id sz off len cap => match Nat.beq s sz with
        | true => optIB lo 0 fun l => optIB hi len fun h => roomB H id sz off len cap fun R => bdB l h R fun a b => fN (off + a) fun o => fN (b - a) fun c => match cap with
          | none => k (.sl id sz o c none)
          | some q => fN (q - a) fun q => k (.sl id sz o c (some q))
        | false => false
      | _ => false
    | none => false
  | _, _ => false
theorem extract_bytes (s : ByteArray) (a b : Nat) (h : a ≤ b) (hb : b ≤ s.size) : s.extract a b = ⟨⟨(s.data.toList.drop a).take (b - a)⟩⟩ := by
  apply ByteArray.ext
  rw [ByteArray.data_extract]
  apply Array.ext'
  simp
theorem evSliceB_ok {T : Tab} {H : AHeap} {t : TypeId} {x : AV} {lo hi mx : Option AV} {k : AV → Bool} (h : evSliceB T H t x lo hi mx k = true) : evSlice T H t x lo hi mx (fun v => k v = true) := by
  unfold evSliceB at h
  unfold evSlice
  split at h
  · split at h
    · first | refine optI_mono (fun l h => optI_mono (fun hh h => ?_) (optIB_ok h)) (optIB_ok h) | (simp only [*]; refine optI_mono (fun l h => optI_mono (fun hh h => ?_) (optIB_ok h)) (optIB_ok h))
      obtain ⟨h1, h2⟩ := bdB_ok h
      rw [fL_eq] at h2
      first | refine ⟨h1, ?_⟩ | (simp only [*]; refine ⟨h1, ?_⟩)
      rw [extract_bytes _ _ _ (by omega) (by omega)]
      first | exact h2 | (simp only [*]; done) | (simp only [*]; exact h2)
    · cases h
  · split at h
    · split at h
      · split at h
        · first | refine optI_mono (fun l h => optI_mono (fun hh h => ?_) (optIB_ok h)) (optIB_ok h) | (simp only [*]; refine optI_mono (fun l h => optI_mono (fun hh h => ?_) (optIB_ok h)) (optIB_ok h))
          obtain ⟨h1, h2⟩ := bdB_ok h
          rw [fN_eq] at h2
          first | exact ⟨h1, h2⟩ | (simp only [*]; done) | (simp only [*]; exact h2)
        · cases h
      · split at h
        · first | refine optI_mono (fun l h => optI_mono (fun hh h => ?_) (optIB_ok h)) (optIB_ok h) | (simp only [*]; refine optI_mono (fun l h => optI_mono (fun hh h => ?_) (optIB_ok h)) (optIB_ok h))
          rw [roomB, fN_eq] at h
          rw [roomK_eq]
          obtain ⟨h1, h2⟩ := bdB_ok h
          simp only [fN_eq] at h2
          first | refine ⟨h1, ?_⟩ | (simp only [*]; refine ⟨h1, ?_⟩)
          split at h2 <;> first | exact h2 | (simp only [*]; done) | (simp only [*]; exact h2)
        · cases h
      · cases h
    · cases h
  · cases h
def placesB (T : Tab) : List Field → (List (Nat × Nat) → Bool) → Bool
  | [], k => k []
  | f :: fs, k => match T.inf f.type with
    | some (s, _, _) => placesB T fs fun l => k ((f.offset, s) :: l)
    | none => false
theorem placesK_mono {T : Tab} : ∀ (fs : List Field) (k k' : List (Nat × Nat) → Prop), (∀ l, k l → k' l) → placesK T fs k → placesK T fs k'
  | [], _, _, hk, h => hk _ h
  | f :: fs, k, k', hk, h => by
    simp only [placesK] at h ⊢
    split at h
    · exact placesK_mono fs _ _ (fun l h => hk _ h) h
    · exact h
theorem placesB_ok {T : Tab} : ∀ (fs : List Field) (k : List (Nat × Nat) → Bool), placesB T fs k = true → placesK T fs (fun l => k l = true)
  | [], k, h => h
  | f :: fs, k, h => by
    simp only [placesB] at h
    simp only [placesK]
    split at h
    · first | exact placesB_ok fs _ h | (simp only [*]; done) | (simp only [*]; exact placesB_ok fs _ h)
    · cases h
def evBuildB (T : Tab) (t : TypeId) (parts : List (Nat × AV)) (k : AV → Bool) : Bool :=
  match T.und t, T.inf t with
  | some (.struct fs), some (_, _, z) => placesB T fs.toList fun pl => gcB z.cells.toList fun cs => evFillB (fun i => pl[i]?) cs parts fun r => k (.agg r)
  | some (.array _ el), some (_, _, z) => match T.inf el with
    | some (s, _, _) => gcB z.cells.toList fun cs => evFillB (fun i => some (i * s, s)) cs parts fun r => k (.agg r)
    | none => false
  | _, _ => false
theorem evBuildB_ok {T : Tab} {t : TypeId} {parts : List (Nat × AV)} {k : AV → Bool} (h : evBuildB T t parts k = true) : evBuild T t parts (fun v => k v = true) := by
  unfold evBuildB at h
  unfold evBuild
  split at h
  · first | refine placesK_mono _ _ _ (fun pl h => ?_) (placesB_ok _ _ h) | (simp only [*]; refine placesK_mono _ _ _ (fun pl h => ?_) (placesB_ok _ _ h))
    rw [gcB_eq] at h
    rw [gcK_eq]
    first | exact evFillB_ok _ _ _ h | (simp only [*]; done) | (simp only [*]; exact evFillB_ok _ _ _ h)
  · split at h
    · rw [gcB_eq] at h
      (try simp only [*])
      rw [gcK_eq]
      first | exact evFillB_ok _ _ _ h | (simp only [*]; done) | (simp only [*]; exact evFillB_ok _ _ _ h)
    · cases h
  · cases h
def evConvB (T : Tab) (src dst : TypeId) (x : AV) (k : AV → Bool) : Bool :=
  match T.und src, T.und dst, x with
  | some _, some (.int kd), .g (.c (.int _ n)) => arithB kd n k
  | some _, some .string, .g (.c (.string s)) => k (vstr s)
  | _, _, _ => false
theorem evConvB_ok {T : Tab} {src dst : TypeId} {x : AV} {k : AV → Bool} (h : evConvB T src dst x k = true) : evConv T src dst x (fun v => k v = true) := by
  unfold evConvB at h
  unfold evConv
  split at h
  · first | exact arithB_ok h | (simp only [*]; done) | (simp only [*]; exact arithB_ok h)
  · first | exact h | (simp only [*]; done) | (simp only [*]; exact h)
  · cases h
def evUnB (op : UnOp) (x : AV) (k : AV → Bool) : Bool :=
  match op, x with
  | .not, .g (.c (.bool b)) => fB (!b) fun c => k (vbool c)
  | .neg, .g (.c (.int kd n)) => arithB kd (0 - n) k
  | .xor, .g (.c (.int kd n)) => fI (bitsOf .xor kd (if kd.signed then -1 else kd.max) n) fun m => k (vint kd m)
  | _, _ => false
theorem evUnB_ok {op : UnOp} {x : AV} {k : AV → Bool} (h : evUnB op x k = true) : evUn op x (fun v => k v = true) := by
  unfold evUnB at h
  unfold evUn
  split at h
  · rw [fB_eq] at h; first | exact h | (simp only [*]; done) | (simp only [*]; exact h)
  · first | exact arithB_ok h | (simp only [*]; done) | (simp only [*]; exact arithB_ok h)
  · rw [fI_eq] at h; first | exact h | (simp only [*]; done) | (simp only [*]; exact h)
  · cases h
def evLenB (T : Tab) (t : TypeId) (x : AV) (k : AV → Bool) : Bool :=
  match T.und t, x with
  | some .string, .g (.c (.string s)) => fN s.data.toList.length fun n => k (vint .i64 (Int.ofNat n))
  | some (.slice _), .g (.sl _ n _) => k (vint .i64 (Int.ofNat n))
  | some (.slice _), .sl _ _ _ n _ => k (vint .i64 (Int.ofNat n))
  | some (.slice _), .nz => k (vint .i64 0)
  | some (.slice _), .g (.c (.slice _ n _)) => k (vint .i64 (Int.ofNat n))
  | some (.array n _), _ => k (vint .i64 (Int.ofNat n))
  | _, _ => false
theorem evLenB_ok {T : Tab} {t : TypeId} {x : AV} {k : AV → Bool} (h : evLenB T t x k = true) : evLen T t x (fun v => k v = true) := by
  unfold evLenB at h
  unfold evLen
  split at h <;> first | exact h | (cases h; done) | (simp only [*]; done) | (simp only [*]; exact h) | skip
  rw [fN_eq] at h
  first | exact h | (simp only [*]; done) | (simp only [*]; exact h)
def evBuiltinB (T : Tab) (b : Builtin) (ts : List TypeId) (xs : List AV) (k : AV → Bool) : Bool :=
  match b, ts, xs with
  | .len, t :: _, x :: _ => evLenB T t x k
  | .min, _, [.g (.c (.int kd a)), .g (.c (.int _ b))] => fI (min a b) fun m => k (vint kd m)
  | .max, _, [.g (.c (.int kd a)), .g (.c (.int _ b))] => fI (max a b) fun m => k (vint kd m)
  | _, _, _ => false
theorem evBuiltinB_ok {T : Tab} {b : Builtin} {ts : List TypeId} {xs : List AV} {k : AV → Bool} (h : evBuiltinB T b ts xs k = true) : evBuiltinQ T b ts xs (fun v => k v = true) := by
  unfold evBuiltinB at h
  unfold evBuiltinQ
  split at h
  · first | exact evLenB_ok h | (simp only [*]; done) | (simp only [*]; exact evLenB_ok h)
  · rw [fI_eq] at h; first | exact h | (simp only [*]; done) | (simp only [*]; exact h)
  · rw [fI_eq] at h; first | exact h | (simp only [*]; done) | (simp only [*]; exact h)
  · cases h
def evNilB (x : AV) (k : AV → Bool) : Bool :=
  match x with
  | .p .. => k x
  | .rp .. => k x
  | .sl .. => k x
  | .agg .. => k x
  | .fn (.func _) _ _ => k x
  | .ifc .. => k x
  | _ => false
theorem evNilB_ok {x : AV} {k : AV → Bool} (h : evNilB x k = true) : evNil x (fun v => k v = true) := by
  unfold evNilB at h
  unfold evNil
  split at h <;> first | exact h | (cases h; done)

def evQB (T : Tab) (H : AHeap) (e : Env) (op : Op) (k : AV → Bool) : Bool :=
  match op with
  | .move x => opdB T e x k
  | .assign x => opdB T e x k
  | .pick c a b => opdB T e c fun
    | .g (.c (.bool t)) => match t with
      | true => opdB T e a k
      | false => opdB T e b k
    | _ => false
  | .binOp op t x y _ => opdB T e x fun a => opdB T e y fun b => evBinB T op t x y a b k
  | .unOp op _ x => opdB T e x fun a => evUnB op a k
  | .convert src dst x => opdB T e x fun a => evConvB T src dst a k
  | .field t x f => match T.und t with
    | some (.struct fs) => match fs.toList[f]? with
      | some fl => opdB T e x fun
        | .agg cs => evFieldB T cs fl.offset fl.type k
        | _ => false
      | none => false
    | _ => false
  | .extract x i => opdB T e x fun
    | .tup vs => match vs[i]? with
      | some v => k v
      | none => false
    | _ => false
  | .build t parts => partsB T e parts.toList fun ps => evBuildB T t ps k
  | .fieldAddr s x f => opdB T e x fun a => evFieldAddrB T s a f k
  | .indexAddr t x y => opdB T e x fun a => opdB T e y fun b => evIndexAddrB T t a b k
  | .index t x y => opdB T e x fun a => opdB T e y fun b => evIndexB T t a b k
  | .slice t x lo hi mx => opdB T e x fun a => optB T e lo fun l => optB T e hi fun h => optB T e mx fun m => evSliceB T H t a l h m k
  | .load t x => opdB T e x fun a => evLoadB T H t a k
  | .nilCheck x => opdB T e x fun a => evNilB a k
  | .makeInterface t x => match T.und t with
    | some (.interface _) => false
    | some _ => opdB T e x fun a => k (.ifc t a)
    | none => false
  | .makeFunc fn first captured => opdsB T e first.toList fun fs => opdsB T e captured.toList fun cs => k (.fn fn fs cs)
  | .call c => match c.callee with
    | .builtin b => opdsB T e c.args.toList fun xs => evBuiltinB T b c.argTypes.toList xs k
    | _ => false
  | _ => false
theorem evQB_ok {T : Tab} {H : AHeap} {e : Env} {op : Op} {k : AV → Bool} (h : evQB T H e op k = true) : evQ T [] H e op (fun v => k v = true) := by
  cases op <;> simp only [evQB, opdB_eq, opdsB_eq, partsB_eq, optB_eq] at h <;> simp only [evQ, opd_eq, opdsK_eq, partsK_eq, optK_eq] <;> first | exact h | (cases h; done) | skip
  case pick c a b =>
    split at h
    · rename_i t ht
      try simp only [ht]
      cases t with
      | true => first | exact ⟨fun _ => h, fun h => by cases h⟩ | (simp only [*]; done) | (simp only [*]; exact ⟨fun _ => h, fun h => by cases h⟩)
      | false => first | exact ⟨fun h => by (cases h), fun _ => h⟩ | (simp only [*]; done) | (simp only [*]; exact ⟨fun h => by (cases h), fun _ => h⟩)
    · cases h
  case binOp => first | exact evBinB_ok h | (simp only [*]; done) | (simp only [*]; exact evBinB_ok h)
  case unOp => first | exact evUnB_ok h | (simp only [*]; done) | (simp only [*]; exact evUnB_ok h)
  case convert => first | exact evConvB_ok h | (simp only [*]; done) | (simp only [*]; exact evConvB_ok h)
  case field t x f =>
    split at h
    · split at h
      · split at h
        · rename_i hx; try simp only [hx]; first | exact evFieldB_ok h | (simp only [*]; done) | (simp only [*]; exact evFieldB_ok h)
        · cases h
      · cases h
    · cases h
  case extract x i =>
    split at h
    · rename_i hx
      try simp only [hx]
      split at h
      · first | exact h | (simp only [*]; done) | (simp only [*]; exact h)
      · cases h
    · cases h
  case build => first | exact evBuildB_ok h | (simp only [*]; done) | (simp only [*]; exact evBuildB_ok h)
  case fieldAddr => first | exact evFieldAddrB_ok h | (simp only [*]; done) | (simp only [*]; exact evFieldAddrB_ok h)
  case indexAddr => first | exact evIndexAddrB_ok h | (simp only [*]; done) | (simp only [*]; exact evIndexAddrB_ok h)
  case index => first | exact evIndexB_ok h | (simp only [*]; done) | (simp only [*]; exact evIndexB_ok h)
  case slice => first | exact evSliceB_ok h | (simp only [*]; done) | (simp only [*]; exact evSliceB_ok h)
  case load => first | exact evLoadB_ok h | (simp only [*]; done) | (simp only [*]; exact evLoadB_ok h)
  case nilCheck => first | exact evNilB_ok h | (simp only [*]; done) | (simp only [*]; exact evNilB_ok h)
  case makeInterface t x =>
    split at h
    · cases h
    · first | exact h | (simp only [*]; done) | (simp only [*]; exact h)
    · cases h
  case call c =>
    split at h
    · first | exact evBuiltinB_ok h | (simp only [*]; done) | (simp only [*]; exact evBuiltinB_ok h)
    · cases h
end Go.Ev
