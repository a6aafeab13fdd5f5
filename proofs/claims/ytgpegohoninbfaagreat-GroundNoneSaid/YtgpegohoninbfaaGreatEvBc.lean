/- The mill, part Bc: regions that draw, for what is known whole: pure operations and loads first, what makes a block last. -/
import Derived.Test.YtgpegohoninbfaaGreatEvX
import Derived.Test.YtgpegohoninbfaaGreatEvBb
import Derived.Test.YtgpegohoninbfaaGreatEvU
namespace Go.Ev
set_option linter.unusedVariables false
set_option linter.unusedSimpArgs false
open Go.RowKit
set_option linter.unusedVariables false
variable {A : Nat → Nat → Prop}

/-! ### the environment, written in place -/
def setE : Env → Nat → AV → Env
  | [], d, v => [(d, v)]
  | (a, x) :: l, d, v => match Nat.beq a d with
    | true => (a, v) :: l
    | false => (a, x) :: setE l d v
def setEB : Env → Nat → AV → (Env → Bool) → Bool
  | [], d, v, k => k [(d, v)]
  | (a, x) :: l, d, v, k => match Nat.beq a d with
    | true => k ((a, v) :: l)
    | false => setEB l d v fun r => k ((a, x) :: r)
theorem setEB_eq : ∀ (e : Env) (d : Nat) (v : AV) (k : Env → Bool), setEB e d v k = k (setE e d v)
  | [], _, _, _ => rfl
  | (a, x) :: l, d, v, k => by
    simp only [setEB, setE]
    split
    · rfl
    · exact setEB_eq l d v _
theorem nbeq_false {a b : Nat} (h : Nat.beq a b = false) : a ≠ b := by rintro rfl; simp at h
theorem look_setE : ∀ (e : Env) (d : Nat) (v : AV) (t : Nat), look (setE e d v) t = if d = t then v else look e t
  | [], d, v, t => by simp [setE, look]
  | (a, x) :: l, d, v, t => by
    simp only [setE]
    split
    · rename_i hb
      have := Nat.eq_of_beq_eq_true hb
      subst this
      simp only [look]
      split <;> simp_all
    · rename_i hb
      have hne := nbeq_false hb
      simp only [look, look_setE l d v t]
      split
      · rename_i hat; subst hat; rw [if_neg (Ne.symm hne)]
      · rfl
def setB (N : Nat) (dst : Option Nat) (v : AV) (e : Env) (k : Env → Bool) : Bool :=
  match dst with
  | none => k e
  | some d => match Nat.blt d N with
    | true => setEB e d v k
    | false => false
def setO (dst : Option Nat) (v : AV) (e : Env) : Env :=
  match dst with
  | none => e
  | some d => setE e d v
theorem setB_ok {N : Nat} {dst : Option Nat} {v : AV} {e : Env} {k : Env → Bool} (h : setB N dst v e k = true) : (∀ d, dst = some d → d < N) ∧ k (setO dst v e) = true := by
  unfold setB at h
  split at h
  · exact ⟨(fun d h => by cases h), h⟩
  · split at h
    · rename_i hb
      rw [setEB_eq] at h
      exact ⟨fun d hd => by cases hd; exact blt_lt hb, h⟩
    · cases h
theorem Rel.setO {T : Tab} {N : Nat} {r : List (Option Nat)} {H : AHeap} {w : World} {e : Env} {a : Act} (h : Rel T N A r H w e a) {dst : Option Nat} {x : AV} {v : Value} (hv : RV (ctx A r H w) x v) (hd : ∀ d, dst = some d → d < N) :
    Rel T N A r H w (setO dst x e) (a.put dst v) := by
  cases dst with
  | none => exact h
  | some d =>
    have hlt' := hd d rfl
    refine ⟨h.inv, h.laid, fun t => ?_, by simp [Act.put, h.size], by simp [Act.put, h.defers]⟩
    have hsz := h.size
    simp only [Ev.setO, look_setE]
    by_cases e1 : d = t
    · subst e1
      rw [if_pos rfl]
      simp only [Act.put]
      have : (a.tmps.setIfInBounds d v).getD d undef = v := by simp [Array.getD, hsz, hlt']
      rw [this]; exact hv
    · rw [if_neg e1]
      simp only [Act.put]
      have : (a.tmps.setIfInBounds d v).getD t undef = a.tmps.getD t undef := by
        simp [Array.getElem?_setIfInBounds_ne e1]
      rw [this]; exact h.env t
def guardB (ops : List Oper) (e : Env) (g : Option (Nat × Bool)) (yes no : Bool) : Bool :=
  match g with
  | none => yes
  | some (j, want) => match (ops[j]?).bind (·.dst) with
    | none => no
    | some d => getB e d fun
      | .g (.c (.bool b)) => match b == want with
        | true => yes
        | false => no
      | .g (.c (.tuple _)) => no
      | _ => false
theorem guardB_ok {ops : List Oper} {e : Env} {g : Option (Nat × Bool)} {yes no : Bool} (h : guardB ops e g yes no = true) : guardK ops e g (yes = true) (no = true) := by
  unfold guardB at h
  unfold guardK
  split at h
  · exact h
  · split at h
    · rename_i hb; simp only [hb]; exact h
    · rename_i hb
      rw [getB_eq] at h
      simp only [hb, get_eq]
      split at h
      · rename_i b hl
        rw [hl]
        cases b <;> cases ‹Bool› <;> first | exact ⟨fun _ => h, fun h => by (cases h)⟩ | exact ⟨fun h => by (cases h), fun _ => h⟩
      · rename_i hl; rw [hl]; exact h
      · cases h

/-! ### plans -/
abbrev PStep := Nat × Nat
/-- What is watched: for a load that others may come ahead of, those others. -/
abbrev Watch := List (Nat × List Nat)
def memN (j : Nat) : List Nat → Bool
  | [] => false
  | i :: l => Nat.beq i j || memN j l
def watches : Watch → Nat → Nat → Bool
  | [], _, _ => false
  | (i, l) :: W, i', j => (Nat.beq i i' && memN j l) || watches W i' j
def isE : List PStep → Nat → Bool
  | [], _ => false
  | (kd, i) :: l, j => (Nat.beq kd 3 && Nat.beq i j) || isE l j
def isA : List PStep → Nat → Bool
  | [], _ => false
  | (kd, i) :: l, j => (Nat.beq kd 2 && Nat.beq i j) || isA l j
/-- What is listed, and all that makes blocks, but x. -/
def withA (al : Nat → Bool) (n : Nat) (l : Array Bool) (x : Nat) : Array Bool :=
  ((List.range n).map fun j => l.getD j true || (al j && !Nat.beq j x)).toArray
def allAre (i : Nat) : List Nat → Bool
  | [] => true
  | j :: l => Nat.beq j i && allAre i l
theorem allAre_ok {i : Nat} : ∀ {l : List Nat}, allAre i l = true → ∀ j ∈ l, j = i
  | [], _, j, h => by cases h
  | a :: l, hl, j, h => by
    simp only [allAre, Bool.and_eq_true] at hl
    rcases List.mem_cons.1 h with rfl | h
    · exact Nat.eq_of_beq_eq_true hl.1
    · exact allAre_ok hl.2 j h
def addAll (x : Nat) : List Nat → Array Bool → Array Bool
  | [], c => c
  | j :: l, c => addAll x l (if Nat.beq j x then c else c.setIfInBounds j true)
/-- All that may come up ahead of i. -/
def closeR (ops : Array Oper) (i : Nat) : Nat → Array Bool → Array Bool
  | 0, c => c
  | n + 1, c => match allAre i (Region.ready .any ops c) with
    | true => c
    | false => closeR ops i n (addAll i (Region.ready .any ops c) c)
def noneE (E : Nat → Bool) (c l : Array Bool) (n : Nat) : Bool := (List.range n).all fun j => !E j || !c.getD j true || l.getD j false
def subB (c d : Array Bool) (n : Nat) : Bool := (List.range n).all fun j => !c.getD j true || d.getD j false
def settled (ops : Array Oper) (E : Nat → Bool) (l la : Array Bool) (i : Nat) : Bool :=
  let c := closeR ops i ops.size la
  allAre i (Region.ready .any ops c) && noneE E c l ops.size && subB la c ops.size && Nat.beq c.size ops.size
def dstOnly (ops : Array Oper) (i : Nat) : Bool :=
  match (ops[i]?).bind (·.dst) with
  | some d => (List.range ops.size).all fun j => Nat.beq j i || match (ops[j]?).bind (·.dst) with
    | some d' => !Nat.beq d' d
    | none => true
  | none => false
def chkP (ops : Array Oper) (E al : Nat → Bool) (W : Watch) : List PStep → Array Bool → Bool
  | [], l => (List.range ops.size).all fun j => l.getD j false
  | (kd, i) :: pl, l => (Region.ready .any ops l).contains i && Nat.blt i ops.size && (match kd with
    | 0 => !E i && !al i && Region.free .any ops l i
    | 1 => !E i && !al i && Region.free .any ops l i && settled ops E l (withA al ops.size l ops.size) i
    | 4 => !E i && !al i && Region.free .any ops l i && settled ops (fun j => E j && !watches W i j) l (withA al ops.size l ops.size) i
    | 2 => !E i && al i && dstOnly ops i && allAre i (Region.ready .any ops (withA al ops.size l i))
    | _ => E i && !al i && allAre i (Region.ready .any ops (withA al ops.size l ops.size))) && chkP ops E al W pl (l.setIfInBounds i true)
/-- A plan is good for a region. -/
def planGood (ops : Array Oper) (pl : List PStep) (W : Watch) : Bool :=
  Region.noSelect ops && chkP ops (isE pl) (isA pl) W pl (Array.replicate ops.size false)

/-- The same value, which stands for one value alone. -/
def eqV : Value → Value → Bool
  | .int k a, .int k' b => decide (k = k') && (a == b)
  | .bool a, .bool b => a == b
  | .string a, .string b => eqL a.data.toList b.data.toList
  | .pointer none, .pointer none => true
  | .slice none a b, .slice none c d => Nat.beq a c && Nat.beq b d
  | .map none, .map none => true
  | .nilFunc, .nilFunc => true
  | .nilIface, .nilIface => true
  | _, _ => false
theorem eqV_ok {a b : Value} (h : eqV a b = true) : a = b := by
  unfold eqV at h
  split at h
  · simp only [Bool.and_eq_true, decide_eq_true_eq, beq_iff_eq] at h; rw [h.1, h.2]
  · simp only [beq_iff_eq] at h; rw [h]
  · rename_i s t
    rw [eqL_eq, beq_iff_eq] at h
    have : s = t := by
      apply ByteArray.ext
      apply Array.ext'
      exact h
    rw [this]
  · rfl
  · simp only [Bool.and_eq_true] at h; rw [Nat.eq_of_beq_eq_true h.1, Nat.eq_of_beq_eq_true h.2]
  · rfl
  · rfl
  · rfl
  · cases h
mutual
def eqA : AV → AV → Bool
  | .g (.c a), .g (.c b) => eqV a b
  | .p id sz i j, .p id' sz' i' j' => Nat.beq id id' && Nat.beq sz sz' && Nat.beq i i' && Nat.beq j j'
  | .m id, .m id' => Nat.beq id id'
  | .sl id sz off len none, .sl id' sz' off' len' none => Nat.beq id id' && Nat.beq sz sz' && Nat.beq off off' && Nat.beq len len' && Nat.blt 0 len && Nat.blt 0 sz
  | .sl id sz off len (some c), .sl id' sz' off' len' (some c') => Nat.beq id id' && Nat.beq sz sz' && Nat.beq off off' && Nat.beq len len' && Nat.beq c c' && Nat.blt 0 len && Nat.blt 0 sz
  | .agg xs, .agg ys => eqAs xs ys
  | _, _ => false
def eqAs : List AV → List AV → Bool
  | [], [] => true
  | x :: xs, y :: ys => eqA x y && eqAs xs ys
  | _, _ => false
end
theorem nbeq {a b : Nat} (h : Nat.beq a b = true) : a = b := Nat.eq_of_beq_eq_true h
mutual
theorem eqA_ok : ∀ {x y : AV}, eqA x y = true → x = y ∧ ∀ (C : Ctx) u u', RV C x u → RV C x u' → u = u'
  | .g (.c a), .g (.c b), h => by
    simp only [eqA] at h
    refine ⟨by rw [eqV_ok h], fun C u u' h1 h2 => ?_⟩
    simp only [RV, RG] at h1 h2
    rw [h1, h2]
  | .p id sz i j, .p id' sz' i' j', h => by
    simp only [eqA, Bool.and_eq_true] at h
    refine ⟨by rw [nbeq h.1.1.1, nbeq h.1.1.2, nbeq h.1.2, nbeq h.2], fun C u u' h1 h2 => ?_⟩
    simp only [RV] at h1 h2
    obtain ⟨b, e1, rfl⟩ := h1
    obtain ⟨b', e2, rfl⟩ := h2
    rw [e1] at e2
    cases e2
    rfl
  | .m id, .m id', h => by
    simp only [eqA] at h
    refine ⟨by rw [nbeq h], fun C u u' h1 h2 => ?_⟩
    simp only [RV] at h1 h2
    obtain ⟨b, e1, rfl⟩ := h1
    obtain ⟨b', e2, rfl⟩ := h2
    rw [e1] at e2
    cases e2
    rfl
  | .sl id sz off len none, .sl id' sz' off' len' none, h => by
    simp only [eqA, Bool.and_eq_true] at h
    obtain ⟨⟨⟨⟨⟨h1, h2⟩, h3⟩, h4⟩, h5⟩, h6⟩ := h
    refine ⟨by rw [nbeq h1, nbeq h2, nbeq h3, nbeq h4], fun C u u' g1 g2 => ?_⟩
    have h5 := blt_lt h5
    have h6 := blt_lt h6
    simp only [RV] at g1 g2
    obtain ⟨a, c, rfl, _, _, (⟨b, e1, e2, vs, t, f, e3, e4⟩ | ⟨e, _⟩)⟩ := g1
    · obtain ⟨a', c', rfl, _, _, (⟨b', f1, f2, vs', t', f', f3, f4⟩ | ⟨e, _⟩)⟩ := g2
      · rw [e1] at f1
        cases f1
        rw [e3] at f3
        cases f3
        rw [e4] at f4
        have : off + c = off + c' := Nat.eq_of_mul_eq_mul_right h6 f4
        have : c = c' := by omega
        rw [e2, f2, this]
      · omega
    · omega
  | .sl id sz off len (some k), .sl id' sz' off' len' (some k'), h => by
    simp only [eqA, Bool.and_eq_true] at h
    obtain ⟨⟨⟨⟨⟨⟨h1, h2⟩, h3⟩, h4⟩, h7⟩, h5⟩, h6⟩ := h
    refine ⟨by rw [nbeq h1, nbeq h2, nbeq h3, nbeq h4, nbeq h7], fun C u u' g1 g2 => ?_⟩
    have h5 := blt_lt h5
    simp only [RV] at g1 g2
    obtain ⟨a, c, rfl, _, _, (⟨b, e1, e2, e3⟩ | ⟨e, _⟩)⟩ := g1
    · obtain ⟨a', c', rfl, _, _, (⟨b', f1, f2, f3⟩ | ⟨e, _⟩)⟩ := g2
      · rw [e1] at f1
        cases f1
        rw [e2, f2, e3, f3]
      · omega
    · omega
  | .agg xs, .agg ys, h => by
    simp only [eqA] at h
    obtain ⟨h1, h2⟩ := eqAs_ok h
    refine ⟨by rw [h1], fun C u u' g1 g2 => ?_⟩
    simp only [RV] at g1 g2
    obtain ⟨vs, rfl, g1⟩ := g1
    obtain ⟨vs', rfl, g2⟩ := g2
    rw [h2 C _ _ g1 g2]
theorem eqAs_ok : ∀ {xs ys : List AV}, eqAs xs ys = true → xs = ys ∧ ∀ (C : Ctx) us us', RVs C xs us → RVs C xs us' → us = us'
  | [], [], _ => ⟨rfl, fun C us us' h1 h2 => by simp only [RVs] at h1 h2; rw [h1, h2]⟩
  | x :: xs, y :: ys, h => by
    simp only [eqAs, Bool.and_eq_true] at h
    obtain ⟨h1, h2⟩ := eqA_ok h.1
    obtain ⟨h3, h4⟩ := eqAs_ok h.2
    refine ⟨by rw [h1, h3], fun C us us' g1 g2 => ?_⟩
    simp only [RVs] at g1 g2
    obtain ⟨u, vs, rfl, e1, e2⟩ := g1
    obtain ⟨u', vs', rfl, f1, f2⟩ := g2
    rw [h2 C _ _ e1 f1, h4 C _ _ e2 f2]
end
/-- A load that is watched: the operation, the type, the address, the value. -/
abbrev Ent := Nat × TypeId × AV × AV
def memR (i : Nat) (t : TypeId) (a v : AV) : List Ent → Bool
  | [] => false
  | (i', t', a', v') :: R => (Nat.beq i' i && Nat.beq t' t && eqA a' a && eqA v' v) || memR i t a v R
/-- What is watched at an operation stands as it stood. -/
def keepR (T : Tab) (H : AHeap) (W : Watch) (j : Nat) : List Ent → Bool
  | [] => true
  | (i, t, a, v) :: R => (match watches W i j with
    | true => evLoadB T H t a fun v' => eqA v v'
    | false => true) && keepR T H W j R

/-- A load, or a look into a map. -/
def evRB (T : Tab) (H : AHeap) (e : Env) (op : Op) (k : AV → Bool) : Bool :=
  match op with
  | .lookup t x y ok => opdB T e x fun a => opdB T e y fun b => evLookupB T H t a b ok k
  | .load t x => opdB T e x fun a => evLoadB T H t a k
  | _ => false
def isRead : Op → Bool
  | .load _ _ => true
  | .lookup _ _ _ _ => true
  | _ => false
def lateB (T : Tab) (H : AHeap) (op : Op) (k : AV → AHeap → Bool) : Bool :=
  match op with
  | .alloc t => evAllocB T H t k
  | .makeMap _ none => hpushB H (.map [] 0) fun id H' => k (.m id) H'
  | _ => false
def planB (T : Tab) (cb : CallB) (N : Nat) (all : List Oper) (W : Watch) (R : List Ent) : List PStep → Env → AHeap → (Env → AHeap → Bool) → Bool
  | [], e, H, k => k e H
  | (kd, i) :: pl, e, H, k => match all[i]? with
    | some o => match kd with
      | 0 => guardB all e o.guard (match isRead o.op with
          | true => false
          | false => evQB T H e o.op fun v => setB N o.dst v e fun e' => planB T cb N all W R pl e' H k) (setB N o.dst (.g (.c undef)) e fun e' => planB T cb N all W R pl e' H k)
      | 1 => guardB all e o.guard (evRB T H e o.op fun v => setB N o.dst v e fun e' => planB T cb N all W R pl e' H k) (setB N o.dst (.g (.c undef)) e fun e' => planB T cb N all W R pl e' H k)
      | 2 => match o.guard with
        | none => lateB T H o.op fun v H' => setB N o.dst v e fun e' => planB T cb N all W R pl e' H' k
        | some _ => false
      | 4 => guardB all e o.guard (match o.op with
          | .load t x => opdB T e x fun a => evLoadB T H t a fun v => memR i t a v R && setB N o.dst v e fun e' => planB T cb N all W R pl e' H k
          | _ => false) (setB N o.dst (.g (.c undef)) e fun e' => planB T cb N all W R pl e' H k)
      | _ => guardB all e o.guard (evEB T cb H e o.op fun v H' => keepR T H' W i R && setB N o.dst v e fun e' => planB T cb N all W R pl e' H' k) (keepR T H W i R && setB N o.dst (.g (.c undef)) e fun e' => planB T cb N all W R pl e' H k)
    | none => false
/-- The loads that are watched: those of a plan's head. -/
def entB (T : Tab) (N : Nat) (all : List Oper) (H : AHeap) : List PStep → Env → (List Ent → Bool) → Bool
  | [], _, k => k []
  | (kd, i) :: pl, e, k => match all[i]? with
    | some o => match kd with
      | 0 => guardB all e o.guard (match isRead o.op with
          | true => false
          | false => evQB T H e o.op fun v => setB N o.dst v e fun e' => entB T N all H pl e' k) (setB N o.dst (.g (.c undef)) e fun e' => entB T N all H pl e' k)
      | 1 => guardB all e o.guard (evRB T H e o.op fun v => setB N o.dst v e fun e' => entB T N all H pl e' k) (setB N o.dst (.g (.c undef)) e fun e' => entB T N all H pl e' k)
      | 4 => guardB all e o.guard (match o.op with
          | .load t x => opdB T e x fun a => evLoadB T H t a fun v => setB N o.dst v e fun e' => entB T N all H pl e' fun R => k ((i, t, a, v) :: R)
          | _ => false) (setB N o.dst (.g (.c undef)) e fun e' => entB T N all H pl e' k)
      | _ => k []
    | none => k []
def anyW : Watch → Bool
  | [] => false
  | _ :: _ => true
/-- The loads that are watched stand in this heap. -/
def standR (T : Tab) (H : AHeap) : List Ent → Bool
  | [] => true
  | (_, t, a, v) :: R => (match a with
    | .p _ _ _ _ => evLoadB T H t a fun v' => eqA v v'
    | _ => false) && standR T H R
/-- The slots of what makes blocks, emptied. -/
def clearB (N : Nat) (all : List Oper) : List PStep → Env → (Env → Bool) → Bool
  | [], e, k => k e
  | (kd, i) :: pl, e, k => match Nat.beq kd 2 with
    | true => match (all[i]?).bind (·.dst) with
      | some d => setB N (some d) .junk e fun e' => clearB N all pl e' k
      | none => false
    | false => clearB N all pl e k

/-! ### soundness -/
theorem ObjOK.lift {C D : Ctx} (h : Sub C D) (h0 : ∀ (id : Nat) b, C.r[id]? = some b → D.r[id]? = some b) {b : Option Nat} {x : AObj} (hx : ObjOK C b x) : ObjOK D b x := by
  cases b with
  | none => cases x <;> exact hx
  | some b =>
    cases x with
    | dead => trivial
    | box t cs =>
      obtain ⟨vs, h1, h2, h3⟩ := hx
      exact ⟨vs, by rw [h.w]; exact h1, RVs.lift h h0 _ _ h2, h3⟩
    | row t sz n at_ fz =>
      obtain ⟨h1, vs, h2, h3, h4⟩ := hx
      refine ⟨h1, vs, by rw [h.w]; exact h2, h3, fun i hi j hj => ?_⟩
      obtain ⟨v, e1, e2, e3⟩ := h4 i hi j hj
      exact ⟨v, e1, e2, RV.lift h h0 _ _ e3⟩
    | map es clk =>
      obtain ⟨en, h1, h2⟩ := hx
      refine ⟨en, by rw [h.w]; exact h1, ?_⟩
      clear h1
      induction es generalizing en with
      | nil => exact h2
      | cons p ps ih =>
        obtain ⟨e, es', h3, h4, h5, h6⟩ := h2
        exact ⟨e, es', h3, h4, RV.lift h h0 _ _ h5, ih es' h6⟩
    | iter m =>
      obtain ⟨bm, s, l, h1, h2⟩ := hx
      exact ⟨bm, s, l, by rw [h.w]; exact h1, fun i hi => h0 _ _ (h2 i hi)⟩

/-- The cells of blocks that are made, but not yet told of, are nobody's. -/
def Aof (A : Nat → Nat → Prop) (D : List (Nat × Nat)) : Nat → Nat → Prop := fun b o => A b o ∨ ∃ p ∈ D, p.2 = b
theorem Aof_nil (A : Nat → Nat → Prop) : Aof A [] = A := by funext b o; simp [Aof]

/-- What an operation makes that comes late: the object, its number's value, the block, the block's value. -/
structure LateSpec (T : Tab) (op : Op) (x : AObj) (av : Nat → AV) (obj : Obj) (val : Nat → Value) : Prop where
  run : ∀ (ev : Operand → Value) (o : Oper) w, o.op = op → (execOp ev o).run T.P w = .ok (.value (val w.heap.size)) (w.alloc obj)
  ok : ∀ C b, C.w.heap[b]? = some obj → ObjOK C (some b) x
  rv : ∀ C (id b : Nat), C.r[id]? = some (some b) → RV C (av id) (val b)

theorem lateB_ok {T : Tab} (hT : T.OK) {op : Op} : ∀ {H : AHeap} {k : AV → AHeap → Bool}, lateB T H op k = true →
    ∃ x av obj val, LateSpec T op x av obj val ∧ k (av H.length) (H ++ [x]) = true := by
  intro H k h
  unfold lateB at h
  split at h
  · rename_i t
    unfold evAllocB at h
    split at h
    · rename_i s q z hinf
      rw [gcB_eq] at h
      split at h
      · rename_i hc
        rw [hpushB_eq] at h
        refine ⟨_, fun id => .p id 0 0 0, .cells z.cells t (0, 0), fun b => .pointer (some ⟨b, 0, none⟩), ⟨?_, ?_, ?_⟩, h⟩
        · intro ev o w ho
          obtain ⟨dst, op, ty, pos, after, guard⟩ := o
          simp only at ho
          subst ho
          simp [execOp, Instr.alloc, run_zero hT hinf, newVar, newRow]
        · intro C b hb
          have hr := RVs.exacts (C := C) z.cells.toList
          exact ⟨z.cells.toList, by simpa using hb, hr, oneCells_of hc hr⟩
        · intro C id b hb
          simp only [RV]
          exact ⟨b, hb, by simp⟩
      · cases h
    · cases h
  · rw [hpushB_eq] at h
    refine ⟨_, fun id => .m id, .map #[] 0, fun b => .map (some b), ⟨?_, ?_, ?_⟩, h⟩
    · intro ev o w ho
      obtain ⟨dst, op, ty, pos, after, guard⟩ := o
      simp only at ho
      subst ho
      simp [execOp, Instr.makeMap]
    · intro C b hb
      exact ⟨[], by simpa using hb, by simp [RM]⟩
    · intro C id b hb
      simp only [RV]
      exact ⟨b, hb, rfl⟩
  · cases h

/-- A block that is made, but not yet told of. -/
structure Pend (T : Tab) (A : Nat → Nat → Prop) (C0 : Ctx) (ops : Array Oper) (w : World) (a : Act) (p : Nat × Nat) : Prop where
  ex : ∃ o d x av obj val, ops[p.1]? = some o ∧ o.dst = some d ∧ o.guard = none ∧ LateSpec T o.op x av obj val ∧ w.heap[p.2]? = some obj ∧ a.tmps.getD d undef = val p.2
  fresh : C0.w.heap.size ≤ p.2
  notA : ∀ o, ¬ A p.2 o

theorem LateSpec.unique {T : Tab} {op : Op} {x x' : AObj} {av av' : Nat → AV} {obj obj' : Obj} {val val' : Nat → Value} (h : LateSpec T op x av obj val) (h' : LateSpec T op x' av' obj' val') : ∀ w : World, val w.heap.size = val' w.heap.size ∧ w.alloc obj = w.alloc obj' := by
  intro w
  have h1 := h.run (fun _ => undef) ⟨none, op, 0, "", #[], none⟩ w rfl
  have h2 := h'.run (fun _ => undef) ⟨none, op, 0, "", #[], none⟩ w rfl
  rw [h1] at h2
  simp only [Result.ok.injEq, Next.value.injEq] at h2
  exact h2

/-! listed operations -/
theorem getD_repl (n j : Nat) (d : Bool) (hj : j < n) : (Array.replicate n false).getD j d = false := by simp [hj]
theorem withA_size (al : Nat → Bool) (n : Nat) (l : Array Bool) (x : Nat) : (withA al n l x).size = n := by simp [withA]
theorem withA_get (al : Nat → Bool) (n : Nat) (l : Array Bool) (x j : Nat) (hj : j < n) (d : Bool) : (withA al n l x).getD j d = (l.getD j true || (al j && !Nat.beq j x)) := by
  simp [withA, hj]
theorem set_size (l : Array Bool) (i : Nat) : (l.setIfInBounds i true).size = l.size := by simp
theorem get_set_true (l : Array Bool) (i j : Nat) (d : Bool) (hj : j < l.size) : (l.setIfInBounds i true).getD j d = (l.getD j d || decide (i = j)) := by
  by_cases h : i = j
  · subst h; simp [hj]
  · simp [Array.getElem?_setIfInBounds_ne h, h]
theorem getD_in {l : Array Bool} {j : Nat} (hj : j < l.size) (d d' : Bool) : l.getD j d = l.getD j d' := by simp [Array.getD, hj]

/-- How many are not listed. -/
def unl (l : Array Bool) : Nat := l.toList.countP (fun b => !b)
theorem unl_set {l : Array Bool} {i : Nat} (hi : i < l.size) (h : l.getD i true = false) : unl (l.setIfInBounds i true) + 1 = unl l := by
  have key : ∀ (l : List Bool) (i : Nat), l[i]? = some false → (l.set i true).countP (fun b => !b) + 1 = l.countP (fun b => !b) := by
    intro l
    induction l with
    | nil => intro i h; simp at h
    | cons b l ih =>
      intro i h
      cases i with
      | zero => simp at h; subst h; simp
      | succ i =>
        simp at h
        have := ih i h
        simp only [List.set_cons_succ, List.countP_cons]
        omega
  have h' : l.toList[i]? = some false := by
    simp [hi] at h
    simp [hi, h]
  have := key l.toList i h'
  simpa [unl] using this

section
variable {T : Tab} {N : Nat} {C0 : Ctx}

/-- A block that an operation makes ahead of its time: nobody's yet. -/
theorem Rel.early {r : List (Option Nat)} {H : AHeap} {w : World} {e : Env} {a : Act} {D : List (Nat × Nat)} (h : Rel T N (Aof A D) r H w e a) (obj : Obj) (i d : Nat) (v : Value) (hd : look e d = .junk) :
    Rel T N (Aof A ((i, w.heap.size) :: D)) r H (w.alloc obj) e (a.put (some d) v) ∧ Le (ctx (Aof A D) r H w) (ctx (Aof A ((i, w.heap.size) :: D)) r H (w.alloc obj)) := by
  have hin : ∀ b o, Aof A ((i, w.heap.size) :: D) b o → b < w.heap.size → Aof A D b o := by
    rintro b o (ha | ⟨p, hp, rfl⟩) hlt
    · exact .inl ha
    · rcases List.mem_cons.1 hp with rfl | hp
      · simp at hlt
      · exact .inr ⟨p, hp, rfl⟩
  have hle : Le (ctx (Aof A D) r H w) (ctx (Aof A ((i, w.heap.size) :: D)) r H (w.alloc obj)) := by
    refine ⟨fun _ _ h => h, fun b o v hv _ => ?_, fun b vs t f hb => ⟨vs, (Below.heap_alloc _ _ _ (lt_of_block (w := w) hb)).trans hb, rfl⟩, ?_, by show w.heap.size ≤ (w.heap.push obj).size; rw [Array.size_push]; omega, fun _ _ h => h, fun b hb _ => Below.heap_alloc _ _ _ hb, rfl, rfl, rfl⟩
    · have hv' : w.cell? ⟨b, o, none⟩ = some v := hv
      show (w.alloc obj).cell? _ = _
      rw [World.cell?_of_block (w := w) (Below.heap_alloc _ _ _ (cell_lt hv'))]; exact hv'
    · rintro b o hb (hw | ha)
      · exact .inl hw
      · exact .inr (hin b o ha hb)
  have hinv : Inv (Aof A ((i, w.heap.size) :: D)) r H (w.alloc obj) := by
    refine ⟨h.inv.len, fun id x b h1 h2 => ObjOK.mono hle (fun k hk hl => by subst hk; exact Below.heap_alloc _ _ _ (ObjOK.lt (h.inv.obj id x _ h1 h2) hl)) (h.inv.obj id x b h1 h2), h.inv.inj, ?_⟩
    rintro b o ha
    by_cases hb : b < w.heap.size
    · obtain ⟨h1, h2⟩ := h.inv.amb b o (hin b o ha hb)
      exact ⟨by show b < (w.heap.push obj).size; rw [Array.size_push]; omega, h2⟩
    · rcases ha with ha | ⟨p, hp, rfl⟩
      · exact absurd (h.inv.amb b o (.inl ha)).1 hb
      · rcases List.mem_cons.1 hp with rfl | hp
        · refine ⟨by show w.heap.size < (w.heap.push obj).size; rw [Array.size_push]; omega, ?_⟩
          rintro ⟨id, x, h1, h2, h3⟩
          have h4 := ObjOK.lt (h.inv.obj id x _ h1 h2) h3
          have h4 : w.heap.size < w.heap.size := h4
          omega
        · exact absurd (h.inv.amb p.2 o (.inr ⟨p, hp, rfl⟩)).1 hb
  refine ⟨⟨hinv, h.laid.mono hle, fun t => ?_, by simp [Act.put, h.size], by simp [Act.put, h.defers]⟩, hle⟩
  by_cases e1 : d = t
  · subst e1; rw [hd]; simp [RV]
  · have : (a.put (some d) v).tmps.getD t undef = a.tmps.getD t undef := by
      simp [Act.put, Array.getElem?_setIfInBounds_ne e1]
    rw [this]
    exact RV.mono hle _ _ (h.env t)

/-- The block is told of. -/
theorem Rel.adopt {r : List (Option Nat)} {H : AHeap} {w : World} {e : Env} {a : Act} {D : List (Nat × Nat)} {i b d : Nat} {op : Op} {x : AObj} {av : Nat → AV} {obj : Obj} {val : Nat → Value} (h : Rel T N (Aof A ((i, b) :: D)) r H w e a)
    (hnd : ∀ p ∈ D, p.2 ≠ b) (hA : ∀ o, ¬ A b o) (hs : LateSpec T op x av obj val) (hb : w.heap[b]? = some obj) (hv : a.tmps.getD d undef = val b) (hfresh : C0.w.heap.size ≤ b) (hle : Le C0 (ctx (Aof A ((i, b) :: D)) r H w)) :
    Rel T N (Aof A D) (r ++ [some b]) (H ++ [x]) w (setE e d (av H.length)) a ∧ Le C0 (ctx (Aof A D) (r ++ [some b]) (H ++ [x]) w) := by
  have hamb : Aof A ((i, b) :: D) b 0 := .inr ⟨(i, b), by simp, rfl⟩
  have hblt := (h.inv.amb b 0 hamb).1
  have hbno := (h.inv.amb b 0 hamb).2
  have hback : ∀ (q : Nat) (y : AObj) (k : Nat), (H ++ [x])[q]? = some y → (r ++ [some b])[q]? = some (some k) → (H[q]? = some y ∧ r[q]? = some (some k)) ∨ (q = H.length ∧ y = x ∧ k = b) := by
    intro q y k h1 h2
    rcases getElem?_snoc _ _ _ _ h1 with h1 | ⟨h1, h3⟩ <;> rcases getElem?_snoc _ _ _ _ h2 with h2 | ⟨h2, h4⟩
    · exact .inl ⟨h1, h2⟩
    · have := (List.getElem?_eq_some_iff.1 h1).1; have := h.inv.len; omega
    · have := (List.getElem?_eq_some_iff.1 h2).1; have := h.inv.len; omega
    · exact .inr ⟨h1, h3, by simpa using h4⟩
  have hown : ∀ k, Own (r ++ [some b]) (H ++ [x]) k → Own r H k ∨ k = b := by
    rintro k ⟨q, y, h1, h2, h3⟩
    rcases hback q y k h1 h2 with ⟨h1, h2⟩ | ⟨_, _, h⟩
    · exact .inl ⟨q, y, h1, h2, h3⟩
    · exact .inr h
  have hsub : Sub (ctx (Aof A ((i, b) :: D)) r H w) (ctx (Aof A D) (r ++ [some b]) (H ++ [x]) w) := by
    refine ⟨rfl, ?_⟩
    rintro k o (⟨q, y, h1, h2, h3⟩ | ha)
    · rcases hback q y k h1 h2 with ⟨h1, h2⟩ | ⟨_, _, rfl⟩
      · exact .inl ⟨q, y, h1, h2, h3⟩
      · exact .inr (.inr ⟨(i, k), by simp, rfl⟩)
    · rcases ha with ha | ⟨p, hp, rfl⟩
      · exact .inr (.inl ha)
      · exact .inr (.inr ⟨p, by simp [hp], rfl⟩)
  have hrho : ∀ (id : Nat) k, (ctx (Aof A ((i, b) :: D)) r H w).r[id]? = some k → (ctx (Aof A D) (r ++ [some b]) (H ++ [x]) w).r[id]? = some k := fun id k hk => get_snoc_old _ hk
  have hinv : Inv (Aof A D) (r ++ [some b]) (H ++ [x]) w := by
    refine ⟨by simp [h.inv.len], ?_, ?_, ?_⟩
    · intro q y k h1 h2
      rcases getElem?_snoc _ _ _ _ h1 with h1 | ⟨h1, rfl⟩
      · rcases getElem?_snoc _ _ _ _ h2 with h2 | ⟨h2, _⟩
        · exact ObjOK.lift hsub hrho (h.inv.obj q y k h1 h2)
        · have := (List.getElem?_eq_some_iff.1 h1).1; have := h.inv.len; omega
      · rcases getElem?_snoc _ _ _ _ h2 with h2 | ⟨_, rfl⟩
        · have := (List.getElem?_eq_some_iff.1 h2).1; have := h.inv.len; omega
        · exact hs.ok _ _ hb
    · intro q q' y y' k h1 h2 l1 l2 r1 r2
      rcases hback q y k h1 r1 with ⟨h1, r1⟩ | ⟨e1, e2, e3⟩ <;> rcases hback q' y' k h2 r2 with ⟨h2, r2⟩ | ⟨f1, f2, f3⟩
      · exact h.inv.inj q q' y y' k h1 h2 l1 l2 r1 r2
      · rw [f3] at r1; exact absurd ⟨q, y, h1, r1, l1⟩ hbno
      · rw [e3] at r2; exact absurd ⟨q', y', h2, r2, l2⟩ hbno
      · omega
    · rintro k o ha
      have ha' : Aof A ((i, b) :: D) k o := by
        rcases ha with ha | ⟨p, hp, rfl⟩
        · exact .inl ha
        · exact .inr ⟨p, by simp [hp], rfl⟩
      obtain ⟨h1, h2⟩ := h.inv.amb k o ha'
      refine ⟨h1, fun ho => ?_⟩
      rcases hown k ho with ho | rfl
      · exact h2 ho
      · rcases ha with ha | ⟨p, hp, e⟩
        · exact hA o ha
        · exact hnd p hp e
  refine ⟨⟨hinv, h.laid.sub hsub, fun t => ?_, h.size, h.defers⟩, ?_⟩
  · rw [look_setE]
    split
    · rename_i e1
      subst e1
      rw [hv]
      refine hs.rv _ _ _ ?_
      show (r ++ [some b])[H.length]? = _
      rw [← h.inv.len]; simp
    · exact RV.lift hsub hrho _ _ (h.env t)
  · refine ⟨fun id k hk => get_snoc_old _ (hle.rho id k hk), hle.cell, hle.size, fun k o hk hw => hle.shrink k o hk (hsub.wr k o hw), hle.heap, ?_, hle.frame, hle.os, hle.tape, hle.output⟩
    intro k hk ho
    rcases hown k ho with ho | rfl
    · exact hle.own k hk ho
    · omega
end

/-- Where a plan stands: what is listed there (labs), what is listed indeed, and the blocks that were made ahead of the plan. -/
structure PSt (T : Tab) (N : Nat) (A : Nat → Nat → Prop) (C0 : Ctx) (ops : Array Oper) (full : List PStep) (labs listed : Array Bool) (D : List (Nat × Nat)) (r : List (Option Nat)) (H : AHeap) (w : World) (e : Env) (a : Act) : Prop where
  sz1 : labs.size = ops.size
  sz2 : listed.size = ops.size
  lst : ∀ j, j < ops.size → (listed.getD j true = true ↔ labs.getD j true = true ∨ ∃ p ∈ D, p.1 = j)
  dA : ∀ p ∈ D, p.1 < ops.size ∧ isA full p.1 = true ∧ labs.getD p.1 true = false
  pend : ∀ p ∈ D, Pend T A C0 ops w a p
  nd : D.Pairwise (fun p q => p.1 ≠ q.1 ∧ p.2 ≠ q.2)
  junk : ∀ j d, isA full j = true → labs.getD j true = false → (ops[j]?).bind (·.dst) = some d → look e d = .junk
  rel : Rel T N (Aof A D) r H w e a
  le : Le C0 (ctx (Aof A D) r H w)

/-- What a plan must have, whatever it is run on. -/
structure POk (T : Tab) (N : Nat) (ops : Array Oper) (full : List PStep) : Prop where
  sel : Region.noSelect ops = true
  dst : ∀ j, isA full j = true → dstOnly ops j = true
  ae : ∀ j, isA full j = true → isE full j = false
  late : ∀ j, isA full j = true → ∃ o d x av obj val, ops[j]? = some o ∧ o.dst = some d ∧ d < N ∧ o.guard = none ∧ LateSpec T o.op x av obj val

theorem dstOnly_ne {ops : Array Oper} {i j d d' : Nat} (h : dstOnly ops i = true) (hi : (ops[i]?).bind (·.dst) = some d) (hj : (ops[j]?).bind (·.dst) = some d') (hij : j ≠ i) : d' ≠ d := by
  unfold dstOnly at h
  rw [hi] at h
  simp only [List.all_eq_true, List.mem_range, Bool.or_eq_true] at h
  have hlt : j < ops.size := by
    rcases Nat.lt_or_ge j ops.size with h | h
    · exact h
    · simp [Array.getElem?_eq_none h] at hj
  rcases h j hlt with h | h
  · exact absurd (Nat.eq_of_beq_eq_true h) hij
  · rw [hj] at h
    simp only [Bool.not_eq_true'] at h
    exact nbeq_false h

theorem tmps_put_ne {a : Act} {dst : Option Nat} {v : Value} {d : Nat} (h : dst ≠ some d) : (a.put dst v).tmps.getD d undef = a.tmps.getD d undef := by
  cases dst with
  | none => rfl
  | some q =>
    have : q ≠ d := fun e => h (by rw [e])
    simp [Act.put, Array.getElem?_setIfInBounds_ne this]

section
variable {T : Tab} {N : Nat} {C0 : Ctx} {ops : Array Oper} {full : List PStep} {labs listed : Array Bool} {D : List (Nat × Nat)} {r : List (Option Nat)} {H : AHeap} {w : World} {e : Env} {a : Act}

theorem ready_lt {i : Nat} (h : i ∈ Region.ready .any ops listed) : i < ops.size := by
  obtain ⟨_, o, ho, _⟩ := mem_ready.1 h
  exact (Array.getElem?_eq_some_iff.1 ho).1

/-- What may come up in the plan may come up indeed, but what was made ahead. -/
theorem PSt.ready (h : PSt T N A C0 ops full labs listed D r H w e a) {i : Nat} (hi : i ∈ Region.ready .any ops labs) (hn : ∀ p ∈ D, p.1 ≠ i) : i ∈ Region.ready .any ops listed := by
  have hlt := ready_lt hi
  rw [mem_ready] at hi ⊢
  obtain ⟨h0, o, ho, hall⟩ := hi
  refine ⟨?_, o, ho, fun ed hed hb => ?_⟩
  · cases hl : listed.getD i true with
    | false => rfl
    | true =>
      rcases (h.lst i hlt).1 hl with h1 | ⟨p, hp, h2⟩
      · rw [h0] at h1; cases h1
      · exact absurd h2 (hn p hp)
  · have h1 := hall ed hed hb
    have hlt' : ed.on < labs.size := by
      rcases Nat.lt_or_ge ed.on labs.size with h' | h'
      · exact h'
      · simp [Array.getElem?_eq_none h'] at h1
    rw [getD_in hlt' false true] at h1
    have hlt2 : ed.on < listed.size := by rw [h.sz2, ← h.sz1]; exact hlt'
    rw [getD_in hlt2 false true]
    exact (h.lst _ (by rw [← h.sz1]; exact hlt')).2 (.inl h1)

/-- What may come up indeed, and makes no block, is told by what is ready where all that makes blocks (but x) is listed. -/
theorem PSt.only (h : PSt T N A C0 ops full labs listed D r H w e a) {j x x' : Nat} (hj : j ∈ Region.ready .any ops listed) (hA : isA full j = false ∨ j = x) (hx : ∀ p ∈ D, p.1 ≠ x) (hr : allAre x' (Region.ready .any ops (withA (isA full) ops.size labs x)) = true) : j = x' := by
  refine allAre_ok hr j ?_
  have hlt := ready_lt hj
  rw [mem_ready] at hj ⊢
  obtain ⟨h0, o, ho, hall⟩ := hj
  have hlabs : labs.getD j true = false := by
    cases hl : labs.getD j true with
    | false => rfl
    | true => rw [(h.lst j hlt).2 (.inl hl)] at h0; cases h0
  refine ⟨?_, o, ho, fun ed hed hb => ?_⟩
  · rw [withA_get _ _ _ _ _ hlt, hlabs]
    rcases hA with hA | rfl
    · simp [hA]
    · simp
  · have h1 := hall ed hed hb
    have hlt' : ed.on < listed.size := by
      rcases Nat.lt_or_ge ed.on listed.size with h' | h'
      · exact h'
      · simp [Array.getElem?_eq_none h'] at h1
    rw [getD_in hlt' false true] at h1
    have hlt2 : ed.on < ops.size := by rw [← h.sz2]; exact hlt'
    rw [withA_get _ _ _ _ _ hlt2]
    rcases (h.lst _ hlt2).1 h1 with h2 | ⟨p, hp, h2⟩
    · rw [h2]; rfl
    · have h3 := (h.dA p hp).2.1
      rw [h2] at h3
      have h4 : Nat.beq ed.on x = false := by
        cases hb : Nat.beq ed.on x with
        | false => rfl
        | true => exact absurd (h2.trans (Nat.eq_of_beq_eq_true hb)) (hx p hp)
      rw [h3, h4]; simp

theorem lst_set_self {l : Array Bool} {n i : Nat} (hs : l.size = n) (hj : i < n) : (l.setIfInBounds i true).getD i true = true := by
  rw [get_set_true l i i true (by omega)]
  simp
theorem lst_set {l : Array Bool} {n i j : Nat} (hs : l.size = n) (hj : j < n) : (l.setIfInBounds i true).getD j true = true ↔ l.getD j true = true ∨ i = j := by
  rw [get_set_true l i j true (by omega)]
  simp

/-- An operation of the plan was carried out: its slot is written. -/
theorem PSt.go (h : PSt T N A C0 ops full labs listed D r H w e a) (hp : POk T N ops full) {i : Nat} {o : Oper} (ho : ops[i]? = some o) (hA : isA full i = false) {r' : List (Option Nat)} {H' : AHeap} {w' : World}
    (hle : Le (ctx (Aof A D) r H w) (ctx (Aof A D) r' H' w')) {x : AV} {v : Value} (hrel : Rel T N (Aof A D) r' H' w' (setO o.dst x e) (a.put o.dst v)) :
    PSt T N A C0 ops full (labs.setIfInBounds i true) (listed.setIfInBounds i true) D r' H' w' (setO o.dst x e) (a.put o.dst v) := by
  have hbind : (ops[i]?).bind (·.dst) = o.dst := by rw [ho]; rfl
  have hne : ∀ j d, isA full j = true → (ops[j]?).bind (·.dst) = some d → o.dst ≠ some d := by
    intro j d hj hd hod
    have hij : i ≠ j := by rintro rfl; rw [hA] at hj; cases hj
    exact dstOnly_ne (hp.dst j hj) hd (hbind.trans hod) hij rfl
  refine ⟨by simp [h.sz1], by simp [h.sz2], fun j hj => ?_, fun p hp' => ?_, fun p hp' => ?_, h.nd, fun j d hj hl hd => ?_, hrel, h.le.trans hle⟩
  · rw [lst_set h.sz2 hj, lst_set h.sz1 hj, h.lst j hj]
    constructor
    · rintro ((h1 | h1) | h1)
      · exact .inl (.inl h1)
      · exact .inr h1
      · exact .inl (.inr h1)
    · rintro ((h1 | h1) | h1)
      · exact .inl (.inl h1)
      · exact .inr h1
      · exact .inl (.inr h1)
  · obtain ⟨h1, h2, h3⟩ := h.dA p hp'
    refine ⟨h1, h2, ?_⟩
    have : i ≠ p.1 := by rintro rfl; rw [hA] at h2; cases h2
    rw [getD_set_ne true this]; exact h3
  · obtain ⟨⟨o', d, x', av, obj, val, e1, e2, e3, e4, e5, e6⟩, h2, h3⟩ := h.pend p hp'
    have hamb := h.rel.inv.amb p.2 0 (.inr ⟨p, hp', rfl⟩)
    refine ⟨⟨o', d, x', av, obj, val, e1, e2, e3, e4, (hle.frame p.2 hamb.1 hamb.2).trans e5, ?_⟩, h2, h3⟩
    rw [tmps_put_ne (hne p.1 d (h.dA p hp').2.1 (by rw [e1]; exact e2))]
    exact e6
  · have hij : i ≠ j := by rintro rfl; rw [hA] at hj; cases hj
    rw [getD_set_ne true hij] at hl
    have := hne j d hj hd
    have hold := h.junk j d hj hl hd
    cases hod : o.dst with
    | none => simpa [setO] using hold
    | some q =>
      simp only [setO, look_setE]
      rw [if_neg (fun e => this (by rw [hod, e]))]
      exact hold

/-- A block is made ahead of the plan. -/
theorem PSt.ahead (h : PSt T N A C0 ops full labs listed D r H w e a) (hp : POk T N ops full) {j : Nat} (hj : j ∈ Region.ready .any ops listed) (hA : isA full j = true) {Q : Exit → Act → World → Prop} {K : Act → World → Prop}
    (hK : ∀ b a' w', Still w w' → PSt T N A C0 ops full labs (listed.setIfInBounds j true) ((j, b) :: D) r H w' e a' → K a' w') : wpOp T.P ops Q j K a w := by
  obtain ⟨o, d, x, av, obj, val, e1, e2, e3, e4, e5⟩ := hp.late j hA
  have hlt := ready_lt hj
  have hun := (mem_ready.1 hj).1
  have hbind : (ops[j]?).bind (·.dst) = some d := by rw [e1]; exact e2
  have hlabs : labs.getD j true = false := by
    cases hl : labs.getD j true with
    | false => rfl
    | true => rw [(h.lst j hlt).2 (.inl hl)] at hun; cases hun
  have hD : ∀ p ∈ D, p.1 ≠ j := fun p hp' he => by
    rw [(h.lst j hlt).2 (.inr ⟨p, hp', he⟩)] at hun; cases hun
  unfold wpOp
  rw [e1]
  simp only [Region.wanted, e4, if_true]
  refine .inl ?_
  unfold Oper.wp
  rw [e5.run a.eval o w rfl]
  simp only [Oper.upon]
  have hblk : (w.alloc obj).heap[w.heap.size]? = some obj := heap_alloc_new w obj
  have hsz : (w.alloc obj).heap.size = w.heap.size + 1 := by show (w.heap.push obj).size = _; simp
  obtain ⟨hrel, hle⟩ := Rel.early h.rel obj j d (val w.heap.size) (h.junk j d hA hlabs hbind)
  refine hK w.heap.size _ _ ⟨fun b hb => Below.heap_alloc _ _ _ hb, by omega⟩ ?_
  rw [e2]
  refine ⟨h.sz1, by simp [h.sz2], fun q hq => ?_, fun p hp' => ?_, fun p hp' => ?_, ?_, h.junk, hrel, h.le.trans hle⟩
  · rw [lst_set h.sz2 hq, h.lst q hq]
    constructor
    · rintro ((h1 | ⟨p, h1, h2⟩) | h1)
      · exact .inl h1
      · exact .inr ⟨p, by simp [h1], h2⟩
      · exact .inr ⟨_, List.mem_cons_self, h1⟩
    · rintro (h1 | ⟨p, h1, h2⟩)
      · exact .inl (.inl h1)
      · rcases List.mem_cons.1 h1 with rfl | h1
        · exact .inr h2
        · exact .inl (.inr ⟨p, h1, h2⟩)
  · rcases List.mem_cons.1 hp' with rfl | hp'
    · exact ⟨hlt, hA, hlabs⟩
    · exact h.dA p hp'
  · rcases List.mem_cons.1 hp' with rfl | hp'
    · have hdN : d < a.tmps.size := by rw [h.rel.size]; exact e3
      exact ⟨⟨o, d, x, av, obj, val, e1, e2, e4, e5, hblk, by simp [Act.put, hdN]⟩, h.le.heap, fun q hq => by
        have := (h.rel.inv.amb w.heap.size q (.inl hq)).1
        omega⟩
    · obtain ⟨⟨o', d', x', av', obj', val', f1, f2, f3, f4, f5, f6⟩, h2, h3⟩ := h.pend p hp'
      have hlt' := (h.rel.inv.amb p.2 0 (.inr ⟨p, hp', rfl⟩)).1
      refine ⟨⟨o', d', x', av', obj', val', f1, f2, f3, f4, (Below.heap_alloc _ _ _ hlt').trans f5, ?_⟩, h2, h3⟩
      have hne : d ≠ d' := dstOnly_ne (hp.dst p.1 (h.dA p hp').2.1) (by rw [f1]; exact f2) hbind (Ne.symm (hD p hp'))
      rw [tmps_put_ne (fun he => hne (by cases he; rfl))]
      exact f6
  · refine List.pairwise_cons.2 ⟨fun p hp' => ⟨(hD p hp').symm, ?_⟩, h.nd⟩
    have hlt' := (h.rel.inv.amb p.2 0 (.inr ⟨p, hp', rfl⟩)).1
    show w.heap.size ≠ p.2
    omega

/-- A block that was made ahead is told of. -/
theorem PSt.told (h : PSt T N A C0 ops full labs listed D r H w e a) (hp : POk T N ops full) {i b : Nat} (hi : (i, b) ∈ D) {o : Oper} (ho : ops[i]? = some o) {x : AObj} {av : Nat → AV} {obj : Obj} {val : Nat → Value} (hs : LateSpec T o.op x av obj val) :
    ∃ D', PSt T N A C0 ops full (labs.setIfInBounds i true) listed D' (r ++ [some b]) (H ++ [x]) w (setO o.dst (av H.length) e) a := by
  obtain ⟨h1, h2, h3⟩ := h.dA _ hi
  obtain ⟨⟨o', d, x', av', obj', val', e1, e2, e3, e4, e5, e6⟩, hfresh, hnA⟩ := h.pend _ hi
  simp only at e1 e5 e6 h1 h2 h3
  rw [ho] at e1
  cases e1
  have huniq := e4.unique hs
  have hobj : obj' = obj := by
    have q1 := heap_alloc_new w obj'
    rw [(huniq w).2, heap_alloc_new w obj] at q1
    exact (Option.some.inj q1).symm
  have hval : val' b = val b := by
    have := (huniq { w with heap := Array.replicate b (.pending #[] 0) }).1
    simpa using this
  subst hobj
  rw [hval] at e6
  let D' := D.filter fun p => !Nat.beq p.1 i
  have hmem : ∀ p, p ∈ D' ↔ p ∈ D ∧ p.1 ≠ i := by
    intro p
    simp only [D', List.mem_filter, Bool.not_eq_true']
    constructor
    · rintro ⟨q1, q2⟩; exact ⟨q1, nbeq_false q2⟩
    · rintro ⟨q1, q2⟩
      refine ⟨q1, ?_⟩
      cases hb : Nat.beq p.1 i with
      | false => rfl
      | true => exact absurd (Nat.eq_of_beq_eq_true hb) q2
  have huni : ∀ p ∈ D, p.1 = i → p = (i, b) := by
    intro p hp' hpi
    by_cases hc : p = (i, b)
    · exact hc
    · have : ∀ (L : List (Nat × Nat)), L.Pairwise (fun p q => p.1 ≠ q.1 ∧ p.2 ≠ q.2) → ∀ p q, p ∈ L → q ∈ L → p ≠ q → p.1 ≠ q.1 ∧ p.2 ≠ q.2 := by
        intro L hL
        induction L with
        | nil => intro p q hp'; cases hp'
        | cons z L ih =>
          rw [List.pairwise_cons] at hL
          intro p q hp' hq hne
          rcases List.mem_cons.1 hp' with hp2 | hp2 <;> rcases List.mem_cons.1 hq with hq2 | hq2
          · exact absurd (hp2.trans hq2.symm) hne
          · rw [hp2]; exact hL.1 q hq2
          · rw [hq2]; exact ⟨(hL.1 p hp2).1.symm, (hL.1 p hp2).2.symm⟩
          · exact ih hL.2 p q hp2 hq2 hne
      exact absurd hpi (this D h.nd p (i, b) hp' hi hc).1
  have hb2 : ∀ p ∈ D', p.2 ≠ b := by
    intro p hp' hpb
    obtain ⟨q1, q2⟩ := (hmem p).1 hp'
    have : ∀ (L : List (Nat × Nat)), L.Pairwise (fun p q => p.1 ≠ q.1 ∧ p.2 ≠ q.2) → ∀ p q, p ∈ L → q ∈ L → p.1 ≠ q.1 → p.2 ≠ q.2 := by
      intro L hL
      induction L with
      | nil => intro p q hp'; cases hp'
      | cons z L ih =>
        rw [List.pairwise_cons] at hL
        intro p q hp' hq hne
        rcases List.mem_cons.1 hp' with hp2 | hp2 <;> rcases List.mem_cons.1 hq with hq2 | hq2
        · exact absurd (by rw [hp2, hq2]) hne
        · rw [hp2]; exact (hL.1 q hq2).2
        · rw [hq2]; exact (hL.1 p hp2).2.symm
        · exact ih hL.2 p q hp2 hq2 hne
    exact this D h.nd p (i, b) q1 hi q2 hpb
  have hAof : Aof A D = Aof A ((i, b) :: D') := by
    funext q o
    apply propext
    constructor
    · rintro (ha | ⟨p, hp', rfl⟩)
      · exact .inl ha
      · by_cases hc : p.1 = i
        · rw [huni p hp' hc]; exact .inr ⟨_, List.mem_cons_self, rfl⟩
        · exact .inr ⟨p, List.mem_cons_of_mem _ ((hmem p).2 ⟨hp', hc⟩), rfl⟩
    · rintro (ha | ⟨p, hp', rfl⟩)
      · exact .inl ha
      · rcases List.mem_cons.1 hp' with rfl | hp'
        · exact .inr ⟨_, hi, rfl⟩
        · exact .inr ⟨p, ((hmem p).1 hp').1, rfl⟩
  have hrel := h.rel
  have hle := h.le
  rw [hAof] at hrel hle
  obtain ⟨k1, k2⟩ := Rel.adopt (C0 := C0) hrel hb2 hnA hs e5 e6 hfresh hle
  refine ⟨D', by simp [h.sz1], h.sz2, fun j hj => ?_, fun p hp' => ?_, fun p hp' => h.pend p ((hmem p).1 hp').1, h.nd.filter _, fun j d' hj hl hd => ?_, ?_, k2⟩
  · rw [lst_set h.sz1 hj, h.lst j hj]
    constructor
    · rintro (q1 | ⟨p, q1, q2⟩)
      · exact .inl (.inl q1)
      · by_cases hc : p.1 = i
        · exact .inl (.inr (hc.symm.trans q2))
        · exact .inr ⟨p, (hmem p).2 ⟨q1, hc⟩, q2⟩
    · rintro ((q1 | q1) | ⟨p, q1, q2⟩)
      · exact .inl q1
      · exact .inr ⟨_, hi, q1⟩
      · exact .inr ⟨p, ((hmem p).1 q1).1, q2⟩
  · obtain ⟨q1, q2⟩ := (hmem p).1 hp'
    obtain ⟨f1, f2, f3⟩ := h.dA p q1
    refine ⟨f1, f2, ?_⟩
    rw [getD_set_ne true (Ne.symm q2)]; exact f3
  · have hij : i ≠ j := by
      rintro rfl
      rw [lst_set_self h.sz1 h1] at hl
      cases hl
    rw [getD_set_ne true hij] at hl
    have hold := h.junk j d' hj hl hd
    have hne : d ≠ d' := dstOnly_ne (hp.dst j hj) hd (by rw [ho]; exact e2) hij
    rw [e2]
    simp only [setO, look_setE]
    rw [if_neg hne]
    exact hold
  · rw [e2]; exact k1
end
end Go.Ev
