/- The mill, part H: building, converting, lengths. -/
import Derived.Test.YtgpegohoninbfaaGreatEvG
namespace Go.Ev
set_option linter.unusedVariables false
set_option linter.unusedSimpArgs false
open Go.RowKit
variable {A : Nat → Nat → Prop}

/-- Cells put over others. -/
def put {α : Type} : List α → Nat → List α → List α
  | cs, 0, [] => cs
  | [], 0, _ :: _ => []
  | _ :: cs, 0, y :: ys => y :: put cs 0 ys
  | [], _ + 1, _ => []
  | c :: cs, n + 1, ys => c :: put cs n ys
def putK : List AV → Nat → List AV → (List AV → Prop) → Prop
  | cs, 0, [], k => k cs
  | [], 0, _ :: _, k => k []
  | _ :: cs, 0, y :: ys, k => putK cs 0 ys fun r => k (y :: r)
  | [], _ + 1, _, k => k []
  | c :: cs, n + 1, ys, k => putK cs n ys fun r => k (c :: r)
theorem putK_eq : ∀ (cs : List AV) (n : Nat) (ys : List AV) (k : List AV → Prop), putK cs n ys k = k (put cs n ys)
  | [], 0, [], _ => rfl
  | _ :: _, 0, [], _ => rfl
  | [], 0, _ :: _, _ => rfl
  | _ :: cs, 0, y :: ys, k => by simp only [putK, put]; exact putK_eq cs 0 ys _
  | [], _ + 1, _, _ => rfl
  | c :: cs, n + 1, ys, k => by simp only [putK, put]; exact putK_eq cs n ys _
theorem length_put {α : Type} : ∀ (cs : List α) (n : Nat) (ys : List α), (put cs n ys).length = cs.length
  | [], 0, [] => rfl
  | _ :: _, 0, [] => rfl
  | [], 0, _ :: _ => rfl
  | _ :: cs, 0, y :: ys => by simp [put, length_put cs 0 ys]
  | [], _ + 1, _ => rfl
  | c :: cs, n + 1, ys => by simp [put, length_put cs n ys]
theorem getElem?_put {α : Type} : ∀ (cs : List α) (n : Nat) (ys : List α) (i : Nat), n + ys.length ≤ cs.length → (put cs n ys)[i]? = if n ≤ i ∧ i < n + ys.length then ys[i - n]? else cs[i]?
  | [], 0, [], i, _ => by simp [put]
  | c :: cs, 0, [], i, _ => by simp [put]
  | [], 0, _ :: _, _, h => by simp at h
  | c :: cs, 0, y :: ys, i, h => by
    cases i with
    | zero => simp [put]
    | succ i =>
      simp only [put, List.getElem?_cons_succ]
      rw [getElem?_put cs 0 ys i (by simp at h ⊢; omega)]
      simp
  | [], n + 1, ys, i, h => by simp at h
  | c :: cs, n + 1, ys, i, h => by
    cases i with
    | zero => simp [put]
    | succ i =>
      simp only [put, List.getElem?_cons_succ]
      rw [getElem?_put cs n ys i (by simp at h; omega)]
      by_cases hc : n ≤ i ∧ i < n + ys.length
      · rw [if_pos hc, if_pos (by omega)]; congr 1; omega
      · rw [if_neg hc, if_neg (by omega)]

theorem RVs.put {C : Ctx} {cs ys : List AV} {us vs : List Value} {n : Nat} (h : RVs C cs us) (k : RVs C ys vs) (hl : n + ys.length ≤ cs.length) : RVs C (put cs n ys) (Ev.put us n vs) := by
  have l1 := h.length
  have l2 := k.length
  refine RVs.of_get (by rw [length_put, length_put, l1]) fun i x v hx hv => ?_
  rw [getElem?_put _ _ _ _ hl] at hx
  rw [getElem?_put _ _ _ _ (by omega)] at hv
  by_cases hc : n ≤ i ∧ i < n + ys.length
  · rw [if_pos hc] at hx; rw [if_pos (by omega)] at hv
    obtain ⟨v', e1, e2⟩ := k.get _ _ hx
    rw [hv] at e1; cases e1; exact e2
  · rw [if_neg hc] at hx; rw [if_neg (by omega)] at hv
    obtain ⟨v', e1, e2⟩ := h.get _ _ hx
    rw [hv] at e1; cases e1; exact e2

/-- An abstract value's cells. -/
def cellsOf : AV → List AV
  | .agg cs => cs
  | x => [x]
theorem RVs.cellsOf {C : Ctx} {x : AV} {v : Value} (h : RV C x v) (hj : match x with | .agg _ => True | .g (.c v) => v.oneCell' = true | .junk => False | .tup _ => False | _ => True) : RVs C (cellsOf x) v.cells.toList := by
  cases x with
  | agg cs => simp only [RV] at h; obtain ⟨vs, rfl, h⟩ := h; simpa [Value.cells, Ev.cellsOf] using h
  | junk => exact hj.elim
  | tup _ => exact hj.elim
  | g x =>
    have hv : v.cells = #[v] := by
      cases x with
      | c u => simp only [RV, RG] at h; subst h; simp only at hj; cases v <;> simp_all [Value.cells, Value.oneCell']
      | sl sz n at_ => simp only [RV, RG] at h; obtain ⟨a, c, rfl, _⟩ := h; rfl
    rw [hv]
    simp only [Ev.cellsOf, RVs]
    exact ⟨v, [], rfl, h, rfl⟩
  | p id sz i j => have h' := h; simp only [RV] at h'; obtain ⟨b, _, rfl⟩ := h'; simp only [Ev.cellsOf, RVs, Value.cells]; exact ⟨_, [], rfl, h, rfl⟩
  | rp n at_ => have h' := h; simp only [RV] at h'; obtain ⟨b, o, rfl, _⟩ := h'; simp only [Ev.cellsOf, RVs, Value.cells]; exact ⟨_, [], rfl, h, rfl⟩
  | sl id sz off len cap => have h' := h; simp only [RV] at h'; obtain ⟨a, c, rfl, _⟩ := h'; simp only [Ev.cellsOf, RVs, Value.cells]; exact ⟨_, [], rfl, h, rfl⟩
  | nz => have h' := h; simp only [RV] at h'; obtain ⟨a, rfl⟩ := h'; simp only [Ev.cellsOf, RVs, Value.cells]; exact ⟨_, [], rfl, h, rfl⟩
  | fn f fs cs => have h' := h; simp only [RV] at h'; obtain ⟨a, b, rfl, _⟩ := h'; simp only [Ev.cellsOf, RVs, Value.cells]; exact ⟨_, [], rfl, h, rfl⟩
  | ifc t x => have h' := h; simp only [RV] at h'; obtain ⟨a, rfl, _⟩ := h'; simp only [Ev.cellsOf, RVs, Value.cells]; exact ⟨_, [], rfl, h, rfl⟩
  | m id => have h' := h; simp only [RV] at h'; obtain ⟨a, _, rfl⟩ := h'; simp only [Ev.cellsOf, RVs, Value.cells]; exact ⟨_, [], rfl, h, rfl⟩

/-- May it stand in one cell? -/
def cellish : AV → Bool
  | .g (.c (.agg _)) => false
  | .g (.c (.tuple _)) => false
  | .junk => false
  | .tup _ => false
  | .agg _ => false
  | _ => true
/-- The cells of what is stored: each one a cell's. -/
def cellsK (x : AV) (k : List AV → Prop) : Prop :=
  match x with
  | .agg cs => k cs
  | .junk => False
  | .tup _ => False
  | .g (.c (.agg _)) => False
  | .g (.c (.tuple _)) => False
  | x => k [x]
theorem cellsK_rv {C : Ctx} {x : AV} {v : Value} {k : List AV → Prop} (h : cellsK x k) (hx : RV C x v) : ∃ cs, k cs ∧ RVs C cs v.cells.toList := by
  unfold cellsK at h
  split at h
  · exact ⟨_, h, RVs.cellsOf hx trivial⟩
  · exact h.elim
  · exact h.elim
  · exact h.elim
  · exact h.elim
  · rename_i h1 h2 h3 h4 h5
    have : Ev.cellsOf x = [x] := by cases x <;> simp_all [Ev.cellsOf]
    refine ⟨_, h, this ▸ RVs.cellsOf hx ?_⟩
    split <;> first | trivial | (rename_i v; cases v <;> simp_all [Value.oneCell']) | simp_all

def gcK : List Value → (List AV → Prop) → Prop
  | [], k => k []
  | v :: vs, k => gcK vs fun r => k (.g (.c v) :: r)
theorem gcK_eq : ∀ (vs : List Value) (k : List AV → Prop), gcK vs k = k (vs.map fun v => .g (.c v))
  | [], _ => rfl
  | v :: vs, k => by simp only [gcK, List.map_cons]; exact gcK_eq vs _
theorem RVs.exacts {C : Ctx} : ∀ (vs : List Value), RVs C (vs.map fun v => .g (.c v)) vs
  | [] => by simp [RVs]
  | v :: vs => by simp only [List.map_cons, RVs]; exact ⟨v, vs, rfl, by simp [RV, RG], RVs.exacts vs⟩

def evFill (pl : Nat → Option (Nat × Nat)) : List AV → List (Nat × AV) → (List AV → Prop) → Prop
  | cs, [], k => k cs
  | cs, (i, x) :: rest, k => match pl i with
    | none => False
    | some (off, size) => cellsK x fun ys => match Nat.beq ys.length size, Nat.ble (off + ys.length) cs.length with
      | true, true => putK cs off ys fun cs' => evFill pl cs' rest k
      | _, _ => False

theorem foldl_put : ∀ (ys : List Value) (j off : Nat) (cs : Array Value), off + j + ys.length ≤ cs.size → ((ys.zipIdx j).foldl (fun cs (p : Value × Nat) => cs.setIfInBounds (off + p.2) p.1) cs).toList = put cs.toList (off + j) ys
  | [], j, off, cs, _ => by
    have : ∀ (l : List Value) (n : Nat), n ≤ l.length → put l n [] = l := by
      intro l
      induction l with
      | nil => intro n hn; cases n with
        | zero => rfl
        | succ n => simp at hn
      | cons a l ih => intro n hn; cases n with
        | zero => rfl
        | succ n => simp only [put]; rw [ih n (by simpa using hn)]
    simp only [List.zipIdx_nil, List.foldl_nil]
    rw [this _ _ (by simpa using ‹_›)]
  | y :: ys, j, off, cs, h => by
    simp only [List.zipIdx_cons, List.foldl_cons]
    rw [foldl_put ys (j + 1) off _ (by simp at h ⊢; omega)]
    apply List.ext_getElem?
    intro i
    simp only [List.length_cons] at h
    rw [getElem?_put _ _ _ _ (by simp; omega), getElem?_put _ _ _ _ (by simp; omega)]
    simp only [Array.toList_setIfInBounds, List.length_cons]
    by_cases h1 : off + (j + 1) ≤ i ∧ i < off + (j + 1) + ys.length
    · rw [if_pos h1, if_pos (by omega)]
      rw [show i - (off + j) = (i - (off + (j + 1))) + 1 by omega]
      simp
    · rw [if_neg h1]
      by_cases h2 : i = off + j
      · subst h2
        rw [if_pos (by omega), List.getElem?_set_self (by simp; omega)]
        simp
      · rw [if_neg (by omega), List.getElem?_set_ne (by omega)]

def PR (C : Ctx) : List (Nat × AV) → List (Nat × Value) → Prop
  | [], l => l = []
  | p :: ps, l => ∃ v qs, l = (p.1, v) :: qs ∧ RV C p.2 v ∧ PR C ps qs

theorem fill_ok {C : Ctx} {place : Nat → Option (Nat × Nat)} : ∀ (parts : List (Nat × AV)) (vals : List (Nat × Value)) (cs : List AV) (us : Array Value) (k : List AV → Prop),
    evFill place cs parts k → RVs C cs us.toList → PR C parts vals → ∃ cs' us', k cs' ∧ Instr.fill place us vals = some us' ∧ RVs C cs' us'.toList ∧ us'.size = us.size
  | [], _, cs, us, k, h, hr, hp => by
    simp only [PR] at hp
    subst hp
    exact ⟨cs, us, h, rfl, hr, rfl⟩
  | (i, x) :: parts, _, cs, us, k, h, hr, hp => by
    simp only [PR] at hp
    obtain ⟨v, qs, rfl, hx, hp⟩ := hp
    simp only [evFill] at h
    split at h
    · exact h.elim
    · rename_i off size hpl
      obtain ⟨ys, h, hy⟩ := cellsK_rv h hx
      split at h
      · rename_i e1 e2
        have e1' := Nat.eq_of_beq_eq_true e1
        have e2' := Nat.le_of_ble_eq_true e2
        rw [putK_eq] at h
        have l1 := hr.length
        have l2 := hy.length
        have hf := foldl_put v.cells.toList 0 off us (by simp at l1 l2 ⊢; omega)
        have hz : (v.cells.zipIdx.foldl (fun cs (c, j) => cs.setIfInBounds (off + j) c) us).toList = put us.toList off v.cells.toList := by
          rw [Nat.add_zero] at hf
          rw [← hf, ← Array.foldl_toList]
          simp
        obtain ⟨cs', us', k1, k2, k3, k4⟩ := fill_ok parts qs _ (v.cells.zipIdx.foldl (fun cs (c, j) => cs.setIfInBounds (off + j) c) us) k h (by rw [hz]; exact RVs.put hr hy (by omega)) hp
        refine ⟨cs', us', k1, ?_, k3, ?_⟩
        · simp only [Instr.fill, hpl]
          rw [if_neg (by simp at l1 l2 ⊢; omega)]
          exact k2
        · rw [k4]
          have := congrArg List.length hz
          rw [length_put] at this
          simpa using this
      · exact h.elim
end Go.Ev
