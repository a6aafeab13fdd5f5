/- The mill, part X: regions, whatever the order: a load is taken first where all that writes waits for it. -/
import Derived.OrdersHeld
namespace Go.Ev
set_option linter.unusedVariables false
set_option linter.unusedSimpArgs false
section
variable {P : Program} {ops : Array Oper} {Q : Exit → Act → World → Prop}

/-- The blocks of one world stand in another one as they stood. -/
def Stood (w0 w : World) : Prop := ∀ b, b < w0.heap.size → w.heap[b]? = w0.heap[b]?
theorem Stood.refl (w : World) : Stood w w := fun _ _ => rfl

theorem Stood.trans {a b c : World} (h : Stood a b) (hs : a.heap.size ≤ b.heap.size) (k : Stood b c) : Stood a c := fun q hq => (k q (Nat.lt_of_lt_of_le hq hs)).trans (h q hq)

/-- What an operation that E does not tell does to the world: its blocks stand, and there are no fewer. -/
def Still (w w' : World) : Prop := Stood w w' ∧ w.heap.size ≤ w'.heap.size
theorem Still.refl (w : World) : Still w w := ⟨Stood.refl w, Nat.le_refl _⟩
theorem Still.trans {a b c : World} (h : Still a b) (k : Still b c) : Still a c := ⟨h.1.trans h.2 k.1, Nat.le_trans h.2 k.2⟩

/-- Whatever order is picked: operations that E does not tell leave the world's blocks as they stand. -/
def wpAnyR (P : Program) (ops : Array Oper) (Q : Exit → Act → World → Prop) (E : Nat → Bool) (Ob : Nat → World → Prop) : Nat → Array Bool → Act → World → Prop
  | 0, listed, a, w => Region.ready .any ops listed = [] ∧ Q .normal a w
  | fuel + 1, listed, a, w => (Region.ready .any ops listed = [] → Q .normal a w) ∧
    ∀ i ∈ Region.ready .any ops listed, wpOp P ops Q i (fun a' w' => ((E i = false → Still w w') ∧ (E i = true → Ob i w')) ∧ wpAnyR P ops Q E Ob fuel (listed.setIfInBounds i true) a' w') a w

theorem wpAny_of_R {E : Nat → Bool} {Ob : Nat → World → Prop} : ∀ (fuel : Nat) (listed : Array Bool) (a : Act) (w : World), wpAnyR P ops Q E Ob fuel listed a w → wpAny P .any ops Q fuel listed a w
  | 0, _, _, _, h => h
  | fuel + 1, _, _, _, h => ⟨h.1, fun i hi => wpOp_mono (fun a' w' h' => wpAny_of_R fuel _ a' w' h'.2) (h.2 i hi)⟩

theorem hnot_of {i : Nat} {oj : Oper} {listed : Array Bool} (hr : i ∈ Region.ready .any ops listed) (hall : ∀ e ∈ oj.after, Region.binds .any e = true → listed.getD e.on false = true) :
    ∀ e ∈ oj.after, Region.binds .any e = true → e.on ≠ i := fun e he hb heq => by
  have h1 := hall e he hb
  have h0 := (mem_ready.1 hr).1
  rw [heq] at h1
  rcases Nat.lt_or_ge i listed.size with h' | h'
  · simp [h'] at h0 h1; rw [h0] at h1; cases h1
  · simp [Array.getElem?_eq_none h'] at h1

theorem yi_weaken {S S' : World → Prop} {o : Oper} {v : Value} {a : Act} (h : YieldsIf P ops S o v a) (hs : ∀ w, S' w → S w) : YieldsIf P ops S' o v a :=
  h.imp (fun ⟨h1, h2⟩ => ⟨h1, fun w hw => h2 w (hs w hw)⟩) id

/-- An operation that may come up now may be taken first, if it yields its value in every world that meets I, and I stays, whatever may come ahead of it. -/
theorem wpAnyR_take {E : Nat → Bool} {Ob : Nat → World → Prop} {i : Nat} {oi : Oper} {v : Value} (hi : ops[i]? = some oi) (hEi : E i = false) (hsel : ∀ (j : Nat) (o : Oper) cs b, ops[j]? = some o → o.op ≠ .select cs b)
    (hQ : ∀ c a w, Q (.panic c) (a.put oi.dst v) w → Q (.panic c) a w) (I : World → Prop) (G : Array Bool → Prop)
    (hG : ∀ listed j, G listed → j ∈ Region.ready .any ops listed → j ≠ i → G (listed.setIfInBounds j true) ∧ ∀ w w', I w → (E j = false → Still w w') → (E j = true → Ob j w') → I w') :
    ∀ (fuel : Nat) (listed : Array Bool) (a : Act) (w : World),
      (∀ j oj, ops[j]? = some oj → j ≠ i → listed.getD j true = false → (∀ e ∈ oj.after, Region.binds .any e = true → e.on ≠ i) → oi.apart ops oj = true) →
      i ∈ Region.ready .any ops listed → YieldsIf P ops I oi v a → G listed → I w →
      wpAnyR P ops Q E Ob fuel (listed.setIfInBounds i true) (a.put oi.dst v) w → wpAnyR P ops Q E Ob (fuel + 1) listed a w := by
  intro fuel
  induction fuel with
  | zero =>
    intro listed a w _ hr hy _ hw H
    refine ⟨fun h => (by rw [h] at hr; cases hr), fun j hj => ?_⟩
    by_cases hji : j = i
    · subst hji; exact hy.wpOp hi hw ⟨⟨fun _ => Still.refl w, fun h => (by rw [hEi] at h; cases h)⟩, H⟩
    · have := ready_mono hj hji
      rw [H.1] at this
      cases this
  | succ fuel ih =>
    intro listed a w hfree hr hy hg hw H
    refine ⟨fun h => (by rw [h] at hr; cases hr), fun j hj => ?_⟩
    by_cases hji : j = i
    · subst hji; exact hy.wpOp hi hw ⟨⟨fun _ => Still.refl w, fun h => (by rw [hEi] at h; cases h)⟩, H⟩
    · have h1 := H.2 j (ready_mono hj hji)
      obtain ⟨hjun, oj, hoj, hall⟩ := mem_ready.1 hj
      have hnot := hnot_of hr hall
      obtain ⟨hg', hS⟩ := hG listed j hg hj hji
      have h2 := wpOp_putIf hoj (hfree j oj hoj hji hjun hnot) (fun cs b => hsel i oi cs b hi) (fun cs b => hsel j oj cs b hoj) hQ hy h1
      have hfree' : ∀ k ok, ops[k]? = some ok → k ≠ i → (listed.setIfInBounds j true).getD k true = false →
          (∀ e ∈ ok.after, Region.binds .any e = true → e.on ≠ i) → oi.apart ops ok = true := fun k ok hk hki hun hno => by
        refine hfree k ok hk hki ?_ hno
        by_cases hjk : j = k
        · subst hjk; exact hjun
        · rw [getD_set_ne true hjk] at hun; exact hun
      refine wpOp_mono (fun a' w' h3 => ⟨h3.2.1, ?_⟩) h2
      refine ih (listed.setIfInBounds j true) a' w' hfree' (ready_mono hr (Ne.symm hji)) h3.1 hg' (hS w w' hw h3.2.1.1 h3.2.1.2) ?_
      rw [Array.setIfInBounds_comm _ _ hji]
      exact h3.2.2
end
end Go.Ev
