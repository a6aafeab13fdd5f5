/- The mill, part B: the steps of the abstract heap. -/
import Derived.Test.YtgpegohoninbfaaGreatEvA
namespace Go.Ev
set_option linter.unusedVariables false
set_option linter.unusedSimpArgs false
open Go.RowKit
variable {A : Nat → Nat → Prop}

theorem getElem?_snoc {α : Type} (l : List α) (x : α) (i : Nat) (y : α) (h : (l ++ [x])[i]? = some y) : l[i]? = some y ∨ (i = l.length ∧ y = x) := by
  rcases Nat.lt_trichotomy i l.length with h1 | h1 | h1
  · rw [List.getElem?_append_left h1] at h; exact .inl h
  · subst h1; simp at h; exact .inr ⟨rfl, h.symm⟩
  · rw [List.getElem?_eq_none (by simp; omega)] at h; cases h

theorem get_snoc_old {α : Type} {l : List α} (x : α) {i : Nat} {y : α} (h : l[i]? = some y) : (l ++ [x])[i]? = some y := by
  rw [List.getElem?_append_left (List.getElem?_eq_some_iff.1 h).1]; exact h

theorem get_set {α : Type} (l : List α) (id i : Nat) (x y : α) (h : (l.set id x)[i]? = some y) : (i = id ∧ y = x ∧ id < l.length) ∨ (i ≠ id ∧ l[i]? = some y) := by
  by_cases e : i = id
  · subst e
    by_cases hl : i < l.length
    · rw [List.getElem?_set_self hl] at h; exact .inl ⟨rfl, (Option.some.inj h).symm, hl⟩
    · rw [List.getElem?_eq_none (by simp; omega)] at h; cases h
  · rw [List.getElem?_set_ne (Ne.symm e)] at h; exact .inr ⟨e, h⟩

section
variable {r : List (Option Nat)} {H : AHeap} {w : World}

/-- A draw. -/
theorem le_drew (r : List (Option Nat)) (H : AHeap) (w : World) : Le (ctx A r H w) (ctx A r H w.drew) :=
  ⟨fun _ _ h => h, fun _ _ _ h _ => h, fun _ vs _ _ h => ⟨vs, h, rfl⟩, fun _ _ _ h => h, Nat.le_refl _, fun _ _ h => h, fun _ _ _ => rfl, rfl, rfl, rfl⟩

theorem inv_drew (h : Inv A r H w) : Inv A r H w.drew :=
  ⟨h.len, fun id x b hx hb => ObjOK.mono (le_drew r H w) (fun _ _ _ => rfl) (h.obj id x b hx hb), h.inj, amb_mono (le_drew r H w) h.amb⟩

/-- The same world; less is owned. -/
theorem le_less {H' : AHeap} (hf : ∀ (i : Nat) (x' : AObj), H'[i]? = some x' → ∃ x, H[i]? = some x ∧ (x'.live → x.live) ∧ ∀ o, x'.free o → x.free o) : Le (ctx A r H w) (ctx A r H' w) := by
  refine ⟨fun _ _ h => h, fun _ _ _ h _ => h, fun _ vs _ _ h => ⟨vs, h, rfl⟩, ?_, Nat.le_refl _, ?_, fun _ _ _ => rfl, rfl, rfl, rfl⟩
  · rintro b o _ (⟨id, x', h1, h2, h3⟩ | ha)
    · obtain ⟨x, e1, _, e3⟩ := hf id x' h1
      exact .inl ⟨id, x, e1, h2, e3 o h3⟩
    · exact .inr ha
  · rintro b _ ⟨id, x', h1, h2, h3⟩
    obtain ⟨x, e1, e2, _⟩ := hf id x' h1
    exact ⟨id, x, e1, h2, e2 h3⟩

/-- A new block. -/
theorem le_new (h : Inv A r H w) (o : Obj) (x : AObj) : Le (ctx A r H w) (ctx A (r ++ [some w.heap.size]) (H ++ [x]) (w.alloc o)) := by
  have hl := h.len
  have back : ∀ (id : Nat) (y : AObj) (b : Nat), b < w.heap.size → (H ++ [x])[id]? = some y → (r ++ [some w.heap.size])[id]? = some (some b) → H[id]? = some y ∧ r[id]? = some (some b) := by
    intro id y b hb h1 h2
    rcases getElem?_snoc _ _ _ _ h1 with e | ⟨e, rfl⟩
    · rcases getElem?_snoc _ _ _ _ h2 with e' | ⟨e', _⟩
      · exact ⟨e, e'⟩
      · have := (List.getElem?_eq_some_iff.1 e).1; omega
    · rcases getElem?_snoc _ _ _ _ h2 with e' | ⟨_, e'⟩
      · have := (List.getElem?_eq_some_iff.1 e').1; omega
      · have := Option.some.inj e'; omega
  refine ⟨fun id b hb => get_snoc_old _ hb, ?_, ?_, ?_, ?_, ?_, ?_, rfl, rfl, rfl⟩
  · intro b o v hv _
    show (w.alloc _).cell? _ = _
    rw [World.cell?_alloc_lt]; exact hv
    exact cell_lt hv
  · intro b vs t f hb
    exact ⟨vs, (Below.heap_alloc w o b (lt_of_block (w := w) hb)).trans hb, rfl⟩
  · rintro b o' hb (⟨id, y, h1, h2, h3⟩ | ha)
    · obtain ⟨e1, e2⟩ := back id y b hb h1 h2
      exact .inl ⟨id, y, e1, e2, h3⟩
    · exact .inr ha
  · show w.heap.size ≤ (w.alloc o).heap.size
    simp
  · rintro b hb ⟨id, y, h1, h2, h3⟩
    obtain ⟨e1, e2⟩ := back id y b hb h1 h2
    exact ⟨id, y, e1, e2, h3⟩
  · intro b hb _
    exact Below.heap_alloc _ _ _ hb

theorem inv_new (h : Inv A r H w) (o : Obj) (x : AObj) (hx : ObjOK (ctx A (r ++ [some w.heap.size]) (H ++ [x]) (w.alloc o)) (some w.heap.size) x) :
    Inv A (r ++ [some w.heap.size]) (H ++ [x]) (w.alloc o) := by
  have hl := h.len
  have hle := le_new h o x
  refine ⟨by simp [hl], ?_, ?_, amb_mono hle h.amb⟩
  · intro id y b h1 h2
    rcases getElem?_snoc _ _ _ _ h1 with e | ⟨e, rfl⟩
    · rcases getElem?_snoc _ _ _ _ h2 with e' | ⟨e', _⟩
      · have hy := h.obj id y b e e'
        refine ObjOK.mono hle (fun k hk hlive => ?_) hy
        subst hk
        exact Below.heap_alloc _ _ _ (ObjOK.lt hy hlive)
      · have := (List.getElem?_eq_some_iff.1 e).1; omega
    · rcases getElem?_snoc _ _ _ _ h2 with e' | ⟨_, e'⟩
      · have := (List.getElem?_eq_some_iff.1 e').1; omega
      · subst e'; exact hx
  · intro i j a b k h1 h2 l1 l2 r1 r2
    rcases getElem?_snoc _ _ _ _ h1 with e | ⟨e, rfl⟩ <;> rcases getElem?_snoc _ _ _ _ h2 with f | ⟨f, rfl⟩
    · rcases getElem?_snoc _ _ _ _ r1 with e' | ⟨e', _⟩
      · rcases getElem?_snoc _ _ _ _ r2 with f' | ⟨f', _⟩
        · exact h.inj i j a b k e f l1 l2 e' f'
        · have := (List.getElem?_eq_some_iff.1 f).1; omega
      · have := (List.getElem?_eq_some_iff.1 e).1; omega
    · rcases getElem?_snoc _ _ _ _ r1 with e' | ⟨e', _⟩
      · rcases getElem?_snoc _ _ _ _ r2 with f' | ⟨_, f'⟩
        · have := (List.getElem?_eq_some_iff.1 f').1; omega
        · have hk := Option.some.inj f'
          have := ObjOK.lt (h.obj i a _ e e') l1
          have : k < w.heap.size := this
          omega
      · have := (List.getElem?_eq_some_iff.1 e).1; omega
    · rcases getElem?_snoc _ _ _ _ r2 with f' | ⟨f', _⟩
      · rcases getElem?_snoc _ _ _ _ r1 with e' | ⟨_, e'⟩
        · have := (List.getElem?_eq_some_iff.1 e').1; omega
        · have hk := Option.some.inj e'
          have := ObjOK.lt (h.obj j b _ f f') l2
          have : k < w.heap.size := this
          omega
      · have := (List.getElem?_eq_some_iff.1 f).1; omega
    · omega

/-- One object's block is written. -/
theorem le_block {w' : World} {id b : Nat} {x x' : AObj} {vs vs' : List Value} {t : TypeId} {f : Nat × Nat} (hx : H[id]? = some x) (hr : r[id]? = some (some b)) (hlive : x.live)
    (hb : w.heap[b]? = some (.cells vs.toArray t f)) (hb' : w'.heap[b]? = some (.cells vs'.toArray t f)) (hlen : vs'.length = vs.length) (hsame : ∀ o, ¬ x.free o → vs'[o]? = vs[o]?)
    (hother : ∀ k, k ≠ b → w'.heap[k]? = w.heap[k]?) (hsz : w'.heap.size = w.heap.size) (ho : w'.os = w.os) (ht : w'.tape = w.tape) (hou : w'.output = w.output) (hsub : ∀ o, x'.free o → x.free o) :
    Le (ctx A r H w) (ctx A r (H.set id x') w') := by
  refine ⟨fun _ _ h => h, ?_, ?_, ?_, by show w.heap.size ≤ w'.heap.size; omega, ?_, ?_, ho, ht, hou⟩
  · intro k o v hv hw
    show w'.cell? _ = _
    by_cases e : k = b
    · subst e
      have hv' : vs[o]? = some v := by
        have : w.cell? ⟨k, o, none⟩ = some v := hv
        simpa [World.cell?, hb] using this
      have : ¬ x.free o := fun hf => hw (.inl ⟨id, x, hx, hr, hf⟩)
      simp [World.cell?, hb', hsame o this, hv']
    · have : w.cell? ⟨k, o, none⟩ = some v := hv
      simpa [World.cell?, hother k e] using this
  · intro k us t' f' hk
    by_cases e : k = b
    · subst e
      have e2 : some (Obj.cells vs.toArray t f) = some (.cells us t' f') := hb.symm.trans hk
      cases e2
      exact ⟨vs'.toArray, hb', by simp [hlen]⟩
    · exact ⟨us, (hother k e).trans hk, rfl⟩
  · rintro k o _ (⟨i, y, h1, h2, h3⟩ | ha)
    · rcases get_set _ _ _ _ _ h1 with ⟨rfl, rfl, _⟩ | ⟨_, e⟩
      · exact .inl ⟨i, x, hx, h2, hsub o h3⟩
      · exact .inl ⟨i, y, e, h2, h3⟩
    · exact .inr ha
  · rintro k _ ⟨i, y, h1, h2, h3⟩
    rcases get_set _ _ _ _ _ h1 with ⟨rfl, rfl, _⟩ | ⟨_, e⟩
    · exact ⟨i, x, hx, h2, hlive⟩
    · exact ⟨i, y, e, h2, h3⟩
  · intro k _ hno
    refine hother k fun e => hno ?_
    subst e
    exact ⟨id, x, hx, hr, hlive⟩

theorem inv_block (h : Inv A r H w) {w' : World} {id b : Nat} {x x' : AObj} (hx : H[id]? = some x) (hr : r[id]? = some (some b)) (hlive : x.live)
    (hle : Le (ctx A r H w) (ctx A r (H.set id x') w')) (hother : ∀ k, k ≠ b → w'.heap[k]? = w.heap[k]?) (hx' : ObjOK (ctx A r (H.set id x') w') (some b) x') :
    Inv A r (H.set id x') w' := by
  refine ⟨by simp [h.len], ?_, ?_, amb_mono hle h.amb⟩
  · intro i y c h1 h2
    rcases get_set _ _ _ _ _ h1 with ⟨rfl, rfl, _⟩ | ⟨e, e'⟩
    · rw [hr] at h2; cases h2; exact hx'
    · refine ObjOK.mono hle (fun k hk hl => hother k fun hkb => e ?_) (h.obj i y c e' h2)
      subst hk hkb
      exact h.inj i id y x k e' hx hl hlive h2 hr
  · intro i j y z k h1 h2 l1 l2 r1 r2
    have f : ∀ (i : Nat) (y : AObj), (H.set id x')[i]? = some y → y.live → r[i]? = some (some k) → ∃ y', H[i]? = some y' ∧ y'.live := by
      intro i y h1 l1 r1
      rcases get_set _ _ _ _ _ h1 with ⟨rfl, rfl, _⟩ | ⟨e, e'⟩
      · exact ⟨x, hx, hlive⟩
      · exact ⟨y, e', l1⟩
    obtain ⟨y', a1, a2⟩ := f i y h1 l1 r1
    obtain ⟨z', b1, b2⟩ := f j z h2 l2 r2
    exact h.inj i j y' z' k a1 b1 a2 b2 r1 r2

/-- An object is given up. -/
theorem inv_kill (h : Inv A r H w) (id : Nat) : Le (ctx A r H w) (ctx A r (H.set id .dead) w) ∧ Inv A r (H.set id .dead) w := by
  have hle : Le (ctx A r H w) (ctx A r (H.set id .dead) w) := le_less (fun i y h1 => by
    rcases get_set _ _ _ _ _ h1 with ⟨rfl, rfl, hl⟩ | ⟨_, e⟩
    · exact ⟨H[i], List.getElem?_eq_getElem hl, fun h => h.elim, fun _ h => h.elim⟩
    · exact ⟨y, e, fun h => h, fun _ h => h⟩)
  refine ⟨hle, by simp [h.len], ?_, ?_, amb_mono hle h.amb⟩
  · intro i y c h1 h2
    rcases get_set _ _ _ _ _ h1 with ⟨rfl, rfl, _⟩ | ⟨e, e'⟩
    · cases c <;> trivial
    · exact ObjOK.mono hle (fun _ _ _ => rfl) (h.obj i y c e' h2)
  · intro i j y z k h1 h2 l1 l2 r1 r2
    rcases get_set _ _ _ _ _ h1 with ⟨rfl, rfl, _⟩ | ⟨e, e'⟩
    · exact l1.elim
    · rcases get_set _ _ _ _ _ h2 with ⟨rfl, rfl, _⟩ | ⟨f, f'⟩
      · exact l2.elim
      · exact h.inj i j y z k e' f' l1 l2 r1 r2
end
end Go.Ev
