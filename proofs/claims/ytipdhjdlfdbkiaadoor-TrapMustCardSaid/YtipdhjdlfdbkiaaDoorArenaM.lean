
/- The arena as a plain model: what next, Take, Free, Set do, and what holds of every arena (AM.Ok). No program, no memory. -/
import Derived.Test.YtipdhjdlfdbkiaaDoorRefs
namespace Go.Proofs.YtipdhjdlfdbkiaaDoor.ArenaM
open Go.Proofs.YtipdhjdlfdbkiaaDoor.Refs

def upd {α : Type} (f : Nat → α) (i : Nat) (x : α) : Nat → α := fun j => if j = i then x else f j
theorem upd_at {α : Type} (f : Nat → α) (i : Nat) (x : α) : upd f i x i = x := by simp [upd]
theorem upd_ne {α : Type} (f : Nat → α) {i j : Nat} (x : α) (h : j ≠ i) : upd f i x j = f j := by simp [upd, h]

/-- An arena of values of type α: how many slots; how many were ever begun; how many are used; those that were freed, the last one last; each slot's value, incarnation, mark. -/
structure AM (α : Type) where
  n : Nat
  begun : Nat
  used : Nat
  freed : List Nat
  v : Nat → α
  inc : Nat → Nat
  us : Nat → Bool

variable {α : Type}

structure AM.Ok (A : AM α) (M : Nat) : Prop where
  n_le : A.n ≤ 1000
  begun_le : A.begun ≤ A.n
  freed_lt : ∀ i, i ∈ A.freed → i < A.begun ∧ A.us i = false
  nodup : A.freed.Nodup
  count : A.used + A.freed.length = A.begun
  inc_pos : ∀ i, i < A.begun → 1 ≤ A.inc i
  inc_zero : ∀ i, A.begun ≤ i → A.inc i = 0
  inc_le : ∀ i, A.inc i ≤ M
  us_lt : ∀ i, A.us i = true → i < A.begun
  free_mem : ∀ i, i < A.begun → A.us i = false → i ∈ A.freed

def AM.init (n : Nat) (z : α) : AM α := { n, begun := 0, used := 0, freed := [], v := fun _ => z, inc := fun _ => 0, us := fun _ => false }
theorem AM.init_ok (n : Nat) (z : α) (h : n ≤ 1000) (M : Nat) : (AM.init n z).Ok M where
  n_le := h
  begun_le := by simp [AM.init]
  freed_lt := by simp [AM.init]
  nodup := by simp [AM.init]
  count := by simp [AM.init]
  inc_pos := by simp [AM.init]
  inc_zero := by simp [AM.init]
  inc_le := by simp [AM.init]
  us_lt := by simp [AM.init]
  free_mem := by simp [AM.init]

theorem AM.Ok.mono {A : AM α} {M M' : Nat} (h : A.Ok M) (hM : M ≤ M') : A.Ok M' := { h with inc_le := fun i => Nat.le_trans (h.inc_le i) hM }

/-- Slot i is taken, the freed ones and the count of the begun ones being what they then are. -/
def AM.put (A : AM α) (i : Nat) (x : α) (freed : List Nat) (begun : Nat) : AM α :=
  { A with freed, begun, used := A.used + 1, v := upd A.v i x, inc := upd A.inc i (A.inc i + 1), us := upd A.us i true }
def AM.free (A : AM α) (i : Nat) (z : α) : AM α := { A with freed := A.freed ++ [i], used := A.used - 1, v := upd A.v i z, us := upd A.us i false }
def AM.set (A : AM α) (i : Nat) (x : α) : AM α := { A with v := upd A.v i x }
/-- The reference to slot i as it is. -/
def AM.ref (A : AM α) (i : Nat) : Int := (A.inc i : Int) * 1024 + ((i : Int) + 1)
/-- Slot i is the one of the live reference r. -/
structure AM.Live (A : AM α) (r : Int) (i : Nat) : Prop where
  lt : i < A.n
  us : A.us i = true
  slot : slotI r = (i : Int) + 1
  inc : incI r = (A.inc i : Int)
def AM.Dead (A : AM α) (r : Int) : Prop := ∀ i, ¬ A.Live r i

theorem AM.live_or (A : AM α) (r : Int) : (∃ i, A.Live r i) ∨ A.Dead r := by
  by_cases h : ∃ i, A.Live r i
  · exact .inl h
  · exact .inr fun i hi => h ⟨i, hi⟩
theorem AM.Live.unique {A : AM α} {r : Int} {i j : Nat} (h : A.Live r i) (k : A.Live r j) : i = j := by have := h.slot; have := k.slot; omega

theorem AM.put_pop {A : AM α} {M : Nat} (h : A.Ok M) (l : List Nat) (i : Nat) (x : α) (hf : A.freed = l ++ [i]) : (A.put i x l A.begun).Ok (M + 1) := by
  have hi := h.freed_lt i (by rw [hf]; simp)
  have hnd := h.nodup
  rw [hf] at hnd
  have hni : i ∉ l := by
    intro hm
    rw [List.nodup_append] at hnd
    exact hnd.2.2 i hm i (by simp) rfl
  refine { n_le := h.n_le, begun_le := h.begun_le, freed_lt := ?_, nodup := ?_, count := ?_, inc_pos := ?_, inc_zero := ?_, inc_le := ?_, us_lt := ?_, free_mem := ?_ }
  · intro j hj
    have hj : j ∈ l := hj
    have hne : j ≠ i := fun e => hni (e ▸ hj)
    have := h.freed_lt j (by rw [hf]; simp [hj])
    exact ⟨this.1, by show upd A.us i true j = false; rw [upd_ne _ _ hne]; exact this.2⟩
  · rw [List.nodup_append] at hnd; exact hnd.1
  · have := h.count; rw [hf] at this; simp at this; show A.used + 1 + l.length = A.begun; omega
  · intro j hj
    show 1 ≤ upd A.inc i _ j
    by_cases e : j = i
    · subst e; rw [upd_at]; omega
    · rw [upd_ne _ _ e]; exact h.inc_pos j hj
  · intro j hj
    have hj : A.begun ≤ j := hj
    show upd A.inc i _ j = 0
    rw [upd_ne _ _ (by omega)]; exact h.inc_zero j hj
  · intro j
    show upd A.inc i _ j ≤ _
    by_cases e : j = i
    · subst e; rw [upd_at]; have := h.inc_le j; omega
    · rw [upd_ne _ _ e]; have := h.inc_le j; omega
  · intro j hj
    have hj : upd A.us i true j = true := hj
    show j < A.begun
    by_cases e : j = i
    · subst e; exact hi.1
    · rw [upd_ne _ _ e] at hj; exact h.us_lt j hj
  · intro j hj hu
    have hu : upd A.us i true j = false := hu
    show j ∈ l
    by_cases e : j = i
    · subst e; rw [upd_at] at hu; exact absurd hu (by simp)
    · rw [upd_ne _ _ e] at hu
      have := h.free_mem j hj hu
      rw [hf] at this
      simp [e] at this
      exact this

theorem AM.put_new {A : AM α} {M : Nat} (h : A.Ok M) (x : α) (hf : A.freed = []) (hb : A.begun < A.n) : (A.put A.begun x [] (A.begun + 1)).Ok (M + 1) := by
  refine { n_le := h.n_le, begun_le := hb, freed_lt := ?_, nodup := ?_, count := ?_, inc_pos := ?_, inc_zero := ?_, inc_le := ?_, us_lt := ?_, free_mem := ?_ }
  · intro j hj; cases hj
  · exact List.nodup_nil
  · have := h.count; rw [hf] at this; simp at this; show A.used + 1 + 0 = A.begun + 1; omega
  · intro j hj
    have hj : j < A.begun + 1 := hj
    show 1 ≤ upd A.inc A.begun _ j
    by_cases e : j = A.begun
    · subst e; rw [upd_at]; omega
    · rw [upd_ne _ _ e]; exact h.inc_pos j (by omega)
  · intro j hj
    have hj : A.begun + 1 ≤ j := hj
    show upd A.inc A.begun _ j = 0
    rw [upd_ne _ _ (by omega)]; exact h.inc_zero j (by omega)
  · intro j
    show upd A.inc A.begun _ j ≤ _
    by_cases e : j = A.begun
    · subst e; rw [upd_at]; have := h.inc_le A.begun; omega
    · rw [upd_ne _ _ e]; have := h.inc_le j; omega
  · intro j hj
    have hj : upd A.us A.begun true j = true := hj
    show j < A.begun + 1
    by_cases e : j = A.begun
    · omega
    · rw [upd_ne _ _ e] at hj; have := h.us_lt j hj; omega
  · intro j hj hu
    have hj : j < A.begun + 1 := hj
    have hu : upd A.us A.begun true j = false := hu
    by_cases e : j = A.begun
    · subst e; rw [upd_at] at hu; exact absurd hu (by simp)
    · rw [upd_ne _ _ e] at hu
      have := h.free_mem j (by omega) hu
      rw [hf] at this
      cases this

theorem AM.free_ok {A : AM α} {M : Nat} (h : A.Ok M) (i : Nat) (z : α) (hu : A.us i = true) : (A.free i z).Ok M := by
  have hi := h.us_lt i hu
  have hni : i ∉ A.freed := fun hm => by have := (h.freed_lt i hm).2; rw [hu] at this; cases this
  have hpos : 1 ≤ A.used := by
    -- the used slots and the freed ones are all that were begun; i is begun and not freed
    rcases Nat.eq_zero_or_pos A.used with e | e
    · exfalso
      have hc := h.count
      rw [e, Nat.zero_add] at hc
      -- freed is a nodup list of begun numbers below begun, without i
      have : (i :: A.freed).length ≤ A.begun := by
        have hn : (i :: A.freed).Nodup := List.nodup_cons.2 ⟨hni, h.nodup⟩
        have hs : ∀ x ∈ i :: A.freed, x ∈ List.range A.begun := by
          intro x hx
          rcases List.mem_cons.1 hx with rfl | hx
          · exact List.mem_range.2 hi
          · exact List.mem_range.2 (h.freed_lt x hx).1
        have := List.Nodup.length_le_of_subset hn hs
        simpa using this
      simp at this
      omega
    · exact e
  refine { n_le := h.n_le, begun_le := h.begun_le, freed_lt := ?_, nodup := ?_, count := ?_, inc_pos := h.inc_pos, inc_zero := h.inc_zero, inc_le := h.inc_le, us_lt := ?_, free_mem := ?_ }
  · intro j hj
    have hj : j ∈ A.freed ++ [i] := hj
    show j < A.begun ∧ upd A.us i false j = false
    by_cases e : j = i
    · subst e; exact ⟨hi, upd_at _ _ _⟩
    · rw [upd_ne _ _ e]
      simp [e] at hj
      exact h.freed_lt j hj
  · show (A.freed ++ [i]).Nodup
    rw [List.nodup_append]
    exact ⟨h.nodup, by simp, fun a ha b hb => by simp at hb; subst hb; exact fun e => hni (e ▸ ha)⟩
  · have := h.count; show A.used - 1 + (A.freed ++ [i]).length = A.begun; simp; omega
  · intro j hj
    have hj : upd A.us i false j = true := hj
    by_cases e : j = i
    · subst e; rw [upd_at] at hj; cases hj
    · rw [upd_ne _ _ e] at hj; exact h.us_lt j hj
  · intro j hj hu'
    have hu' : upd A.us i false j = false := hu'
    show j ∈ A.freed ++ [i]
    by_cases e : j = i
    · subst e; simp
    · rw [upd_ne _ _ e] at hu'
      have := h.free_mem j hj hu'
      simp [this]

theorem AM.used_pos {A : AM α} {M : Nat} (h : A.Ok M) (i : Nat) (z : α) (hu : A.us i = true) : 1 ≤ A.used := by
  have h1 := (AM.free_ok h i z hu).count
  have h2 := h.count
  simp [AM.free] at h1
  omega

theorem AM.set_ok {A : AM α} {M : Nat} (h : A.Ok M) (i : Nat) (x : α) : (A.set i x).Ok M := ⟨h.n_le, h.begun_le, h.freed_lt, h.nodup, h.count, h.inc_pos, h.inc_zero, h.inc_le, h.us_lt, h.free_mem⟩
theorem AM.set_live {A : AM α} {r : Int} {i j : Nat} {x : α} : (A.set i x).Live r j ↔ A.Live r j := ⟨fun h => ⟨h.lt, h.us, h.slot, h.inc⟩, fun h => ⟨h.lt, h.us, h.slot, h.inc⟩⟩

/-- The reference to a used slot is live, and is that slot's. -/
theorem AM.ref_live {A : AM α} {M : Nat} (h : A.Ok M) (hM : M ≤ 4503599627370496) (i : Nat) (hu : A.us i = true) : A.Live (A.ref i) i := by
  have hb := h.us_lt i hu
  have := h.begun_le
  have := h.n_le
  exact ⟨by omega, hu, slot_made i _ (by omega) (h.inc_pos i hb) (Nat.le_trans (h.inc_le i) hM), inc_made i _ (by omega) (h.inc_pos i hb) (Nat.le_trans (h.inc_le i) hM)⟩

/-- All live references. -/
def AM.all (A : AM α) : List Int := ((List.range A.n).filter A.us).map A.ref
end Go.Proofs.YtipdhjdlfdbkiaaDoor.ArenaM
