/- The mill's table of a program: what it must hold. -/
import Derived.Test.YtgpegohoninbfaaGreatEvC
import Derived.KernelRfl
namespace Go.Ev
set_option linter.unusedVariables false
set_option linter.unusedSimpArgs false
open Go.RowKit

def assocS : List (Nat × Nat × Nat) → Nat → Option (Nat × Nat)
  | [], _ => none
  | (a, l) :: r, t => match Nat.beq a t with
    | true => some l
    | false => assocS r t
def zeroT (P : Program) (t : Nat) : Option Value := match P.info? t with
  | some i => i.zero
  | none => none
def infTz (P : Program) (tsz : List (Nat × Nat × Nat)) (t : Nat) : Option (Nat × Nat × Value) :=
  match assocS tsz t with
  | some (s, b) => match zeroT P t with
    | some z => some (s, b, z)
    | none => none
  | none => none
def sizeOk (P : Program) : List (Nat × Nat × Nat) → Bool
  | [] => true
  | (t, s, b) :: r => (match P.info? t with
    | some i => match i.zero with
      | some z => Nat.beq z.cells.size s && Nat.beq i.size s && Nat.beq i.bytes b
      | none => false
    | none => false) && sizeOk P r
theorem size_of (P : Program) : ∀ (r : List (Nat × Nat × Nat)), sizeOk P r = true → ∀ t s b, assocS r t = some (s, b) → ∃ i z, P.info? t = some i ∧ i.zero = some z ∧ i.size = s ∧ i.bytes = b ∧ z.cells.size = s
  | [], _, t, s, b, h => by simp [assocS] at h
  | (a, m) :: r, hk, t, s, b, h => by
    obtain ⟨s', b'⟩ := m
    simp only [sizeOk, Bool.and_eq_true] at hk
    simp only [assocS] at h
    split at h
    · rename_i hb
      have := Nat.eq_of_beq_eq_true hb
      subst this
      cases h
      have hk1 := hk.1
      split at hk1
      · rename_i i hi
        split at hk1
        · rename_i z hz
          simp only [Bool.and_eq_true] at hk1
          exact ⟨i, z, hi, hz, Nat.eq_of_beq_eq_true hk1.1.2, Nat.eq_of_beq_eq_true hk1.2, Nat.eq_of_beq_eq_true hk1.1.1⟩
        · cases hk1
      · cases hk1
    · exact size_of P r hk.2 t s b h
def assocE : List (Nat × List (Nat × Nat)) → Nat → Option (List (Nat × Nat))
  | [], _ => none
  | (a, l) :: r, t => match Nat.beq a t with
    | true => some l
    | false => assocE r t
def eqtOk (P : Program) : List (Nat × List (Nat × Nat)) → Bool
  | [] => true
  | (t, l) :: r => (match P.underlying t with
    | some (.struct fs) => fs.toList.all (fun f => f.name != "_") && (fs.toList.map (fun f => (f.offset, f.type)) == l) && !P.stoodInHeld t && !P.eqGuardType P.depth t
    | _ => false) && eqtOk P r
theorem eqt_of (P : Program) : ∀ (r : List (Nat × List (Nat × Nat))), eqtOk P r = true → ∀ t l, assocE r t = some l → ∃ fs, P.underlying t = some (.struct fs) ∧ (∀ f ∈ fs, f.name ≠ "_") ∧ fs.toList.map (fun f => (f.offset, f.type)) = l ∧ P.stoodInHeld t = false ∧ P.eqGuardType P.depth t = false
  | [], _, t, l, h => by simp [assocE] at h
  | (a, m) :: r, hk, t, l, h => by
    simp only [eqtOk, Bool.and_eq_true] at hk
    simp only [assocE] at h
    split at h
    · rename_i hb
      have := Nat.eq_of_beq_eq_true hb
      subst this
      cases h
      have hk1 := hk.1
      split at hk1
      · rename_i fs hu
        simp only [Bool.and_eq_true, Bool.not_eq_true', beq_iff_eq, List.all_eq_true, bne_iff_ne] at hk1
        obtain ⟨⟨⟨h1, h2⟩, h3⟩, h4⟩ := hk1
        exact ⟨fs, hu, fun f hf => h1 f (by simpa using hf), h2, h3, h4⟩
      · cases hk1
    · exact eqt_of P r hk.2 t l h
def fnOk (P : Program) (f : Nat) : Bool := match P.funcs[f]? with
  | some fn => fn.body.isSome && fn.name != "runtime.NumGoroutine"
  | none => false
theorem fn_of (P : Program) {f : Nat} (h : fnOk P f = true) (args : Array Value) (w : World) : (callFunc f args).run P w = .ok (.enter f args) w := by
  unfold fnOk at h
  split at h
  · rename_i fn hf
    simp only [Bool.and_eq_true, bne_iff_ne, ne_eq] at h
    simp [callFunc, hf, h.2]
    intro hb
    rw [hb] at h
    simp at h
  · cases h


theorem tab_ok_of (P : Program) (tsz : List (Nat × Nat × Nat)) (eqts : List (Nat × List (Nat × Nat))) (glob : Nat → Option (Nat × (Nat → G))) (fn : Nat → Bool)
    (h1 : sizeOk P tsz = true) (h2 : eqtOk P eqts = true) (h3 : P.follows .mixedOrders = true) (h4 : ∀ f, fn f = true → fnOk P f = true) : Tab.OK { P := P, und := P.underlying, inf := infTz P tsz, eqt := assocE eqts, glob := glob, fn := fn } where
  und := fun t d h => h
  inf := fun t s b z h => by
    have h : infTz P tsz t = some (s, b, z) := h
    unfold infTz at h
    split at h
    · rename_i s' b' hs
      split at h
      · rename_i z' hz
        cases h
        obtain ⟨i, z'', g1, g2, g3, g4, g5⟩ := size_of _ tsz h1 t s b hs
        unfold zeroT at hz
        rw [g1] at hz
        have hz : i.zero = some z := hz
        rw [g2] at hz
        cases hz
        exact ⟨i, g1, g3, g4, g2, g5⟩
      · cases h
    · cases h
  eqt := fun t l h => eqt_of _ eqts h2 t l h
  mixed := h3
  fn := fun f h args w => fn_of P (h4 f h) args w
/-- A table out of a program. -/
noncomputable def tabOf (P : Program) (tsz : List (Nat × Nat × Nat)) (eqts : List (Nat × List (Nat × Nat))) (glob : Nat → Option (Nat × (Nat → G))) (fn : Nat → Bool) : Tab where
  P := P
  und := P.underlying
  inf := infTz P tsz
  eqt := assocE eqts
  glob := glob
  fn := fn

end Go.Ev
