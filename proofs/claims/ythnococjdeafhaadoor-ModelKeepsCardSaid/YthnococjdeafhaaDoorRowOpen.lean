/- How arguments that came in are opened: a slice of structs (of ints, bools, strings, slices ..) as a list, in the printed words' own reading. -/
import Derived.Test.YthnococjdeafhaaDoorVModelKeeps
import Derived.Test.YthnococjdeafhaaDoorRowKit
import Derived.WalkKit
import Derived.ProofKit
import Derived.OpenShut
import Derived.ShutString
import Derived.ChangeOld
import Derived.Carry
import Derived.Lib.SmallJoins
import Derived.Deep.Slices
namespace Go.Proofs.YthnococjdeafhaaDoor.RowOpen
open Go.ChangeShapes Go.WideShapes Go.ChangeAt Go.RowKit Go.Joins Go.Deep Go.Proofs.YthnococjdeafhaaDoor.RowKitOwn Go.Proofs.YthnococjdeafhaaDoorW.PrintWords
section
variable {H : Type} {enc : TypeId × Value → H} {P : Program} {w : World}
/-- Whatever reads as a datum of type t is of this kind. -/
def Opens {α : Type} (enc : TypeId × Value → H) (P : Program) (w : World) (d : Kd α) (t : TypeId) : Prop :=
  ∀ n (cs : List Value) x, DataW.trod enc P w 0 (fun _ => true) true n t cs = some x → ∃ a : α, d.K w a cs
theorem opens_int {t : TypeId} {k : IntKind} (hu : P.underlying t = some (.int k)) : Opens enc P w (Kd.int k) t := by
  intro n cs x h
  obtain ⟨a, ea, _, _⟩ := DataW.trod_int hu h
  exact ⟨a, ea⟩
theorem opens_string {t : TypeId} (hu : P.underlying t = some .string) : Opens enc P w Kd.string t := by
  intro n cs x h
  obtain ⟨a, ea, _⟩ := DataW.trod_string hu h
  exact ⟨a, ea⟩
theorem opens_bool {t : TypeId} (hu : P.underlying t = some .bool) : Opens enc P w Kd.bool t := by
  intro n cs x h
  obtain ⟨a, ea, _⟩ := DataW.trod_bool hu h
  exact ⟨a, ea⟩
theorem fields_of {t : TypeId} {fs : Array Field} {n : Nat} {cs : List Value} {x : DataW H × List MemPlace} (hs : P.underlying t = some (.struct fs)) (h : DataW.trod enc P w 0 (fun _ => true) true n t cs = some x) :
    cs.length = P.cellsOf t ∧ ∀ (i : Nat) (f : Field), fs[i]? = some f → ∃ m y, DataW.trod enc P w 0 (fun _ => true) true m f.type ((cs.drop f.offset).take (P.cellsOf f.type)) = some y := by
  have hT : DataW.Trod enc P w 0 (fun _ => true) true t (.agg cs.toArray) x.1 x.2 := ⟨n, by simpa [Value.cells] using h⟩
  refine ⟨?_, fun i f hf => by simpa using trod_fields hs hT i f hf⟩
  cases n with
  | zero => simp [DataW.trod] at h
  | succ k =>
    unfold DataW.trod at h
    rw [hs] at h
    replace h : (if cs.length = P.cellsOf t then (fs.toList.mapM fun f => DataW.trod enc P w 0 (fun _ => true) true k f.type ((cs.drop f.offset).take (P.cellsOf f.type))).map fun xs => (DataW.agg (xs.map (·.1)), xs.flatMap (·.2)) else none) = some x := h
    by_cases hl : cs.length = P.cellsOf t
    · exact hl
    · rw [if_neg hl] at h; cases h
theorem list_choice {α : Type} {Q : Nat → α → Prop} : ∀ n : Nat, (∀ i, i < n → ∃ a, Q i a) → ∃ l : List α, l.length = n ∧ ∀ j p, l[j]? = some p → Q j p
  | 0, _ => ⟨[], rfl, fun j p h => by simp at h⟩
  | n + 1, h => by
    obtain ⟨l, hl, hq⟩ := list_choice n (fun i hi => h i (by omega))
    obtain ⟨a, ha⟩ := h n (by omega)
    refine ⟨l ++ [a], by simp [hl], fun j p hj => ?_⟩
    rcases Nat.lt_or_ge j l.length with h1 | h1
    · rw [List.getElem?_append_left h1] at hj; exact hq j p hj
    · rw [List.getElem?_append_right h1] at hj
      cases hd : j - l.length with
      | zero =>
        rw [hd] at hj
        simp at hj
        subst hj
        have : j = n := by omega
        rw [this]; exact ha
      | succ q => rw [hd] at hj; simp at hj
theorem rows_of {α : Type} {d : Kd α} {t e : TypeId} (ht : P.underlying t = some (.slice e)) (hC : P.cellsOf e = d.sz) (he : Opens enc P w d e) {n : Nat} {cs : List Value} {x : DataW H × List MemPlace} (h : DataW.trod enc P w 0 (fun _ => true) true n t cs = some x) :
    ∃ (A : Option Addr) (c : Nat) (l : List α), cs = [.slice A l.length c] ∧ l.length ≤ c ∧ d.C w A l.length l := by
  rcases open_slice ht h with ⟨hcs, _⟩ | ⟨a, len, cap, m, n', D, Pl, hcs, hb, hl, hm, hmm, _, hel⟩
  · exact ⟨none, 0, [], hcs, Nat.le_refl _, rfl, by simp, fun h => by simp at h⟩
  · simp only [if_true] at hmm
    subst hmm
    have key : ∀ i, i < len → ∃ (p : α) (c : List Value), c.length = d.sz ∧ d.K w p c ∧ ∀ j u, c[j]? = some u → w.cell? (a.add (i * d.sz + j)) = some u := by
      intro i hi
      obtain ⟨cs', hc, ht'⟩ := hel i (by omega)
      obtain ⟨p, hp⟩ := he _ _ _ ht'
      obtain ⟨_, hlen, hcell⟩ := World.cells?_some hc
      refine ⟨p, cs', d.K_len hp, hp, fun j u hu => ?_⟩
      have hj : j < P.cellsOf e := by
        have h1 := (List.getElem?_eq_some_iff.1 hu).1
        have h2 := d.K_len hp
        omega
      have := hcell j hj
      rw [hu, hC] at this
      rw [← this]
      congr 1
      rw [Go.Deep.add_add]
    obtain ⟨l, hll, hq⟩ := list_choice len key
    refine ⟨some a, m, l, by rw [hcs, hll], by omega, rfl, ?_, fun _ => ⟨a, rfl, fun j p hj => ?_⟩⟩
    · unfold maxLen at hm; omega
    · obtain ⟨c, h1, h2, h3⟩ := hq j p hj
      exact ⟨c, h1, h2, h3⟩
theorem opens_slice {α : Type} {d : Kd α} {t e : TypeId} (ht : P.underlying t = some (.slice e)) (hC : P.cellsOf e = d.sz) (he : Opens enc P w d e) : Opens enc P w (Kd.slice e d) t := by
  intro n cs x h
  obtain ⟨A, c, l, h1, h2, h3⟩ := rows_of ht hC he h
  exact ⟨l, A, c, h1, h2, h3⟩
/-- An argument that is a slice. -/
theorem open_arg {α : Type} {d : Kd α} {t e : TypeId} {v : Value} {x : DataW H} {p : List MemPlace} (ht : P.underlying t = some (.slice e)) (hC : P.cellsOf e = d.sz) (he : Opens enc P w d e) (h : DataW.Trod enc P w 0 (fun _ => true) true t v x p) {r : Reach} {b0 : Nat} (hv : Value.okWide P w r b0 t v) :
    ∃ (A : Option Addr) (c : Nat) (l : List α), v = .slice A l.length c ∧ l.length ≤ c ∧ d.C w A l.length l := by
  obtain ⟨ao, len, cap, rfl⟩ := okWide_slice ht hv
  obtain ⟨n, hf⟩ := h
  obtain ⟨A, c, l, h1, h2, h3⟩ := rows_of ht hC he hf
  simp only [Value.cells, List.cons.injEq, and_true] at h1
  exact ⟨A, c, l, h1, h2, h3⟩
end
end Go.Proofs.YthnococjdeafhaaDoor.RowOpen
