/- As RowOpen's rows_of, with what is known of each element beside it (a whole number's range). -/
import Derived.Test.YtipdhjdlfdbkiaaDoorRowOpen
namespace Go.Proofs.YtipdhjdlfdbkiaaDoor.RowOpen
open Go.ChangeShapes Go.WideShapes Go.ChangeAt Go.RowKit Go.Joins Go.Deep Go.Proofs.YtipdhjdlfdbkiaaDoor.RowKitOwn Go.Proofs.YtipdhjdlfdbkiaaDoorW.PrintWords
section
variable {H : Type} {enc : TypeId × Value → H} {P : Program} {w : World}
theorem rows_ofQ {α : Type} {d : Kd α} {t e : TypeId} (ht : P.underlying t = some (.slice e)) (hC : P.cellsOf e = d.sz) {Q : α → Prop} (he : ∀ n (cs : List Value) x, DataW.trod enc P w 0 (fun _ => true) true n e cs = some x → ∃ a : α, d.K w a cs ∧ Q a) {n : Nat} {cs : List Value} {x : DataW H × List MemPlace} (h : DataW.trod enc P w 0 (fun _ => true) true n t cs = some x) :
    ∃ (A : Option Addr) (c : Nat) (l : List α), cs = [.slice A l.length c] ∧ l.length ≤ c ∧ d.C w A l.length l ∧ ∀ (j : Nat) (p : α), l[j]? = some p → Q p := by
  rcases open_slice ht h with ⟨hcs, _⟩ | ⟨a, len, cap, m, n', D, Pl, hcs, hb, hl, hm, hmm, _, hel⟩
  · exact ⟨none, 0, [], hcs, Nat.le_refl _, ⟨rfl, by simp, fun h => by simp at h⟩, fun j p h => by simp at h⟩
  · simp only [if_true] at hmm
    subst hmm
    have key : ∀ i, i < len → ∃ (p : α) (c : List Value), c.length = d.sz ∧ (d.K w p c ∧ Q p) ∧ ∀ j u, c[j]? = some u → w.cell? (a.add (i * d.sz + j)) = some u := by
      intro i hi
      obtain ⟨cs', hc, ht'⟩ := hel i (by omega)
      obtain ⟨p, hp, hQ⟩ := he _ _ _ ht'
      obtain ⟨_, hlen, hcell⟩ := World.cells?_some hc
      refine ⟨p, cs', d.K_len hp, ⟨hp, hQ⟩, fun j u hu => ?_⟩
      have hj : j < P.cellsOf e := by
        have h1 := (List.getElem?_eq_some_iff.1 hu).1
        have h2 := d.K_len hp
        omega
      have := hcell j hj
      rw [hu, hC] at this
      rw [← this]
      congr 1
      rw [Go.Deep.add_add]
    obtain ⟨l, hll, hq⟩ := list_choice len key
    refine ⟨some a, m, l, by rw [hcs, hll], by omega, ⟨rfl, ?_, fun _ => ⟨a, rfl, fun j p hj => ?_⟩⟩, fun j p hj => ?_⟩
    · unfold maxLen at hm; omega
    · obtain ⟨c, h1, h2, h3⟩ := hq j p hj
      exact ⟨c, h1, h2.1, h3⟩
    · obtain ⟨c, h1, h2, h3⟩ := hq j p hj
      exact h2.2
end
end Go.Proofs.YtipdhjdlfdbkiaaDoor.RowOpen
