
/- More lemmas on rows: what is appended out of another row; a weaker base. -/
import Derived.Test.YtipdhjdlfdbkiaaDoorHeap
namespace Go.Proofs.YtipdhjdlfdbkiaaDoor.Heap
open Go.RowKit
theorem row_base {w : World} {base base' : Nat} {e : TypeId} {size : Nat} {v : Value} {n : Nat} {xs : List Value} (h : w.ownsRow base e size v n xs) (hb : base' ≤ base) : w.ownsRow base' e size v n xs := by
  obtain ⟨h1, h2⟩ := h
  refine ⟨h1, ?_⟩
  rcases h2 with h2 | ⟨g, cap, cur, hv, hg, r⟩
  · exact .inl h2
  · exact .inr ⟨g, cap, cur, hv, Nat.le_trans hb hg, r⟩
theorem news_row {w W : World} {g off : Nat} {xs : List Value} (hW : ∀ j, W.cell? ⟨g, j, none⟩ = w.cell? ⟨g, j, none⟩) (hc : ∀ j, j < xs.length → w.cell? ⟨g, off + j, none⟩ = xs[j]?) :
    ∀ j u, xs[j]? = some u → W.cell? ((⟨g, off, none⟩ : Addr).add j) = some u := by
  intro j u hj
  have hlt : j < xs.length := by
    rcases Nat.lt_or_ge j xs.length with h | h
    · exact h
    · rw [List.getElem?_eq_none h] at hj; cases hj
  have e : ((⟨g, off, none⟩ : Addr).add j) = ⟨g, off + j, none⟩ := by unfold Addr.add; split <;> simp_all
  rw [e, hW, hc j hlt, hj]
theorem cell_alloc {w : World} {o : Obj} {g : Nat} (h : g < w.heap.size) : ∀ j, (w.alloc o).cell? ⟨g, j, none⟩ = w.cell? ⟨g, j, none⟩ := fun _ => World.cell?_alloc_lt _ _ _ h
theorem cell_grown {w w' : World} {row : Option Nat} (hg : w.grownBy w' row) {g : Nat} (h : g < w.heap.size) (hne : some g ≠ row) : ∀ j, w'.cell? ⟨g, j, none⟩ = w.cell? ⟨g, j, none⟩ := fun j => World.cell?_of_block (a := ⟨g, j, none⟩) (hg.block g h hne)
/-- The cells of a row that is known by its slice. -/
theorem row_cells {w : World} {base : Nat} {e : TypeId} {g n cap : Nat} {xs : List Value} (h : w.ownsRow base e 1 (.slice (some ⟨g, 0, none⟩) n cap) n xs) : ∀ j, j < n → w.cell? ⟨g, j, none⟩ = xs[j]? := fun j hj => h.cellAt j (by simpa using hj)
end Go.Proofs.YtipdhjdlfdbkiaaDoor.Heap
