/- Generic lemmas for the rows of this seat: how arguments that are structs of ints are opened. -/
import Derived.WalkKit
import Derived.ProofKit
import Derived.Carry
import Derived.Lib.SmallJoins
import Derived.Deep.Slices
namespace Go.Proofs.YthnococjdeafhaaDoor.RowKitOwn
open Go.ChangeShapes Go.WideShapes Go.ChangeAt Go.RowKit Go.Joins Go.Deep
section
variable {H : Type} {enc : TypeId × Value → H} {P : Program} {w : World} {base : Nat} {spare : Nat → Bool} {held : Bool}
theorem mapM_at {α β : Type} {g : α → Option β} : ∀ {l : List α} {xs : List β}, l.mapM g = some xs → ∀ {i : Nat} {a : α}, l[i]? = some a → ∃ y, g a = some y
  | [], _, _, i, a, hi => by simp at hi
  | b :: l, xs, h, i, a, hi => by
    simp only [List.mapM_cons, Option.bind_eq_bind, Option.bind_eq_some_iff] at h
    obtain ⟨y, hy, ys, hys, _⟩ := h
    cases i with
    | zero => simp at hi; subst hi; exact ⟨y, hy⟩
    | succ i => exact mapM_at hys (by simpa using hi)
theorem trod_fields {t : TypeId} {fs : Array Field} {cs : Array Value} {d : DataW H} {p : List MemPlace} (hs : P.underlying t = some (.struct fs)) (h : DataW.Trod enc P w base spare held t (.agg cs) d p) :
    ∀ (i : Nat) (f : Field), fs[i]? = some f → ∃ n y, DataW.trod enc P w base spare held n f.type ((cs.toList.drop f.offset).take (P.cellsOf f.type)) = some y := by
  obtain ⟨fuel, hf⟩ := h
  cases fuel with
  | zero => simp [DataW.trod] at hf
  | succ k =>
    unfold DataW.trod at hf
    rw [hs] at hf
    replace hf : (if cs.toList.length = P.cellsOf t then (fs.toList.mapM fun f => DataW.trod enc P w base spare held k f.type ((cs.toList.drop f.offset).take (P.cellsOf f.type))).map fun xs => (DataW.agg (xs.map (·.1)), xs.flatMap (·.2)) else none) = some (d, p) := hf
    by_cases hl : cs.toList.length = P.cellsOf t
    · rw [if_pos hl] at hf
      simp only [Option.map_eq_some_iff] at hf
      obtain ⟨xs, hx, _⟩ := hf
      intro i f hi
      have hi' : fs.toList[i]? = some f := by simpa using hi
      exact ⟨k, mapM_at hx hi'⟩
    · rw [if_neg hl] at hf
      exact absurd hf (by simp)
/-- A struct of ints by value: its cells are ints, each well formed. -/
theorem open_intStruct {r : Reach} {b0 : Nat} {t : TypeId} {fs : Array Field} {v : Value} {d : DataW H} {p : List MemPlace} (hs : P.underlying t = some (.struct fs)) (hone : oneCellFields P fs = true) (hC : P.cellsOf t = fs.size)
    (hk0 : fs.toList.map (fun f => P.underlying f.type) = List.replicate fs.size (some (.int .i64)))
    (hv : Value.okWide P w r b0 t v) (h : DataW.Trod enc P w base spare held t v d p) :
    ∃ zs : List Int, zs.length = fs.size ∧ v = .agg (zs.map (Value.int .i64)).toArray ∧ ∀ a ∈ zs, (Lit.int .i64 a).wf = true := by
  have hk : ∀ (i : Nat) (f : Field), fs[i]? = some f → P.underlying f.type = some (.int .i64) := by
    intro i f hi
    have h1 : (fs.toList.map (fun f => P.underlying f.type))[i]? = some (P.underlying f.type) := by
      rw [List.getElem?_map, show fs.toList[i]? = some f by simpa using hi]; rfl
    rw [hk0] at h1
    exact (List.eq_of_mem_replicate (List.mem_of_getElem? h1))
  obtain ⟨cs, rfl, hsz⟩ := okWide_struct hs hv
  have hsz' : cs.size = fs.size := hsz.trans hC
  have key : ∀ (i : Nat) (c : Value), cs[i]? = some c → ∃ a, c = .int .i64 a ∧ (Lit.int .i64 a).wf = true := by
    intro i c hi
    have hlt : i < cs.size := by
      rcases Nat.lt_or_ge i cs.size with h | h
      · exact h
      · simp [Array.getElem?_eq_none h] at hi
    have hf : fs[i]? = some (fs[i]'(by omega)) := Array.getElem?_eq_getElem (by omega)
    obtain ⟨o0, k0⟩ := hone_of hone i _ hf
    obtain ⟨n, y, hy⟩ := trod_fields hs h i _ hf
    rw [o0, k0] at hy
    obtain ⟨a, ea, _, wa⟩ := DataW.trod_int (hk i _ hf) hy
    have e2 : (cs.toList.drop i).take 1 = [c] := by
      have : cs.toList[i]? = some c := by simpa using hi
      rw [List.drop_eq_getElem_cons (by simpa using hlt)]
      simp only [List.take_succ_cons, List.take_zero]
      rw [List.getElem?_eq_getElem (by simpa using hlt)] at this
      injection this with this
      rw [this]
    rw [e2] at ea
    injection ea with ea
    exact ⟨a, ea, wa⟩
  obtain ⟨l⟩ := cs
  have gen : ∀ l : List Value, (∀ (i : Nat) (c : Value), l[i]? = some c → ∃ a, c = .int .i64 a ∧ (Lit.int .i64 a).wf = true) → ∃ zs : List Int, l = zs.map (Value.int .i64) ∧ ∀ a ∈ zs, (Lit.int .i64 a).wf = true := by
    intro l
    induction l with
    | nil => exact fun _ => ⟨[], rfl, by simp⟩
    | cons c l ih =>
      intro hkey
      obtain ⟨a, rfl, wa⟩ := hkey 0 c rfl
      obtain ⟨zs, rfl, wzs⟩ := ih (fun i c hi => hkey (i + 1) c (by simpa using hi))
      exact ⟨a :: zs, rfl, by intro x hx; rcases List.mem_cons.1 hx with rfl | hx; exact wa; exact wzs x hx⟩
  obtain ⟨zs, rfl, wzs⟩ := gen l (fun i c hi => key i c (by simpa using hi))
  exact ⟨zs, by simpa using hsz', rfl, wzs⟩
theorem ints1 {zs : List Int} (h : zs.length = 1) : ∃ a, zs = [a] := by match zs, h with | [a], _ => exact ⟨a, rfl⟩
theorem ints2 {zs : List Int} (h : zs.length = 2) : ∃ a b, zs = [a, b] := by match zs, h with | [a, b], _ => exact ⟨a, b, rfl⟩
theorem ints3 {zs : List Int} (h : zs.length = 3) : ∃ a b c, zs = [a, b, c] := by match zs, h with | [a, b, c], _ => exact ⟨a, b, c, rfl⟩
theorem ints4 {zs : List Int} (h : zs.length = 4) : ∃ a b c d, zs = [a, b, c, d] := by match zs, h with | [a, b, c, d], _ => exact ⟨a, b, c, d, rfl⟩
theorem ints5 {zs : List Int} (h : zs.length = 5) : ∃ a b c d e, zs = [a, b, c, d, e] := by match zs, h with | [a, b, c, d, e], _ => exact ⟨a, b, c, d, e, rfl⟩
end

section
variable {H : Type} {enc : TypeId × Value → H} {P : Program} {w : World} {base : Nat} {spare : Nat → Bool} {held : Bool}
/-- A list of cells that reads as a struct of ints: its cells are ints. -/
theorem ints_of_cells {fs : Array Field} {t : TypeId} {n : Nat} {cs : List Value} {x : DataW H × List MemPlace} (hs : P.underlying t = some (.struct fs)) (hone : oneCellFields P fs = true) (hC : P.cellsOf t = fs.size)
    (hk0 : fs.toList.map (fun f => P.underlying f.type) = List.replicate fs.size (some (.int .i64))) (h : DataW.trod enc P w base spare held n t cs = some x) :
    ∀ j, j < fs.size → ∃ a : Int, cs[j]? = some (.int .i64 a) ∧ (Lit.int .i64 a).wf = true := by
  have hk : ∀ (i : Nat) (f : Field), fs[i]? = some f → P.underlying f.type = some (.int .i64) := by
    intro i f hi
    have h1 : (fs.toList.map (fun f => P.underlying f.type))[i]? = some (P.underlying f.type) := by
      rw [List.getElem?_map, show fs.toList[i]? = some f by simpa using hi]; rfl
    rw [hk0] at h1
    exact (List.eq_of_mem_replicate (List.mem_of_getElem? h1))
  have hcs : cs.length = fs.size := by
    cases n with
    | zero => simp [DataW.trod] at h
    | succ k =>
      unfold DataW.trod at h
      rw [hs] at h
      replace h : (if cs.length = P.cellsOf t then (fs.toList.mapM fun f => DataW.trod enc P w base spare held k f.type ((cs.drop f.offset).take (P.cellsOf f.type))).map fun xs => (DataW.agg (xs.map (·.1)), xs.flatMap (·.2)) else none) = some x := h
      by_cases hl : cs.length = P.cellsOf t
      · rw [hl, hC]
      · rw [if_neg hl] at h; cases h
  have hT : DataW.Trod enc P w base spare held t (.agg cs.toArray) x.1 x.2 := ⟨n, by simpa [Value.cells] using h⟩
  intro j hj
  have hf : fs[j]? = some (fs[j]'hj) := Array.getElem?_eq_getElem hj
  obtain ⟨o0, k0⟩ := hone_of hone j _ hf
  obtain ⟨m, y, hy⟩ := trod_fields hs hT j _ hf
  rw [o0, k0] at hy
  obtain ⟨a, ea, _, wa⟩ := DataW.trod_int (hk j _ hf) hy
  refine ⟨a, ?_, wa⟩
  have hlt : j < cs.length := by omega
  rw [List.drop_eq_getElem_cons (by simpa using hlt)] at ea
  simp only [List.take_succ_cons, List.take_zero, List.cons.injEq, and_true] at ea
  rw [List.getElem?_eq_getElem hlt]
  simpa using ea

/-- A slice of structs of ints that came in: its cells are ints. -/
theorem open_intStructs {t e : TypeId} {fs : Array Field} {r : Reach} {b0 : Nat} {v : Value} {d : DataW H} {p : List MemPlace} (ht : P.underlying t = some (.slice e)) (hs : P.underlying e = some (.struct fs)) (hone : oneCellFields P fs = true) (hC : P.cellsOf e = fs.size)
    (hk0 : fs.toList.map (fun f => P.underlying f.type) = List.replicate fs.size (some (.int .i64))) (hpos : 0 < fs.size) (hsp : ∀ b, spare b = true)
    (hv : Value.okWide P w r b0 t v) (h : DataW.Trod enc P w base spare held t v d p) :
    ∃ (ao : Option Addr) (len cap : Nat) (z : Nat → Nat → Int), v = .slice ao len cap ∧ len ≤ cap ∧ cap ≤ maxLen ∧ (ao = none → len = 0 ∧ cap = 0) ∧
      (0 < len → ∃ b off, ao = some ⟨b, off, none⟩ ∧ b < w.heap.size ∧ ∀ i, i < len → ∀ j, j < fs.size → w.cell? ⟨b, off + i * fs.size + j, none⟩ = some (.int .i64 (z i j)) ∧ (Lit.int .i64 (z i j)).wf = true) := by
  obtain ⟨ao, len, cap, rfl⟩ := okWide_slice ht hv
  obtain ⟨fuel, hf⟩ := h
  rcases open_slice ht hf with ⟨hcs, _⟩ | ⟨a, len', cap', m, n, D, Pl, hcs, hb, hl, hm, hmm, _, hel⟩
  · simp only [Value.cells, List.cons.injEq, Value.slice.injEq, and_true] at hcs
    obtain ⟨rfl, rfl, rfl⟩ := hcs
    exact ⟨none, 0, 0, fun _ _ => 0, rfl, Nat.le_refl _, Nat.zero_le _, fun _ => ⟨rfl, rfl⟩, fun h => absurd h (by omega)⟩
  · simp only [Value.cells, List.cons.injEq, Value.slice.injEq, and_true] at hcs
    obtain ⟨rfl, rfl, rfl⟩ := hcs
    rw [hsp] at hmm
    simp only [if_true] at hmm
    subst hmm
    have key : ∀ i, i < len → ∀ j, j < fs.size → ∃ x : Int, w.cell? ((a.add (i * fs.size)).add j) = some (.int .i64 x) ∧ (Lit.int .i64 x).wf = true := by
      intro i hi j hj
      obtain ⟨cs', hc, ht'⟩ := hel i (by omega)
      obtain ⟨x, hx, wx⟩ := ints_of_cells hs hone hC hk0 ht' j hj
      obtain ⟨_, _, hcell⟩ := World.cells?_some hc
      rw [hC] at hcell
      exact ⟨x, by rw [← hx]; exact hcell j hj, wx⟩
    refine ⟨some a, len, m, fun i j => if h : i < len ∧ j < fs.size then (key i h.1 j h.2).choose else 0, rfl, hl, hm, (fun h => by cases h), fun hpos' => ?_⟩
    obtain ⟨x0, hx0, _⟩ := key 0 hpos' 0 hpos
    have hsp0 : a.spot = none := by
      cases hsx : a.spot with
      | none => rfl
      | some s =>
        exfalso
        have : ((a.add (0 * fs.size)).add 0).spot.isSome = true := by simp [Addr.add, hsx]
        unfold World.cell? at hx0
        split at hx0
        · rw [if_pos this] at hx0; cases hx0
        · cases hx0
    obtain ⟨b, off, sp⟩ := a
    simp only at hsp0
    subst hsp0
    have hblt : b < w.heap.size := by
      have := World.block_lt_of_cell? _ _ hx0
      simpa [Addr.add] using this
    refine ⟨b, off, rfl, hblt, fun i hi j hj => ?_⟩
    have e := (key i hi j hj).choose_spec
    simp only [dif_pos (show i < len ∧ j < fs.size from ⟨hi, hj⟩)]
    have ea : (((⟨b, off, none⟩ : Addr).add (i * fs.size)).add j) = ⟨b, off + i * fs.size + j, none⟩ := by
      unfold Addr.add; split <;> split <;> simp_all
    exact ⟨by rw [← ea]; exact e.1, e.2⟩
end
end Go.Proofs.YthnococjdeafhaaDoor.RowKitOwn
