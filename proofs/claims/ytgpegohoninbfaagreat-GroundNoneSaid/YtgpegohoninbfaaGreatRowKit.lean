/- Generic lemmas for the rows of this seat: how arguments that are structs of ints are opened. -/
import Derived.WalkKit
import Derived.ProofKit
import Derived.Carry
import Derived.Lib.SmallJoins
namespace Go.Proofs.YtgpegohoninbfaaGreat.RowKitOwn
open Go.ChangeShapes Go.WideShapes Go.ChangeAt Go.RowKit Go.Joins Go.Deep
section
variable {H : Type} {enc : TypeId × Value → H} {P : Program} {w : World} {base : Nat} {spare : Nat → Bool} {held : Bool}
theorem mapM_at {α β : Type} {g : α → Option β} : ∀ {l : List α} {xs : List β}, l.mapM g = some xs → ∀ {i : Nat} {a : α}, l[i]? = some a → ∃ y, g a = some y
  | [], _, _, i, a, hi => by simp at hi
  | b :: l, xs, h, i, a, hi => by
    simp only [List.mapM_cons, Option.bind_eq_bind, Option.bind_eq_some_iff] at h
    obtain ⟨y, hy, ys, hys, _⟩ := h
    cases i with
    | zero => simp at hi; subst hi; exact ⟨y, hy⟩
    | succ i => exact mapM_at hys (by simpa using hi)
theorem trod_fields {t : TypeId} {fs : Array Field} {cs : Array Value} {d : DataW H} {p : List MemPlace} (hs : P.underlying t = some (.struct fs)) (h : DataW.Trod enc P w base spare held t (.agg cs) d p) :
    ∀ (i : Nat) (f : Field), fs[i]? = some f → ∃ n y, DataW.trod enc P w base spare held n f.type ((cs.toList.drop f.offset).take (P.cellsOf f.type)) = some y := by
  obtain ⟨fuel, hf⟩ := h
  cases fuel with
  | zero => simp [DataW.trod] at hf
  | succ k =>
    unfold DataW.trod at hf
    rw [hs] at hf
    replace hf : (if cs.toList.length = P.cellsOf t then (fs.toList.mapM fun f => DataW.trod enc P w base spare held k f.type ((cs.toList.drop f.offset).take (P.cellsOf f.type))).map fun xs => (DataW.agg (xs.map (·.1)), xs.flatMap (·.2)) else none) = some (d, p) := hf
    by_cases hl : cs.toList.length = P.cellsOf t
    · rw [if_pos hl] at hf
      simp only [Option.map_eq_some_iff] at hf
      obtain ⟨xs, hx, _⟩ := hf
      intro i f hi
      have hi' : fs.toList[i]? = some f := by simpa using hi
      exact ⟨k, mapM_at hx hi'⟩
    · rw [if_neg hl] at hf
      exact absurd hf (by simp)
/-- A struct of ints by value: its cells are ints, each well formed. -/
theorem open_intStruct {r : Reach} {b0 : Nat} {t : TypeId} {fs : Array Field} {v : Value} {d : DataW H} {p : List MemPlace} (hs : P.underlying t = some (.struct fs)) (hone : oneCellFields P fs = true) (hC : P.cellsOf t = fs.size)
    (hk0 : fs.toList.map (fun f => P.underlying f.type) = List.replicate fs.size (some (.int .i64)))
    (hv : Value.okWide P w r b0 t v) (h : DataW.Trod enc P w base spare held t v d p) :
    ∃ zs : List Int, zs.length = fs.size ∧ v = .agg (zs.map (Value.int .i64)).toArray ∧ ∀ a ∈ zs, (Lit.int .i64 a).wf = true := by
  have hk : ∀ (i : Nat) (f : Field), fs[i]? = some f → P.underlying f.type = some (.int .i64) := by
    intro i f hi
    have h1 : (fs.toList.map (fun f => P.underlying f.type))[i]? = some (P.underlying f.type) := by
      rw [List.getElem?_map, show fs.toList[i]? = some f by simpa using hi]; rfl
    rw [hk0] at h1
    exact (List.eq_of_mem_replicate (List.mem_of_getElem? h1))
  obtain ⟨cs, rfl, hsz⟩ := okWide_struct hs hv
  have hsz' : cs.size = fs.size := hsz.trans hC
  have key : ∀ (i : Nat) (c : Value), cs[i]? = some c → ∃ a, c = .int .i64 a ∧ (Lit.int .i64 a).wf = true := by
    intro i c hi
    have hlt : i < cs.size := by
      rcases Nat.lt_or_ge i cs.size with h | h
      · exact h
      · simp [Array.getElem?_eq_none h] at hi
    have hf : fs[i]? = some (fs[i]'(by omega)) := Array.getElem?_eq_getElem (by omega)
    obtain ⟨o0, k0⟩ := hone_of hone i _ hf
    obtain ⟨n, y, hy⟩ := trod_fields hs h i _ hf
    rw [o0, k0] at hy
    obtain ⟨a, ea, _, wa⟩ := DataW.trod_int (hk i _ hf) hy
    have e2 : (cs.toList.drop i).take 1 = [c] := by
      have : cs.toList[i]? = some c := by simpa using hi
      rw [List.drop_eq_getElem_cons (by simpa using hlt)]
      simp only [List.take_succ_cons, List.take_zero]
      rw [List.getElem?_eq_getElem (by simpa using hlt)] at this
      injection this with this
      rw [this]
    rw [e2] at ea
    injection ea with ea
    exact ⟨a, ea, wa⟩
  obtain ⟨l⟩ := cs
  have gen : ∀ l : List Value, (∀ (i : Nat) (c : Value), l[i]? = some c → ∃ a, c = .int .i64 a ∧ (Lit.int .i64 a).wf = true) → ∃ zs : List Int, l = zs.map (Value.int .i64) ∧ ∀ a ∈ zs, (Lit.int .i64 a).wf = true := by
    intro l
    induction l with
    | nil => exact fun _ => ⟨[], rfl, by simp⟩
    | cons c l ih =>
      intro hkey
      obtain ⟨a, rfl, wa⟩ := hkey 0 c rfl
      obtain ⟨zs, rfl, wzs⟩ := ih (fun i c hi => hkey (i + 1) c (by simpa using hi))
      exact ⟨a :: zs, rfl, by intro x hx; rcases List.mem_cons.1 hx with rfl | hx; exact wa; exact wzs x hx⟩
  obtain ⟨zs, rfl, wzs⟩ := gen l (fun i c hi => key i c (by simpa using hi))
  exact ⟨zs, by simpa using hsz', rfl, wzs⟩
theorem ints1 {zs : List Int} (h : zs.length = 1) : ∃ a, zs = [a] := by match zs, h with | [a], _ => exact ⟨a, rfl⟩
theorem ints2 {zs : List Int} (h : zs.length = 2) : ∃ a b, zs = [a, b] := by match zs, h with | [a, b], _ => exact ⟨a, b, rfl⟩
theorem ints3 {zs : List Int} (h : zs.length = 3) : ∃ a b c, zs = [a, b, c] := by match zs, h with | [a, b, c], _ => exact ⟨a, b, c, rfl⟩
theorem ints4 {zs : List Int} (h : zs.length = 4) : ∃ a b c d, zs = [a, b, c, d] := by match zs, h with | [a, b, c, d], _ => exact ⟨a, b, c, d, rfl⟩
theorem ints5 {zs : List Int} (h : zs.length = 5) : ∃ a b c d e, zs = [a, b, c, d, e] := by match zs, h with | [a, b, c, d, e], _ => exact ⟨a, b, c, d, e, rfl⟩
end
end Go.Proofs.YtgpegohoninbfaaGreat.RowKitOwn
