/- What calls use: the table that the row lists, cell by cell. -/
import Derived.Test.YthnococjdeafhaaDoorRows
import Derived.Test.YthnococjdeafhaaDoorProg
import Derived.LaidLaws
import Derived.ChangeArms
import Derived.MakeChecks
import Derived.LaidMore
import Derived.KernelRfl
import Derived.Lib.LaidTab
import Derived.WalkKit
import Derived.ProofKit
import Derived.OpenShut
import Derived.ShutString
import Derived.ChangeOld
import Derived.Carry
namespace Go.Proofs.YthnococjdeafhaaDoor.RowLaid
open Go.ChangeShapes Go.WideShapes Go.ChangeAt Go.RowKit Go
def tab : List Bool := [false, false, false, false, true, false, false, false, true, true, false, false, true, true, false, false, true, true, true, false, true, false, false, false, true, false, false, false, false, false, false, false, false, false, false, true, true, false, false, true, false, false, false, true, true, false, false, true, false, false, false, true, false, false, false, false]
theorem datum : (Rows.laid_boscage_call_used : DataW Unit) = .agg ((List.range 14).map fun j => .agg ((List.range 4).map fun r => .lit (.bool (tab.getD (4 * j + r) false)))) := rfl
section
variable {P : Program} {w : World} {n : Nat} {t e : TypeId} {cs : List Value} {d : DataW Unit} {p : List MemPlace}
theorem array_at (ht : P.underlying t = some (.array n e)) {fuel : Nat} (h : DataW.trod (fun _ => ()) P w 0 (fun _ => true) false fuel t cs = some (d, p)) :
    ∃ m, ∃ xs : List (DataW Unit × List MemPlace), d = .agg (xs.map (·.1)) ∧ ∀ j : Nat, j < n → ∃ x, xs[j]? = some x ∧ DataW.trod (fun _ => ()) P w 0 (fun _ => true) false m e ((cs.drop (j * P.cellsOf e)).take (P.cellsOf e)) = some x := by
  cases fuel with
  | zero => simp [DataW.trod] at h
  | succ m =>
    simp only [DataW.trod, ht] at h
    split at h
    · obtain ⟨xs, hm, hx⟩ := Option.map_eq_some_iff.1 h
      refine ⟨m, xs, ?_, fun j hj => ?_⟩
      · have := congrArg Prod.fst hx
        exact this.symm
      · obtain ⟨x, h1, h2⟩ := Go.Lib.mapM_at hm j j (by simp [hj])
        exact ⟨x, h1, h2⟩
    · cases h
theorem struct_at {fs : Array Field} (hs : P.underlying t = some (.struct fs)) {fuel : Nat} (h : DataW.trod (fun _ => ()) P w 0 (fun _ => true) false fuel t cs = some (d, p)) :
    ∃ m, ∃ xs : List (DataW Unit × List MemPlace), d = .agg (xs.map (·.1)) ∧ ∀ (i : Nat) (f : Field), fs[i]? = some f → ∃ x, xs[i]? = some x ∧ DataW.trod (fun _ => ()) P w 0 (fun _ => true) false m f.type ((cs.drop f.offset).take (P.cellsOf f.type)) = some x := by
  cases fuel with
  | zero => simp [DataW.trod] at h
  | succ m =>
    unfold DataW.trod at h
    rw [hs] at h
    replace h : (if cs.length = P.cellsOf t then (fs.toList.mapM fun f => DataW.trod (fun _ => ()) P w 0 (fun _ => true) false m f.type ((cs.drop f.offset).take (P.cellsOf f.type))).map fun xs => (DataW.agg (xs.map (·.1)), xs.flatMap (·.2)) else none) = some (d, p) := h
    split at h
    · obtain ⟨xs, hm, hx⟩ := Option.map_eq_some_iff.1 h
      refine ⟨m, xs, ?_, fun i f hf => ?_⟩
      · have := congrArg Prod.fst hx
        exact this.symm
      · obtain ⟨x, h1, h2⟩ := Go.Lib.mapM_at hm i f (by simpa using hf)
        exact ⟨x, h1, h2⟩
    · cases h
end
theorem gT : Tryd.prog.globalNamed "boscage/call.used" = some 0 := by kernel_rfl
theorem gTType : (Tryd.prog.globals[0]?).map (·.type) = some 95 := by kernel_rfl
set_option maxRecDepth 100000 in
theorem laid_cells {W : World} (h : laidMet Tryd.prog [("boscage/call.used", Rows.laid_boscage_call_used)] W) : ∀ i, i < 56 → W.cell? ⟨0, i, none⟩ = some (.bool (tab.getD i false)) := by
  obtain ⟨ps, ⟨g', t', cs, fuel, p, q, hg', ht', hvar, hd, _, _⟩, _⟩ := h
  obtain rfl := Option.some.inj (gT.symm.trans hg')
  obtain rfl := Option.some.inj (gTType.symm.trans ht')
  rw [datum] at hd
  obtain ⟨m, xs, e1, hx⟩ := array_at Tryd.underlying95 hd
  injection e1 with e1
  have hce : Tryd.prog.cellsOf 94 = 4 := by kernel_rfl
  intro i hi
  obtain ⟨x, hxj, htr⟩ := hx (i / 4) (by omega)
  rw [hce] at htr
  have ex : x.1 = .agg ((List.range 4).map fun r => .lit (.bool (tab.getD (4 * (i / 4) + r) false))) := by
    have h1 : (xs.map (·.1))[i / 4]? = some x.1 := by rw [List.getElem?_map, hxj]; rfl
    rw [← e1, List.getElem?_map, List.getElem?_range (by omega)] at h1
    simpa using h1.symm
  obtain ⟨m2, ys, e2, hy⟩ := struct_at (d := x.1) (p := x.2) Tryd.underlying94 htr
  rw [ex] at e2
  injection e2 with e2
  have hf : ∃ f : Field, (#[{ name := "key", type := 4, offset := 0, embedded := false, tag := "", pkgPath := "boscage/call", byteOffset := 0 }, { name := "val", type := 4, offset := 1, embedded := false, tag := "", pkgPath := "boscage/call", byteOffset := 1 }, { name := "old", type := 4, offset := 2, embedded := false, tag := "", pkgPath := "boscage/call", byteOffset := 2 }, { name := "h", type := 4, offset := 3, embedded := false, tag := "", pkgPath := "boscage/call", byteOffset := 3 }] : Array Field)[i % 4]? = some f ∧ f.type = 4 ∧ f.offset = i % 4 := by
    rcases (by omega : i % 4 = 0 ∨ i % 4 = 1 ∨ i % 4 = 2 ∨ i % 4 = 3) with h | h | h | h <;> rw [h] <;> exact ⟨_, rfl, rfl, rfl⟩
  obtain ⟨f, hf, hft, hfo⟩ := hf
  obtain ⟨y, hyj, hty⟩ := hy (i % 4) f hf
  rw [hft, hfo, show Tryd.prog.cellsOf 4 = 1 by kernel_rfl] at hty
  have ey : y.1 = .lit (.bool (tab.getD (4 * (i / 4) + i % 4) false)) := by
    have h1 : (ys.map (·.1))[i % 4]? = some y.1 := by rw [List.getElem?_map, hyj]; rfl
    rw [← e2, List.getElem?_map, List.getElem?_range (by omega)] at h1
    simpa using h1.symm
  obtain ⟨b, eb, e3⟩ := DataW.trod_bool Tryd.underlying4 hty
  have eb2 : b = tab.getD i false := by
    rw [e3] at ey
    have := ey
    simp only [DataW.lit.injEq, Lit.bool.injEq] at this
    rw [this, show 4 * (i / 4) + i % 4 = i by omega]
  have hci : cs.toList[i]? = some (.bool (tab.getD i false)) := by
    have h1 := congrArg (·[0]?) eb
    simp only [List.getElem?_take, List.getElem?_drop, List.getElem?_cons_zero] at h1
    rw [if_pos (by omega), if_pos (by omega), eb2] at h1
    rw [← h1]
    congr 1
    omega
  rw [World.var?_cell gT hvar i]
  simpa using hci
end Go.Proofs.YthnococjdeafhaaDoor.RowLaid
