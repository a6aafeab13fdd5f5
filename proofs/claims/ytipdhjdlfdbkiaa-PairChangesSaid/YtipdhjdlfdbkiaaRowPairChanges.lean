/- PairChanges: for every input the law answers true, and each argument reads afterwards as it read before. No condition. -/
import Derived.Test.YtipdhjdlfdbkiaaRows
import Derived.Test.YtipdhjdlfdbkiaaPPairChangesx
import Derived.Test.YtipdhjdlfdbkiaaPurePairChanges
import Derived.Test.YtipdhjdlfdbkiaaRowOpen
import Derived.WalkKit
import Derived.ProofKit
import Derived.OpenShut
import Derived.ShutString
import Derived.ChangeOld
import Derived.Below
import Derived.Carry
import Derived.SizedLaws
import Derived.Lib.SmallJoins
import Derived.Test.YtipdhjdlfdbkiaaRowKit
namespace Go.Proofs.Ytipdhjdlfdbkiaa.pairChangesRow
open Go.ChangeShapes Go.WideShapes Go.ChangeAt Go.RowKit Go.Joins Go.Proofs.Ytipdhjdlfdbkiaa.RowKitOwn
open Go.ChangeMaps (open_string shut_string)
set_option linter.unusedVariables false
theorem own : ownKnob Try.prog.godebug = none := by kernel_rfl
theorem laidOut : laidOutB Try.prog = true := by kernel_rfl
section
open Go.Proofs.Ytipdhjdlfdbkiaa.PPairChanges Go.Proofs.YtipdhjdlfdbkiaaW.PrintWords Go.Proofs.Ytipdhjdlfdbkiaa.RowOpen
theorem cellsPair : Try.prog.cellsOf 56 = 2 := by kernel_rfl
theorem cellsStr : Try.prog.cellsOf 9 = 1 := by kernel_rfl
set_option maxRecDepth 100000 in
theorem opensPair {H : Type} {enc : TypeId × Value → H} {w : World} : Opens enc Try.prog w k56 56 := by
  intro n cs x h
  obtain ⟨hl, hf⟩ := fields_of Try.underlying56 h
  have hl2 : cs.length = 2 := hl.trans cellsPair
  obtain ⟨m0, y0, g0⟩ := hf 0 _ rfl
  obtain ⟨m1, y1, g1⟩ := hf 1 _ rfl
  obtain ⟨a0, e0⟩ := opens_string (P := Try.prog) Try.underlying9 _ _ _ g0
  obtain ⟨a1, e1⟩ := opens_string (P := Try.prog) Try.underlying9 _ _ _ g1
  change ((cs.drop 0).take (Try.prog.cellsOf 9)) = [Value.string a0] at e0
  change ((cs.drop 1).take (Try.prog.cellsOf 9)) = [Value.string a1] at e1
  rw [cellsStr] at e0 e1
  clear hf hl h g0 g1 y0 y1 m0 m1
  obtain ⟨u, v, rfl⟩ : ∃ u v, cs = [u, v] := by
    match cs, hl2 with
    | [u, v], _ => exact ⟨u, v, rfl⟩
  have h0 : [u] = [Value.string a0] := e0
  have h1 : [v] = [Value.string a1] := e1
  injection h0 with h0
  injection h1 with h1
  subst h0 h1
  exact ⟨⟨a0, a1⟩, k56_mk w ⟨a0, a1⟩⟩
set_option maxRecDepth 100000 in
theorem openPairs {H : Type} {enc : TypeId × Value → H} {base : Nat} {d : DataW H} {p : List MemPlace} {W : World} {v : Value} (hv : Value.okWide Try.prog W .any base 46 v)
    (h : DataW.Trod enc Try.prog W 0 (fun _ => true) true 46 v d p) : ∃ (A : Option Addr) (c : Nat) (l : List S56), v = .slice A l.length c ∧ l.length ≤ c ∧ Kd.C k56 W A l.length l :=
  open_arg (d := k56) (e := 56) (t := 46) Try.underlying46 (cellsPair.trans (rfl : 2 = (k56).sz)) opensPair h hv
set_option maxRecDepth 100000 in
theorem walk {H : Type} {enc : TypeId × Value → H} {base : Nat} {d0 : DataW H} {p0 : List MemPlace} (W : World) (v0 : Value) (hv0 : Value.okWide Try.prog W .any base 46 v0) (h0 : DataW.Trod enc Try.prog W 0 (fun _ => true) true 46 v0 d0 p0) (a1 : ByteArray) (_ : a1.size ≤ maxLen) (a2 : ByteArray) (_ : a2.size ≤ maxLen) :
    Calls Try.prog 7 #[v0, .string a1, .string a2] W fun e W' => e = .returned (.bool true) ∧ Below W.heap.size W W' := by
  have hx0 := openPairs (W := W) hv0 h0
  clear hv0 h0
  obtain ⟨A0, c0, l0, rfl, hc0, hr0⟩ := hx0
  exact boscagelaw07_PairChanges.calls 300 A0 c0 l0 a1 a2 true W hr0 hc0 (PurePairChanges.PairChanges l0 a1 a2)
end
set_option maxRecDepth 100000 in
theorem lifted (os : Os) (started : os.Started) (H : Type) (enc : TypeId × Value → H) :
    ReturnsInHanded {} Try.checked os 7 .any (Rows.pairChangesSpec.pre6 enc Try.prog Try.f7 Rows.pairChangesRow.domain false) (Rows.pairChangesSpec.post enc Try.prog Try.f7 false true false false) := by
  refine returnsInHanded_of_change_sized (C := Try.checked) own started (by kernel_rfl) Try.func7
    (ChangeSpec.witness6 (enc := enc) (C := Try.checked) false ⟨#[], #[.slice none 0 0, .string ByteArray.empty, .string ByteArray.empty], []⟩ 8 (by kernel_rfl) (by kernel_rfl) (by kernel_rfl) (by kernel_rfl)) ?_
  intro W base args ds gs before hval0 hW hcnd hsz0 _
  have hsz : (DataW.weightsEach Try.prog (Try.f7.params.toList ++ Rows.pairChangesSpec.plain.varTypes Try.prog) (ds ++ gs)).all (· ≤ reachBytes) = true := hsz0
  have hval : ∀ (j : Nat) t v, Try.f7.params[j]? = some t → args[j]? = some v → Value.okWide Try.prog W .any base t v := hval0
  have hW' := hW
  have hlt := fun x hx => hW'.lt x hx
  obtain ⟨p, q, hA0, hV, rfl, hfz, hnd⟩ := hW
  have hA : DataW.TrodAll enc Try.prog W 0 (fun _ => true) true Try.f7.params.toList args.toList ds p := hA0
  rw [Try.params7] at hA hval hsz
  obtain ⟨v0, vs0, d0, ds0, p0, q0, hargs, rfl, rfl, h0, r0⟩ := trodAll_cons hA
  obtain ⟨v1, vs1, d1, ds1, p1, q1, rfl, rfl, rfl, h1, r1⟩ := trodAll_cons r0
  obtain ⟨v2, vs2, d2, ds2, p2, q2, rfl, rfl, rfl, h2, r2⟩ := trodAll_cons r1
  obtain ⟨rfl, rfl, rfl⟩ := trodAll_nil r2
  obtain rfl : args = #[v0, v1, v2] := by cases args; simp_all
  obtain ⟨rfl, rfl⟩ := trodVars_none hV
  have h0k := h0
  have h1k := h1
  obtain ⟨a1, rfl, _, _, w1⟩ := open_string Try.underlying9 (hval 1 9 v1 rfl rfl) h1
  have h2k := h2
  obtain ⟨a2, rfl, _, _, w2⟩ := open_string Try.underlying9 (hval 2 9 v2 rfl rfl) h2
  clear hA0 hval0 hsz0
  refine (walk W v0 (hval 0 46 v0 rfl rfl) h0k a1 w1 a2 w2).mono fun e W' ⟨he, bel⟩ => ?_
  subst he
  exact ⟨_, rfl, _, _, _, [], _, [], hW', trodAll_mk1 (shut_bool (t := 4) (by kernel_rfl) _), (trodAll_cons_mk (Below.trod laidOut (by kernel_rfl) (of_decide_eq_true (by kernel_rfl)) h0k bel (fun x hx => hlt x (by simp [hx]))) (trodAll_cons_mk (Below.trod laidOut (by kernel_rfl) (of_decide_eq_true (by kernel_rfl)) h1k bel (fun x hx => hlt x (by simp [hx]))) (trodAll_cons_mk (Below.trod laidOut (by kernel_rfl) (of_decide_eq_true (by kernel_rfl)) h2k bel (fun x hx => hlt x (by simp [hx]))) trodAll_mk0))), rfl, bel.frame _, fun h => by cases h⟩
theorem over : Rows.pairChangesRow.holds Try.pinned (OpenSpec.ofChange Rows.pairChangesSpec) :=
  OpenClaim.holds_of_wide 7 Try.f7 rfl rfl rfl rfl rfl rfl rfl ⟨rfl, rfl, rfl, rfl, rfl⟩ rfl rfl rfl rfl rfl (by kernel_rfl) Try.func7 (by kernel_rfl)
    (of_decide_eq_true (by kernel_rfl)) (by unfold Func.isWrapper; first | (rw [if_pos (by decide +kernel)]; kernel_rfl) | (rw [if_neg (by decide +kernel)]; exact ⟨rfl, rfl⟩))
    (fun os started H enc _ => lifted os started H enc)
theorem proved : Rows.PairChangesSaid := over
#print axioms proved
end Go.Proofs.Ytipdhjdlfdbkiaa.pairChangesRow
namespace Go.Proofs.Ytipdhjdlfdbkiaa
/-- The row, under a short name, for the claim. -/
theorem pairChanges_holds : Rows.PairChangesSaid := pairChangesRow.proved
end Go.Proofs.Ytipdhjdlfdbkiaa
