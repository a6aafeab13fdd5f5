/- HistAdds: for every input the law answers true, and each argument reads afterwards as it read before. No condition. -/
import Derived.Test.YtipdhjdlfdbkiaaRows
import Derived.Test.YtipdhjdlfdbkiaaPHistAddsx
import Derived.Test.YtipdhjdlfdbkiaaPureHistAdds
import Derived.Test.YtipdhjdlfdbkiaaRowOpen
import Derived.Test.YtipdhjdlfdbkiaaRowEventsHistAdds
import Derived.WalkKit
import Derived.ProofKit
import Derived.OpenShut
import Derived.ShutString
import Derived.ChangeOld
import Derived.Below
import Derived.Carry
import Derived.SizedLaws
import Derived.Lib.SmallJoins
import Derived.Test.YtipdhjdlfdbkiaaRowKit
namespace Go.Proofs.Ytipdhjdlfdbkiaa.histAddsRow
open Go.ChangeShapes Go.WideShapes Go.ChangeAt Go.RowKit Go.Joins Go.Proofs.Ytipdhjdlfdbkiaa.RowKitOwn
open Go.ChangeMaps (open_string shut_string)
set_option linter.unusedVariables false
theorem own : ownKnob Try.prog.godebug = none := by kernel_rfl
theorem laidOut : laidOutB Try.prog = true := by kernel_rfl
section
open Go.Proofs.Ytipdhjdlfdbkiaa.PHistAdds Go.Proofs.YtipdhjdlfdbkiaaW.PrintWords Go.Proofs.Ytipdhjdlfdbkiaa.RowOpen
set_option maxRecDepth 100000 in
theorem walk {H : Type} {enc : TypeId × Value → H} {base : Nat} {d0 : DataW H} {p0 : List MemPlace} {d2 : DataW H} {p2 : List MemPlace} {d3 : DataW H} {p3 : List MemPlace} (W : World) (v0 : Value) (hv0 : Value.okWide Try.prog W .any base 63 v0) (h0 : DataW.Trod enc Try.prog W 0 (fun _ => true) true 63 v0 d0 p0) (a1 : Int) (w1 : (Lit.int .i64 a1).wf = true) (v2 : Value) (hv2 : Value.okWide Try.prog W .any base 74 v2) (h2 : DataW.Trod enc Try.prog W 0 (fun _ => true) true 74 v2 d2 p2) (v3 : Value) (hv3 : Value.okWide Try.prog W .any base 76 v3) (h3 : DataW.Trod enc Try.prog W 0 (fun _ => true) true 76 v3 d3 p3) :
    Calls Try.prog 11 #[v0, .int .i64 a1, v2, v3] W fun e W' => e = .returned (.bool true) ∧ Below W.heap.size W W' := by
  have hx0 := openEvents (W := W) hv0 h0
  clear hv0 h0
  obtain ⟨A0, c0, l0, rfl, hc0, hr0⟩ := hx0
  have hx2 := openCallV (W := W) hv2 h2
  clear hv2 h2
  obtain ⟨x2, rfl⟩ := hx2
  have hx3 := openAnswerV (W := W) hv3 h3
  clear hv3 h3
  obtain ⟨x3, rfl⟩ := hx3
  exact boscagelaw32_HistAdds.calls 1000 A0 c0 l0 a1 x2.f0 x2.f1 x2.f2 x2.f3 x2.f4 x3.f0 x3.f1 x3.f2 x3.f3 x3.f4 true W hr0 hc0 (Go.Proofs.Ytipdhjdlfdbkiaa.PHistAdds.histAdds_true l0 a1 (bounds_i64 w1) x2 x3)
end
set_option maxRecDepth 100000 in
theorem lifted (os : Os) (started : os.Started) (H : Type) (enc : TypeId × Value → H) :
    ReturnsInHanded {} Try.checked os 11 .any (Rows.histAddsSpec.pre6 enc Try.prog Try.f11 Rows.histAddsRow.domain false) (Rows.histAddsSpec.post enc Try.prog Try.f11 false true false false) := by
  refine returnsInHanded_of_change_sized (C := Try.checked) own started (by kernel_rfl) Try.func11
    (ChangeSpec.witness6 (enc := enc) (C := Try.checked) false ⟨#[], #[.slice none 0 0, .int .i64 0, .agg #[.int .i64 0, .string ByteArray.empty, .string ByteArray.empty, .string ByteArray.empty, .int .i64 0], .agg #[.int .i64 0, .bool false, .string ByteArray.empty, .string ByteArray.empty, .int .i64 0]], []⟩ 8 (by kernel_rfl) (by kernel_rfl) (by kernel_rfl) (by kernel_rfl)) ?_
  intro W base args ds gs before hval0 hW hcnd hsz0 _
  have hsz : (DataW.weightsEach Try.prog (Try.f11.params.toList ++ Rows.histAddsSpec.plain.varTypes Try.prog) (ds ++ gs)).all (· ≤ reachBytes) = true := hsz0
  have hval : ∀ (j : Nat) t v, Try.f11.params[j]? = some t → args[j]? = some v → Value.okWide Try.prog W .any base t v := hval0
  have hW' := hW
  have hlt := fun x hx => hW'.lt x hx
  obtain ⟨p, q, hA0, hV, rfl, hfz, hnd⟩ := hW
  have hA : DataW.TrodAll enc Try.prog W 0 (fun _ => true) true Try.f11.params.toList args.toList ds p := hA0
  rw [Try.params11] at hA hval hsz
  obtain ⟨v0, vs0, d0, ds0, p0, q0, hargs, rfl, rfl, h0, r0⟩ := trodAll_cons hA
  obtain ⟨v1, vs1, d1, ds1, p1, q1, rfl, rfl, rfl, h1, r1⟩ := trodAll_cons r0
  obtain ⟨v2, vs2, d2, ds2, p2, q2, rfl, rfl, rfl, h2, r2⟩ := trodAll_cons r1
  obtain ⟨v3, vs3, d3, ds3, p3, q3, rfl, rfl, rfl, h3, r3⟩ := trodAll_cons r2
  obtain ⟨rfl, rfl, rfl⟩ := trodAll_nil r3
  obtain rfl : args = #[v0, v1, v2, v3] := by cases args; simp_all
  obtain ⟨rfl, rfl⟩ := trodVars_none hV
  have h0k := h0
  have h1k := h1
  obtain ⟨a1, rfl, _, _, w1⟩ := open_int Try.underlying3 (hval 1 3 v1 rfl rfl) h1
  have h2k := h2
  have h3k := h3
  clear hA0 hval0 hsz0
  refine (walk W v0 (hval 0 63 v0 rfl rfl) h0k a1 w1 v2 (hval 2 74 v2 rfl rfl) h2k v3 (hval 3 76 v3 rfl rfl) h3k).mono fun e W' ⟨he, bel⟩ => ?_
  subst he
  exact ⟨_, rfl, _, _, _, [], _, [], hW', trodAll_mk1 (shut_bool (t := 4) (by kernel_rfl) _), (trodAll_cons_mk (Below.trod laidOut (by kernel_rfl) (of_decide_eq_true (by kernel_rfl)) h0k bel (fun x hx => hlt x (by simp [hx]))) (trodAll_cons_mk (Below.trod laidOut (by kernel_rfl) (of_decide_eq_true (by kernel_rfl)) h1k bel (fun x hx => hlt x (by simp [hx]))) (trodAll_cons_mk (Below.trod laidOut (by kernel_rfl) (of_decide_eq_true (by kernel_rfl)) h2k bel (fun x hx => hlt x (by simp [hx]))) (trodAll_cons_mk (Below.trod laidOut (by kernel_rfl) (of_decide_eq_true (by kernel_rfl)) h3k bel (fun x hx => hlt x (by simp [hx]))) trodAll_mk0)))), rfl, bel.frame _, fun h => by cases h⟩
theorem over : Rows.histAddsRow.holds Try.pinned (OpenSpec.ofChange Rows.histAddsSpec) :=
  OpenClaim.holds_of_wide 11 Try.f11 rfl rfl rfl rfl rfl rfl rfl ⟨rfl, rfl, rfl, rfl, rfl⟩ rfl rfl rfl rfl rfl (by kernel_rfl) Try.func11 (by kernel_rfl)
    (of_decide_eq_true (by kernel_rfl)) (by unfold Func.isWrapper; first | (rw [if_pos (by decide +kernel)]; kernel_rfl) | (rw [if_neg (by decide +kernel)]; exact ⟨rfl, rfl⟩))
    (fun os started H enc _ => lifted os started H enc)
theorem proved : Rows.HistAddsSaid := over
#print axioms proved
end Go.Proofs.Ytipdhjdlfdbkiaa.histAddsRow
namespace Go.Proofs.Ytipdhjdlfdbkiaa
/-- The row, under a short name, for the claim. -/
theorem histAdds_holds : Rows.HistAddsSaid := histAddsRow.proved
end Go.Proofs.Ytipdhjdlfdbkiaa
