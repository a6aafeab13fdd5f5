/- HistOps: for every input the law answers true, and each argument reads afterwards as it read before. No condition. -/
import Derived.Test.YtipdhjdlfdbkiaaRows
import Derived.Test.YtipdhjdlfdbkiaaPHistOpsx
import Derived.Test.YtipdhjdlfdbkiaaPureHistOps
import Derived.Test.YtipdhjdlfdbkiaaRowOpen
import Derived.Test.YtipdhjdlfdbkiaaRowEventsHistOps
import Derived.WalkKit
import Derived.ProofKit
import Derived.OpenShut
import Derived.ShutString
import Derived.ChangeOld
import Derived.Below
import Derived.Carry
import Derived.SizedLaws
import Derived.Lib.SmallJoins
import Derived.Test.YtipdhjdlfdbkiaaRowKit
namespace Go.Proofs.Ytipdhjdlfdbkiaa.histOpsRow
open Go.ChangeShapes Go.WideShapes Go.ChangeAt Go.RowKit Go.Joins Go.Proofs.Ytipdhjdlfdbkiaa.RowKitOwn
open Go.ChangeMaps (open_string shut_string)
set_option linter.unusedVariables false
theorem own : ownKnob Try.prog.godebug = none := by kernel_rfl
theorem laidOut : laidOutB Try.prog = true := by kernel_rfl
section
open Go.Proofs.Ytipdhjdlfdbkiaa.PHistOps Go.Proofs.YtipdhjdlfdbkiaaW.PrintWords Go.Proofs.Ytipdhjdlfdbkiaa.RowOpen
set_option maxRecDepth 100000 in
theorem walk {H : Type} {enc : TypeId × Value → H} {base : Nat} {d0 : DataW H} {p0 : List MemPlace} (W : World) (v0 : Value) (hv0 : Value.okWide Try.prog W .any base 63 v0) (h0 : DataW.Trod enc Try.prog W 0 (fun _ => true) true 63 v0 d0 p0) :
    Calls Try.prog 9 #[v0] W fun e W' => e = .returned (.bool true) ∧ Below W.heap.size W W' := by
  have hx0 := openEvents (W := W) hv0 h0
  clear hv0 h0
  obtain ⟨A0, c0, l0, rfl, hc0, hr0⟩ := hx0
  exact boscagelaw32_HistOps.calls 1000 A0 c0 l0 true W hr0 hc0 (Go.Proofs.Ytipdhjdlfdbkiaa.PHistOps.histOps_true l0)
end
set_option maxRecDepth 100000 in
theorem lifted (os : Os) (started : os.Started) (H : Type) (enc : TypeId × Value → H) :
    ReturnsInHanded {} Try.checked os 9 .any (Rows.histOpsSpec.pre6 enc Try.prog Try.f9 Rows.histOpsRow.domain false) (Rows.histOpsSpec.post enc Try.prog Try.f9 false true false false) := by
  refine returnsInHanded_of_change_sized (C := Try.checked) own started (by kernel_rfl) Try.func9
    (ChangeSpec.witness6 (enc := enc) (C := Try.checked) false ⟨#[], #[.slice none 0 0], []⟩ 8 (by kernel_rfl) (by kernel_rfl) (by kernel_rfl) (by kernel_rfl)) ?_
  intro W base args ds gs before hval0 hW hcnd hsz0 _
  have hsz : (DataW.weightsEach Try.prog (Try.f9.params.toList ++ Rows.histOpsSpec.plain.varTypes Try.prog) (ds ++ gs)).all (· ≤ reachBytes) = true := hsz0
  have hval : ∀ (j : Nat) t v, Try.f9.params[j]? = some t → args[j]? = some v → Value.okWide Try.prog W .any base t v := hval0
  have hW' := hW
  have hlt := fun x hx => hW'.lt x hx
  obtain ⟨p, q, hA0, hV, rfl, hfz, hnd⟩ := hW
  have hA : DataW.TrodAll enc Try.prog W 0 (fun _ => true) true Try.f9.params.toList args.toList ds p := hA0
  rw [Try.params9] at hA hval hsz
  obtain ⟨v0, vs0, d0, ds0, p0, q0, hargs, rfl, rfl, h0, r0⟩ := trodAll_cons hA
  obtain ⟨rfl, rfl, rfl⟩ := trodAll_nil r0
  obtain rfl : args = #[v0] := by cases args; simp_all
  obtain ⟨rfl, rfl⟩ := trodVars_none hV
  have h0k := h0
  clear hA0 hval0 hsz0
  refine (walk W v0 (hval 0 63 v0 rfl rfl) h0k).mono fun e W' ⟨he, bel⟩ => ?_
  subst he
  exact ⟨_, rfl, _, _, _, [], _, [], hW', trodAll_mk1 (shut_bool (t := 4) (by kernel_rfl) _), (trodAll_cons_mk (Below.trod laidOut (by kernel_rfl) (of_decide_eq_true (by kernel_rfl)) h0k bel (fun x hx => hlt x (by simp [hx]))) trodAll_mk0), rfl, bel.frame _, fun h => by cases h⟩
theorem over : Rows.histOpsRow.holds Try.pinned (OpenSpec.ofChange Rows.histOpsSpec) :=
  OpenClaim.holds_of_wide 9 Try.f9 rfl rfl rfl rfl rfl rfl rfl ⟨rfl, rfl, rfl, rfl, rfl⟩ rfl rfl rfl rfl rfl (by kernel_rfl) Try.func9 (by kernel_rfl)
    (of_decide_eq_true (by kernel_rfl)) (by unfold Func.isWrapper; first | (rw [if_pos (by decide +kernel)]; kernel_rfl) | (rw [if_neg (by decide +kernel)]; exact ⟨rfl, rfl⟩))
    (fun os started H enc _ => lifted os started H enc)
theorem proved : Rows.HistOpsSaid := over
#print axioms proved
end Go.Proofs.Ytipdhjdlfdbkiaa.histOpsRow
namespace Go.Proofs.Ytipdhjdlfdbkiaa
/-- The row, under a short name, for the claim. -/
theorem histOps_holds : Rows.HistOpsSaid := histOpsRow.proved
end Go.Proofs.Ytipdhjdlfdbkiaa
