/-
  DERIVED. GIVEN WITH THE SEED: THE CARDS: each row of YtipdhjdlfdbkiaaDoorRows.lean that lists a variable, with what it lists TIED to the program's text (the seventh form; the later family's looks); each row that meets fmt, with fmt's text TOLD by the authors' own Lean function (tested against real Go, not proved from fmt's source: count such statements apart). THE CARD IS WHAT COUNTS. Prove the row's statement (the work); the ties are given (YtipdhjdlfdbkiaaDoorTie.lean); close each card by the builder's one call (the guide's Derived/Test/ToyasCard.lean, 'card_holds'). Laid BY PROGRAM, IN A SANDBOX (cutbox-door.mjs). By AI agents, Wed Nov 11 2026. No macro, syntax, notation, axiom, sorry.
-/
import Derived.Test.YtipdhjdlfdbkiaaDoorRows
import GoSem.ClaimSeven
namespace Go.Proofs.YtipdhjdlfdbkiaaDoor
namespace Rows

/-- THE TIED CARD OF 'boscagelaw10.TrapMust'. -/
def trapMustCard : Claim7 := { stood := { row := trapMustRow, standIns := [], harness := (true, "98a56f5cef41b8751687535f3dced95707f5c1ee8cab3d3cfeab01c3b084490a"), looks := true }, kinds := [], alts := [], laidByText := true, laidKinds := [.data, .data, .data], laidTests := true, laidLooks := .later }
def TrapMustCardSaid : Prop := Claim7.holds Tryd.pinned (.plain (OpenSpec.ofChange trapMustSpec)) trapMustCard

/-- THE SECOND FORM's CARD OF 'boscagelaw10.TrapMust'. -/
def trapMustUptoCard : Claim7 := { stood := { row := trapMustUptoRow, standIns := [], harness := (true, "98a56f5cef41b8751687535f3dced95707f5c1ee8cab3d3cfeab01c3b084490a"), looks := true }, kinds := [], alts := [], laidByText := true, laidKinds := [.data, .data, .data], laidTests := true, laidLooks := .later }
def TrapMustUptoCardSaid : Prop := Claim7.holds Tryd.pinned (.plain (OpenSpec.upto trapMustSpec)) trapMustUptoCard
end Rows
end Go.Proofs.YtipdhjdlfdbkiaaDoor
