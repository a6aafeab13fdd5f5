/-
  DERIVED. GIVEN WITH THE SEED: THE CARDS: each row of YthnococjdeafhaaDoorRows.lean that lists a variable, with what it lists TIED to the program's text (the seventh form; the later family's looks); each row that meets fmt, with fmt's text TOLD by the authors' own Lean function (tested against real Go, not proved from fmt's source: count such statements apart). THE CARD IS WHAT COUNTS. Prove the row's statement (the work); the ties are given (YthnococjdeafhaaDoorTie.lean); close each card by the builder's one call (the guide's Derived/Test/ToyasCard.lean, 'card_holds'). Laid BY PROGRAM, IN A SANDBOX (cutbox-door.mjs). By AI agents, Wed Nov 11 2026. No macro, syntax, notation, axiom, sorry.
-/
import Derived.Test.YthnococjdeafhaaDoorRows
import GoSem.ClaimSeven
namespace Go.Proofs.YthnococjdeafhaaDoor
namespace Rows

/-- THE TIED CARD OF 'boscagelaw31.ModelAnswers'. -/
def modelAnswersCard : Claim7 := { stood := { row := modelAnswersRow, standIns := [], harness := (true, "0ce45bab9cb13bcbda75084d61df7b3f0a8b13bb6648e2306b0bef37ce25abb7"), looks := false }, kinds := [], alts := [], laidByText := true, laidKinds := [.data], laidTests := true, laidLooks := .later }
def ModelAnswersCardSaid : Prop := Claim7.holds Tryd.pinned (.plain (OpenSpec.ofChange modelAnswersSpec)) modelAnswersCard

/-- THE TIED CARD OF 'boscagelaw31.ModelSteps'. -/
def modelStepsCard : Claim7 := { stood := { row := modelStepsRow, standIns := [], harness := (true, "0ce45bab9cb13bcbda75084d61df7b3f0a8b13bb6648e2306b0bef37ce25abb7"), looks := false }, kinds := [], alts := [], laidByText := true, laidKinds := [.data], laidTests := true, laidLooks := .later }
def ModelStepsCardSaid : Prop := Claim7.holds Tryd.pinned (.plain (OpenSpec.ofChange modelStepsSpec)) modelStepsCard

/-- THE TIED CARD OF 'boscagelaw31.ModelSame'. -/
def modelSameCard : Claim7 := { stood := { row := modelSameRow, standIns := [], harness := (true, "0ce45bab9cb13bcbda75084d61df7b3f0a8b13bb6648e2306b0bef37ce25abb7"), looks := false }, kinds := [], alts := [], laidByText := true, laidKinds := [.data], laidTests := true, laidLooks := .later }
def ModelSameCardSaid : Prop := Claim7.holds Tryd.pinned (.plain (OpenSpec.ofChange modelSameSpec)) modelSameCard

/-- THE TIED CARD OF 'boscagelaw31.ModelKeeps'. -/
def modelKeepsCard : Claim7 := { stood := { row := modelKeepsRow, standIns := [], harness := (true, "0ce45bab9cb13bcbda75084d61df7b3f0a8b13bb6648e2306b0bef37ce25abb7"), looks := false }, kinds := [], alts := [], laidByText := true, laidKinds := [.data], laidTests := true, laidLooks := .later }
def ModelKeepsCardSaid : Prop := Claim7.holds Tryd.pinned (.plain (OpenSpec.ofChange modelKeepsSpec)) modelKeepsCard

/-- THE SECOND FORM's CARD OF 'boscagelaw31.ModelAnswers'. -/
def modelAnswersUptoCard : Claim7 := { stood := { row := modelAnswersUptoRow, standIns := [], harness := (true, "0ce45bab9cb13bcbda75084d61df7b3f0a8b13bb6648e2306b0bef37ce25abb7"), looks := false }, kinds := [], alts := [], laidByText := true, laidKinds := [.data], laidTests := true, laidLooks := .later }
def ModelAnswersUptoCardSaid : Prop := Claim7.holds Tryd.pinned (.plain (OpenSpec.upto modelAnswersSpec)) modelAnswersUptoCard

/-- THE SECOND FORM's CARD OF 'boscagelaw31.ModelSteps'. -/
def modelStepsUptoCard : Claim7 := { stood := { row := modelStepsUptoRow, standIns := [], harness := (true, "0ce45bab9cb13bcbda75084d61df7b3f0a8b13bb6648e2306b0bef37ce25abb7"), looks := false }, kinds := [], alts := [], laidByText := true, laidKinds := [.data], laidTests := true, laidLooks := .later }
def ModelStepsUptoCardSaid : Prop := Claim7.holds Tryd.pinned (.plain (OpenSpec.upto modelStepsSpec)) modelStepsUptoCard

/-- THE SECOND FORM's CARD OF 'boscagelaw31.ModelSame'. -/
def modelSameUptoCard : Claim7 := { stood := { row := modelSameUptoRow, standIns := [], harness := (true, "0ce45bab9cb13bcbda75084d61df7b3f0a8b13bb6648e2306b0bef37ce25abb7"), looks := false }, kinds := [], alts := [], laidByText := true, laidKinds := [.data], laidTests := true, laidLooks := .later }
def ModelSameUptoCardSaid : Prop := Claim7.holds Tryd.pinned (.plain (OpenSpec.upto modelSameSpec)) modelSameUptoCard

/-- THE SECOND FORM's CARD OF 'boscagelaw31.ModelKeeps'. -/
def modelKeepsUptoCard : Claim7 := { stood := { row := modelKeepsUptoRow, standIns := [], harness := (true, "0ce45bab9cb13bcbda75084d61df7b3f0a8b13bb6648e2306b0bef37ce25abb7"), looks := false }, kinds := [], alts := [], laidByText := true, laidKinds := [.data], laidTests := true, laidLooks := .later }
def ModelKeepsUptoCardSaid : Prop := Claim7.holds Tryd.pinned (.plain (OpenSpec.upto modelKeepsSpec)) modelKeepsUptoCard
end Rows
end Go.Proofs.YthnococjdeafhaaDoor
