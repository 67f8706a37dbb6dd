/-
  DERIVED. GIVEN WITH THE SEED: THE CARDS: each row of YtkmabfamdonfoaaDoorRows.lean that lists a variable, with what it lists TIED to the program's text (the seventh form; the later family's looks); each row that meets fmt, with fmt's text TOLD by the authors' own Lean function (tested against real Go, not proved from fmt's source: count such statements apart). THE CARD IS WHAT COUNTS. Prove the row's statement (the work); the ties are given (YtkmabfamdonfoaaDoorTie.lean); close each card by the builder's one call (the guide's Derived/Test/ToyasCard.lean, 'card_holds'). Laid BY PROGRAM, IN A SANDBOX (cutbox-door.mjs). By AI agents, Wed Nov 11 2026. No macro, syntax, notation, axiom, sorry.
-/
import Derived.Test.YtkmabfamdonfoaaDoorRows
import GoSem.ClaimSeven
namespace Go.Proofs.YtkmabfamdonfoaaDoor
namespace Rows

/-- THE TIED CARD OF 'warderlaw21.RequestAnswers'. -/
def requestAnswersCard : Claim7 := { stood := { row := requestAnswersRow, standIns := [], harness := (true, "2fdc31992d3d8e70b4916dfce4712ba582766b61ca140262f6b55eff0e0bbdf1"), looks := false }, kinds := [], alts := [], laidByText := true, laidKinds := [.widerDeep], laidTests := true, laidLooks := .later }
def RequestAnswersCardSaid : Prop := Claim7.holds Tryd.pinned (.plain (OpenSpec.ofChange requestAnswersSpec)) requestAnswersCard

/-- THE TIED CARD OF 'warderlaw21.RequestHears'. -/
def requestHearsCard : Claim7 := { stood := { row := requestHearsRow, standIns := [], harness := (true, "2fdc31992d3d8e70b4916dfce4712ba582766b61ca140262f6b55eff0e0bbdf1"), looks := false }, kinds := [], alts := [], laidByText := true, laidKinds := [.widerDeep], laidTests := true, laidLooks := .later }
def RequestHearsCardSaid : Prop := Claim7.holds Tryd.pinned (.plain (OpenSpec.ofChange requestHearsSpec)) requestHearsCard

/-- THE TIED CARD OF 'warderlaw21.RequestNames'. -/
def requestNamesCard : Claim7 := { stood := { row := requestNamesRow, standIns := [], harness := (true, "2fdc31992d3d8e70b4916dfce4712ba582766b61ca140262f6b55eff0e0bbdf1"), looks := false }, kinds := [], alts := [], laidByText := true, laidKinds := [.widerDeep], laidTests := true, laidLooks := .later }
def RequestNamesCardSaid : Prop := Claim7.holds Tryd.pinned (.plain (OpenSpec.ofChange requestNamesSpec)) requestNamesCard

/-- THE TIED CARD OF 'warderlaw21.RequestBytes'. -/
def requestBytesCard : Claim7 := { stood := { row := requestBytesRow, standIns := [], harness := (true, "2fdc31992d3d8e70b4916dfce4712ba582766b61ca140262f6b55eff0e0bbdf1"), looks := false }, kinds := [], alts := [], laidByText := true, laidKinds := [.widerDeep], laidTests := true, laidLooks := .later }
def RequestBytesCardSaid : Prop := Claim7.holds Tryd.pinned (.plain (OpenSpec.ofChange requestBytesSpec)) requestBytesCard

/-- THE TIED CARD OF 'warderlaw21.RequestReads'. -/
def requestReadsCard : Claim7 := { stood := { row := requestReadsRow, standIns := [], harness := (true, "2fdc31992d3d8e70b4916dfce4712ba582766b61ca140262f6b55eff0e0bbdf1"), looks := false }, kinds := [], alts := [], laidByText := true, laidKinds := [.widerDeep], laidTests := true, laidLooks := .later }
def RequestReadsCardSaid : Prop := Claim7.holds Tryd.pinned (.plain (OpenSpec.ofChange requestReadsSpec)) requestReadsCard

/-- THE TIED CARD OF 'warderlaw21.RequestCuts'. -/
def requestCutsCard : Claim7 := { stood := { row := requestCutsRow, standIns := [], harness := (true, "2fdc31992d3d8e70b4916dfce4712ba582766b61ca140262f6b55eff0e0bbdf1"), looks := false }, kinds := [], alts := [], laidByText := true, laidKinds := [.widerDeep], laidTests := true, laidLooks := .later }
def RequestCutsCardSaid : Prop := Claim7.holds Tryd.pinned (.plain (OpenSpec.ofChange requestCutsSpec)) requestCutsCard

/-- THE SECOND FORM's CARD OF 'warderlaw21.RequestAnswers'. -/
def requestAnswersUptoCard : Claim7 := { stood := { row := requestAnswersUptoRow, standIns := [], harness := (true, "2fdc31992d3d8e70b4916dfce4712ba582766b61ca140262f6b55eff0e0bbdf1"), looks := false }, kinds := [], alts := [], laidByText := true, laidKinds := [.widerDeep], laidTests := true, laidLooks := .later }
def RequestAnswersUptoCardSaid : Prop := Claim7.holds Tryd.pinned (.plain (OpenSpec.upto requestAnswersSpec)) requestAnswersUptoCard

/-- THE SECOND FORM's CARD OF 'warderlaw21.RequestHears'. -/
def requestHearsUptoCard : Claim7 := { stood := { row := requestHearsUptoRow, standIns := [], harness := (true, "2fdc31992d3d8e70b4916dfce4712ba582766b61ca140262f6b55eff0e0bbdf1"), looks := false }, kinds := [], alts := [], laidByText := true, laidKinds := [.widerDeep], laidTests := true, laidLooks := .later }
def RequestHearsUptoCardSaid : Prop := Claim7.holds Tryd.pinned (.plain (OpenSpec.upto requestHearsSpec)) requestHearsUptoCard

/-- THE SECOND FORM's CARD OF 'warderlaw21.RequestNames'. -/
def requestNamesUptoCard : Claim7 := { stood := { row := requestNamesUptoRow, standIns := [], harness := (true, "2fdc31992d3d8e70b4916dfce4712ba582766b61ca140262f6b55eff0e0bbdf1"), looks := false }, kinds := [], alts := [], laidByText := true, laidKinds := [.widerDeep], laidTests := true, laidLooks := .later }
def RequestNamesUptoCardSaid : Prop := Claim7.holds Tryd.pinned (.plain (OpenSpec.upto requestNamesSpec)) requestNamesUptoCard

/-- THE SECOND FORM's CARD OF 'warderlaw21.RequestBytes'. -/
def requestBytesUptoCard : Claim7 := { stood := { row := requestBytesUptoRow, standIns := [], harness := (true, "2fdc31992d3d8e70b4916dfce4712ba582766b61ca140262f6b55eff0e0bbdf1"), looks := false }, kinds := [], alts := [], laidByText := true, laidKinds := [.widerDeep], laidTests := true, laidLooks := .later }
def RequestBytesUptoCardSaid : Prop := Claim7.holds Tryd.pinned (.plain (OpenSpec.upto requestBytesSpec)) requestBytesUptoCard

/-- THE SECOND FORM's CARD OF 'warderlaw21.RequestReads'. -/
def requestReadsUptoCard : Claim7 := { stood := { row := requestReadsUptoRow, standIns := [], harness := (true, "2fdc31992d3d8e70b4916dfce4712ba582766b61ca140262f6b55eff0e0bbdf1"), looks := false }, kinds := [], alts := [], laidByText := true, laidKinds := [.widerDeep], laidTests := true, laidLooks := .later }
def RequestReadsUptoCardSaid : Prop := Claim7.holds Tryd.pinned (.plain (OpenSpec.upto requestReadsSpec)) requestReadsUptoCard

/-- THE SECOND FORM's CARD OF 'warderlaw21.RequestCuts'. -/
def requestCutsUptoCard : Claim7 := { stood := { row := requestCutsUptoRow, standIns := [], harness := (true, "2fdc31992d3d8e70b4916dfce4712ba582766b61ca140262f6b55eff0e0bbdf1"), looks := false }, kinds := [], alts := [], laidByText := true, laidKinds := [.widerDeep], laidTests := true, laidLooks := .later }
def RequestCutsUptoCardSaid : Prop := Claim7.holds Tryd.pinned (.plain (OpenSpec.upto requestCutsSpec)) requestCutsUptoCard
end Rows
end Go.Proofs.YtkmabfamdonfoaaDoor
