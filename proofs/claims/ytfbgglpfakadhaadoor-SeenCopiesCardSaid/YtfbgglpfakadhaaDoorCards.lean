/-
  DERIVED. GIVEN WITH THE SEED: THE CARDS: each row of YtfbgglpfakadhaaDoorRows.lean that lists a variable, with what it lists TIED to the program's text (the seventh form; the later family's looks); each row that meets fmt, with fmt's text TOLD by the authors' own Lean function (tested against real Go, not proved from fmt's source: count such statements apart). THE CARD IS WHAT COUNTS. Prove the row's statement (the work); the ties are given (YtfbgglpfakadhaaDoorTie.lean); close each card by the builder's one call (the guide's Derived/Test/ToyasCard.lean, 'card_holds'). Laid BY PROGRAM, IN A SANDBOX (cutbox-door.mjs). By AI agents, Wed Nov 11 2026. No macro, syntax, notation, axiom, sorry.
-/
import Derived.Test.YtfbgglpfakadhaaDoorRows
import GoSem.ClaimSeven
namespace Go.Proofs.YtfbgglpfakadhaaDoor
namespace Rows

/-- THE TIED CARD OF 'warderlaw17.SeenBreaks'. -/
def seenBreaksCard : Claim7 := { stood := { row := seenBreaksRow, standIns := [], harness := (true, "a26c9c22d0d94446ee4b485b5550518bdf308b9942debbdec9317bc7205b1ff4"), looks := true }, kinds := [], alts := [], laidByText := true, laidKinds := [.data, .data, .data, .listed, .data], laidTests := true, laidLooks := .later }
def SeenBreaksCardSaid : Prop := Claim7.holds Tryd.pinned (.plain (OpenSpec.ofChange seenBreaksSpec)) seenBreaksCard

/-- THE TIED CARD OF 'warderlaw17.SeenNotes'. -/
def seenNotesCard : Claim7 := { stood := { row := seenNotesRow, standIns := [], harness := (true, "a26c9c22d0d94446ee4b485b5550518bdf308b9942debbdec9317bc7205b1ff4"), looks := true }, kinds := [], alts := [], laidByText := true, laidKinds := [.data, .data, .data, .listed, .data], laidTests := true, laidLooks := .later }
def SeenNotesCardSaid : Prop := Claim7.holds Tryd.pinned (.plain (OpenSpec.ofChange seenNotesSpec)) seenNotesCard

/-- THE TIED CARD OF 'warderlaw17.SeenStill'. -/
def seenStillCard : Claim7 := { stood := { row := seenStillRow, standIns := [], harness := (true, "a26c9c22d0d94446ee4b485b5550518bdf308b9942debbdec9317bc7205b1ff4"), looks := true }, kinds := [], alts := [], laidByText := true, laidKinds := [.data, .data, .data, .listed, .data], laidTests := true, laidLooks := .later }
def SeenStillCardSaid : Prop := Claim7.holds Tryd.pinned (.plain (OpenSpec.ofChange seenStillSpec)) seenStillCard

/-- THE TIED CARD OF 'warderlaw17.SeenCopies'. -/
def seenCopiesCard : Claim7 := { stood := { row := seenCopiesRow, standIns := [], harness := (true, "a26c9c22d0d94446ee4b485b5550518bdf308b9942debbdec9317bc7205b1ff4"), looks := true }, kinds := [], alts := [], laidByText := true, laidKinds := [.data, .data, .data, .listed, .data], laidTests := true, laidLooks := .later }
def SeenCopiesCardSaid : Prop := Claim7.holds Tryd.pinned (.plain (OpenSpec.ofChange seenCopiesSpec)) seenCopiesCard

/-- THE TIED CARD OF 'warderlaw17.SeenNil'. -/
def seenNilCard : Claim7 := { stood := { row := seenNilRow, standIns := [], harness := (true, "a26c9c22d0d94446ee4b485b5550518bdf308b9942debbdec9317bc7205b1ff4"), looks := true }, kinds := [], alts := [], laidByText := true, laidKinds := [.data, .data, .data, .listed, .data], laidTests := true, laidLooks := .later }
def SeenNilCardSaid : Prop := Claim7.holds Tryd.pinned (.plain (OpenSpec.ofChange seenNilSpec)) seenNilCard

/-- THE TIED CARD OF 'warderlaw17.SeenTexts'. -/
def seenTextsCard : Claim7 := { stood := { row := seenTextsRow, standIns := [], harness := (true, "a26c9c22d0d94446ee4b485b5550518bdf308b9942debbdec9317bc7205b1ff4"), looks := true }, kinds := [], alts := [], laidByText := true, laidKinds := [.data, .data, .data, .data, .sentinel, .sentinel, .listed, .data, .pinned], laidTests := true, laidLooks := .later }
def SeenTextsCardSaid : Prop := Claim7.holds Tryd.pinned (.plain (OpenSpec.ofChange seenTextsSpec)) seenTextsCard

/-- THE TIED CARD OF 'warderlaw17.SeenReads'. -/
def seenReadsCard : Claim7 := { stood := { row := seenReadsRow, standIns := [], harness := (true, "a26c9c22d0d94446ee4b485b5550518bdf308b9942debbdec9317bc7205b1ff4"), looks := true }, kinds := [], alts := [], laidByText := true, laidKinds := [.data, .data, .data, .data, .sentinel, .sentinel, .listed, .data, .pinned], laidTests := true, laidLooks := .later }
def SeenReadsCardSaid : Prop := Claim7.holds Tryd.pinned (.plain (OpenSpec.ofChange seenReadsSpec)) seenReadsCard

/-- THE SECOND FORM's CARD OF 'warderlaw17.SeenBreaks'. -/
def seenBreaksUptoCard : Claim7 := { stood := { row := seenBreaksUptoRow, standIns := [], harness := (true, "a26c9c22d0d94446ee4b485b5550518bdf308b9942debbdec9317bc7205b1ff4"), looks := true }, kinds := [], alts := [], laidByText := true, laidKinds := [.data, .data, .data, .listed, .data], laidTests := true, laidLooks := .later }
def SeenBreaksUptoCardSaid : Prop := Claim7.holds Tryd.pinned (.plain (OpenSpec.upto seenBreaksSpec)) seenBreaksUptoCard

/-- THE SECOND FORM's CARD OF 'warderlaw17.SeenNotes'. -/
def seenNotesUptoCard : Claim7 := { stood := { row := seenNotesUptoRow, standIns := [], harness := (true, "a26c9c22d0d94446ee4b485b5550518bdf308b9942debbdec9317bc7205b1ff4"), looks := true }, kinds := [], alts := [], laidByText := true, laidKinds := [.data, .data, .data, .listed, .data], laidTests := true, laidLooks := .later }
def SeenNotesUptoCardSaid : Prop := Claim7.holds Tryd.pinned (.plain (OpenSpec.upto seenNotesSpec)) seenNotesUptoCard

/-- THE SECOND FORM's CARD OF 'warderlaw17.SeenStill'. -/
def seenStillUptoCard : Claim7 := { stood := { row := seenStillUptoRow, standIns := [], harness := (true, "a26c9c22d0d94446ee4b485b5550518bdf308b9942debbdec9317bc7205b1ff4"), looks := true }, kinds := [], alts := [], laidByText := true, laidKinds := [.data, .data, .data, .listed, .data], laidTests := true, laidLooks := .later }
def SeenStillUptoCardSaid : Prop := Claim7.holds Tryd.pinned (.plain (OpenSpec.upto seenStillSpec)) seenStillUptoCard

/-- THE SECOND FORM's CARD OF 'warderlaw17.SeenCopies'. -/
def seenCopiesUptoCard : Claim7 := { stood := { row := seenCopiesUptoRow, standIns := [], harness := (true, "a26c9c22d0d94446ee4b485b5550518bdf308b9942debbdec9317bc7205b1ff4"), looks := true }, kinds := [], alts := [], laidByText := true, laidKinds := [.data, .data, .data, .listed, .data], laidTests := true, laidLooks := .later }
def SeenCopiesUptoCardSaid : Prop := Claim7.holds Tryd.pinned (.plain (OpenSpec.upto seenCopiesSpec)) seenCopiesUptoCard

/-- THE SECOND FORM's CARD OF 'warderlaw17.SeenNil'. -/
def seenNilUptoCard : Claim7 := { stood := { row := seenNilUptoRow, standIns := [], harness := (true, "a26c9c22d0d94446ee4b485b5550518bdf308b9942debbdec9317bc7205b1ff4"), looks := true }, kinds := [], alts := [], laidByText := true, laidKinds := [.data, .data, .data, .listed, .data], laidTests := true, laidLooks := .later }
def SeenNilUptoCardSaid : Prop := Claim7.holds Tryd.pinned (.plain (OpenSpec.upto seenNilSpec)) seenNilUptoCard

/-- THE SECOND FORM's CARD OF 'warderlaw17.SeenTexts'. -/
def seenTextsUptoCard : Claim7 := { stood := { row := seenTextsUptoRow, standIns := [], harness := (true, "a26c9c22d0d94446ee4b485b5550518bdf308b9942debbdec9317bc7205b1ff4"), looks := true }, kinds := [], alts := [], laidByText := true, laidKinds := [.data, .data, .data, .data, .sentinel, .sentinel, .listed, .data, .pinned], laidTests := true, laidLooks := .later }
def SeenTextsUptoCardSaid : Prop := Claim7.holds Tryd.pinned (.plain (OpenSpec.upto seenTextsSpec)) seenTextsUptoCard

/-- THE SECOND FORM's CARD OF 'warderlaw17.SeenReads'. -/
def seenReadsUptoCard : Claim7 := { stood := { row := seenReadsUptoRow, standIns := [], harness := (true, "a26c9c22d0d94446ee4b485b5550518bdf308b9942debbdec9317bc7205b1ff4"), looks := true }, kinds := [], alts := [], laidByText := true, laidKinds := [.data, .data, .data, .data, .sentinel, .sentinel, .listed, .data, .pinned], laidTests := true, laidLooks := .later }
def SeenReadsUptoCardSaid : Prop := Claim7.holds Tryd.pinned (.plain (OpenSpec.upto seenReadsSpec)) seenReadsUptoCard
end Rows
end Go.Proofs.YtfbgglpfakadhaaDoor
