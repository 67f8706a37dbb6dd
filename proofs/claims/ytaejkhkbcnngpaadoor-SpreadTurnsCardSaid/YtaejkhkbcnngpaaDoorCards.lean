/-
  DERIVED. GIVEN WITH THE SEED: THE CARDS: each row of YtaejkhkbcnngpaaDoorRows.lean that lists a variable, with what it lists TIED to the program's text (the seventh form; the later family's looks); each row that meets fmt, with fmt's text TOLD by the authors' own Lean function (tested against real Go, not proved from fmt's source: count such statements apart). THE CARD IS WHAT COUNTS. Prove the row's statement (the work); the ties are given (YtaejkhkbcnngpaaDoorTie.lean); close each card by the builder's one call (the guide's Derived/Test/ToyasCard.lean, 'card_holds'). Laid BY PROGRAM, IN A SANDBOX (cutbox-door.mjs). By AI agents, Wed Nov 11 2026. No macro, syntax, notation, axiom, sorry.
-/
import Derived.Test.YtaejkhkbcnngpaaDoorRows
import GoSem.ClaimSeven
namespace Go.Proofs.YtaejkhkbcnngpaaDoor
namespace Rows

/-- THE TIED CARD OF 'warderlaw31.SpreadTilts'. -/
def spreadTiltsCard : Claim7 := { stood := { row := spreadTiltsRow, standIns := [], harness := (true, "10279aa6619e1560fcc99e4c0609306bede09c597c1759238314ed98c5234d3b"), looks := true }, kinds := [], alts := [], laidByText := true, laidKinds := [.data, .data, .data], laidTests := true, laidLooks := .later }
def SpreadTiltsCardSaid : Prop := Claim7.holds Tryd.pinned (.plain (OpenSpec.ofChange spreadTiltsSpec)) spreadTiltsCard

/-- THE TIED CARD OF 'warderlaw31.SpreadTurns'. -/
def spreadTurnsCard : Claim7 := { stood := { row := spreadTurnsRow, standIns := [], harness := (true, "10279aa6619e1560fcc99e4c0609306bede09c597c1759238314ed98c5234d3b"), looks := true }, kinds := [], alts := [], laidByText := true, laidKinds := [.data, .data, .data], laidTests := true, laidLooks := .later }
def SpreadTurnsCardSaid : Prop := Claim7.holds Tryd.pinned (.plain (OpenSpec.ofChange spreadTurnsSpec)) spreadTurnsCard

/-- THE TIED CARD OF 'warderlaw31.SpreadRound'. -/
def spreadRoundCard : Claim7 := { stood := { row := spreadRoundRow, standIns := [], harness := (true, "10279aa6619e1560fcc99e4c0609306bede09c597c1759238314ed98c5234d3b"), looks := true }, kinds := [], alts := [], laidByText := true, laidKinds := [.data, .data, .data], laidTests := true, laidLooks := .later }
def SpreadRoundCardSaid : Prop := Claim7.holds Tryd.pinned (.plain (OpenSpec.ofChange spreadRoundSpec)) spreadRoundCard

/-- THE TIED CARD OF 'warderlaw31.SpreadMirrors'. -/
def spreadMirrorsCard : Claim7 := { stood := { row := spreadMirrorsRow, standIns := [], harness := (true, "10279aa6619e1560fcc99e4c0609306bede09c597c1759238314ed98c5234d3b"), looks := true }, kinds := [], alts := [], laidByText := true, laidKinds := [.data, .data, .data], laidTests := true, laidLooks := .later }
def SpreadMirrorsCardSaid : Prop := Claim7.holds Tryd.pinned (.plain (OpenSpec.ofChange spreadMirrorsSpec)) spreadMirrorsCard

/-- THE TIED CARD OF 'warderlaw31.SpreadCounts'. -/
def spreadCountsCard : Claim7 := { stood := { row := spreadCountsRow, standIns := [], harness := (true, "10279aa6619e1560fcc99e4c0609306bede09c597c1759238314ed98c5234d3b"), looks := true }, kinds := [], alts := [], laidByText := true, laidKinds := [.data, .data, .data], laidTests := true, laidLooks := .later }
def SpreadCountsCardSaid : Prop := Claim7.holds Tryd.pinned (.plain (OpenSpec.ofChange spreadCountsSpec)) spreadCountsCard

/-- THE TIED CARD OF 'warderlaw31.SpreadTexts'. -/
def spreadTextsCard : Claim7 := { stood := { row := spreadTextsRow, standIns := [], harness := (true, "10279aa6619e1560fcc99e4c0609306bede09c597c1759238314ed98c5234d3b"), looks := true }, kinds := [], alts := [], laidByText := true, laidKinds := [.data, .data, .data, .sentinel, .sentinel], laidTests := true, laidLooks := .later }
def SpreadTextsCardSaid : Prop := Claim7.holds Tryd.pinned (.plain (OpenSpec.ofChange spreadTextsSpec)) spreadTextsCard

/-- THE TIED CARD OF 'warderlaw31.SpreadReads'. -/
def spreadReadsCard : Claim7 := { stood := { row := spreadReadsRow, standIns := [], harness := (true, "10279aa6619e1560fcc99e4c0609306bede09c597c1759238314ed98c5234d3b"), looks := true }, kinds := [], alts := [], laidByText := true, laidKinds := [.data, .data, .data, .sentinel, .sentinel], laidTests := true, laidLooks := .later }
def SpreadReadsCardSaid : Prop := Claim7.holds Tryd.pinned (.plain (OpenSpec.ofChange spreadReadsSpec)) spreadReadsCard

/-- THE SECOND FORM's CARD OF 'warderlaw31.SpreadTilts'. -/
def spreadTiltsUptoCard : Claim7 := { stood := { row := spreadTiltsUptoRow, standIns := [], harness := (true, "10279aa6619e1560fcc99e4c0609306bede09c597c1759238314ed98c5234d3b"), looks := true }, kinds := [], alts := [], laidByText := true, laidKinds := [.data, .data, .data], laidTests := true, laidLooks := .later }
def SpreadTiltsUptoCardSaid : Prop := Claim7.holds Tryd.pinned (.plain (OpenSpec.upto spreadTiltsSpec)) spreadTiltsUptoCard

/-- THE SECOND FORM's CARD OF 'warderlaw31.SpreadTurns'. -/
def spreadTurnsUptoCard : Claim7 := { stood := { row := spreadTurnsUptoRow, standIns := [], harness := (true, "10279aa6619e1560fcc99e4c0609306bede09c597c1759238314ed98c5234d3b"), looks := true }, kinds := [], alts := [], laidByText := true, laidKinds := [.data, .data, .data], laidTests := true, laidLooks := .later }
def SpreadTurnsUptoCardSaid : Prop := Claim7.holds Tryd.pinned (.plain (OpenSpec.upto spreadTurnsSpec)) spreadTurnsUptoCard

/-- THE SECOND FORM's CARD OF 'warderlaw31.SpreadRound'. -/
def spreadRoundUptoCard : Claim7 := { stood := { row := spreadRoundUptoRow, standIns := [], harness := (true, "10279aa6619e1560fcc99e4c0609306bede09c597c1759238314ed98c5234d3b"), looks := true }, kinds := [], alts := [], laidByText := true, laidKinds := [.data, .data, .data], laidTests := true, laidLooks := .later }
def SpreadRoundUptoCardSaid : Prop := Claim7.holds Tryd.pinned (.plain (OpenSpec.upto spreadRoundSpec)) spreadRoundUptoCard

/-- THE SECOND FORM's CARD OF 'warderlaw31.SpreadMirrors'. -/
def spreadMirrorsUptoCard : Claim7 := { stood := { row := spreadMirrorsUptoRow, standIns := [], harness := (true, "10279aa6619e1560fcc99e4c0609306bede09c597c1759238314ed98c5234d3b"), looks := true }, kinds := [], alts := [], laidByText := true, laidKinds := [.data, .data, .data], laidTests := true, laidLooks := .later }
def SpreadMirrorsUptoCardSaid : Prop := Claim7.holds Tryd.pinned (.plain (OpenSpec.upto spreadMirrorsSpec)) spreadMirrorsUptoCard

/-- THE SECOND FORM's CARD OF 'warderlaw31.SpreadCounts'. -/
def spreadCountsUptoCard : Claim7 := { stood := { row := spreadCountsUptoRow, standIns := [], harness := (true, "10279aa6619e1560fcc99e4c0609306bede09c597c1759238314ed98c5234d3b"), looks := true }, kinds := [], alts := [], laidByText := true, laidKinds := [.data, .data, .data], laidTests := true, laidLooks := .later }
def SpreadCountsUptoCardSaid : Prop := Claim7.holds Tryd.pinned (.plain (OpenSpec.upto spreadCountsSpec)) spreadCountsUptoCard

/-- THE SECOND FORM's CARD OF 'warderlaw31.SpreadTexts'. -/
def spreadTextsUptoCard : Claim7 := { stood := { row := spreadTextsUptoRow, standIns := [], harness := (true, "10279aa6619e1560fcc99e4c0609306bede09c597c1759238314ed98c5234d3b"), looks := true }, kinds := [], alts := [], laidByText := true, laidKinds := [.data, .data, .data, .sentinel, .sentinel], laidTests := true, laidLooks := .later }
def SpreadTextsUptoCardSaid : Prop := Claim7.holds Tryd.pinned (.plain (OpenSpec.upto spreadTextsSpec)) spreadTextsUptoCard

/-- THE SECOND FORM's CARD OF 'warderlaw31.SpreadReads'. -/
def spreadReadsUptoCard : Claim7 := { stood := { row := spreadReadsUptoRow, standIns := [], harness := (true, "10279aa6619e1560fcc99e4c0609306bede09c597c1759238314ed98c5234d3b"), looks := true }, kinds := [], alts := [], laidByText := true, laidKinds := [.data, .data, .data, .sentinel, .sentinel], laidTests := true, laidLooks := .later }
def SpreadReadsUptoCardSaid : Prop := Claim7.holds Tryd.pinned (.plain (OpenSpec.upto spreadReadsSpec)) spreadReadsUptoCard
end Rows
end Go.Proofs.YtaejkhkbcnngpaaDoor
