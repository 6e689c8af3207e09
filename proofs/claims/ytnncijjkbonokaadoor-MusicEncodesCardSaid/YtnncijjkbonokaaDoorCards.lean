/-
  DERIVED. GIVEN WITH THE SEED: THE CARDS: each row of YtnncijjkbonokaaDoorRows.lean that lists a variable, with what it lists TIED to the program's text (the seventh form; the later family's looks); each row that meets fmt, with fmt's text TOLD by the authors' own Lean function (tested against real Go, not proved from fmt's source: count such statements apart). THE CARD IS WHAT COUNTS. Prove the row's statement (the work); the ties are given (YtnncijjkbonokaaDoorTie.lean); close each card by the builder's one call (the guide's Derived/Test/ToyasCard.lean, 'card_holds'). Laid BY PROGRAM, IN A SANDBOX (cutbox-door.mjs). By AI agents, Wed Nov 11 2026. No macro, syntax, notation, axiom, sorry.
-/
import Derived.Test.YtnncijjkbonokaaDoorRows
import GoSem.ClaimSeven
namespace Go.Proofs.YtnncijjkbonokaaDoor
namespace Rows

/-- THE TIED CARD OF 'dactyllaw16.MusicBars'. -/
def musicBarsCard : Claim7 := { stood := { row := musicBarsRow, standIns := [], harness := (true, "991fe977f5168ceba107be3418c695bc9d876b598d9b7fa84277f1dd0c98bac4"), looks := false }, kinds := [], alts := [], laidByText := true, laidKinds := [.widerDeep, .data, .widerDeep], laidTests := true, laidLooks := .later }
def MusicBarsCardSaid : Prop := Claim7.holds Tryd.pinned (.plain (OpenSpec.ofChange musicBarsSpec)) musicBarsCard

/-- THE TIED CARD OF 'dactyllaw16.MusicEncodes'. -/
def musicEncodesCard : Claim7 := { stood := { row := musicEncodesRow, standIns := [], harness := (true, "991fe977f5168ceba107be3418c695bc9d876b598d9b7fa84277f1dd0c98bac4"), looks := false }, kinds := [], alts := [], laidByText := true, laidKinds := [.widerDeep, .data, .widerDeep], laidTests := true, laidLooks := .later }
def MusicEncodesCardSaid : Prop := Claim7.holds Tryd.pinned (.plain (OpenSpec.ofChange musicEncodesSpec)) musicEncodesCard

/-- THE TIED CARD OF 'dactyllaw16.MusicReads'. -/
def musicReadsCard : Claim7 := { stood := { row := musicReadsRow, standIns := [], harness := (true, "991fe977f5168ceba107be3418c695bc9d876b598d9b7fa84277f1dd0c98bac4"), looks := false }, kinds := [], alts := [], laidByText := true, laidKinds := [.widerDeep, .data, .widerDeep], laidTests := true, laidLooks := .later }
def MusicReadsCardSaid : Prop := Claim7.holds Tryd.pinned (.plain (OpenSpec.ofChange musicReadsSpec)) musicReadsCard

/-- THE TIED CARD OF 'dactyllaw16.MusicAligned'. -/
def musicAlignedCard : Claim7 := { stood := { row := musicAlignedRow, standIns := [], harness := (true, "991fe977f5168ceba107be3418c695bc9d876b598d9b7fa84277f1dd0c98bac4"), looks := false }, kinds := [], alts := [], laidByText := true, laidKinds := [.widerDeep, .data, .widerDeep], laidTests := true, laidLooks := .later }
def MusicAlignedCardSaid : Prop := Claim7.holds Tryd.pinned (.plain (OpenSpec.ofChange musicAlignedSpec)) musicAlignedCard

/-- THE TIED CARD OF 'dactyllaw16.MusicNeeded'. -/
def musicNeededCard : Claim7 := { stood := { row := musicNeededRow, standIns := [], harness := (true, "991fe977f5168ceba107be3418c695bc9d876b598d9b7fa84277f1dd0c98bac4"), looks := false }, kinds := [], alts := [], laidByText := true, laidKinds := [.widerDeep, .data, .widerDeep], laidTests := true, laidLooks := .later }
def MusicNeededCardSaid : Prop := Claim7.holds Tryd.pinned (.plain (OpenSpec.ofChange musicNeededSpec)) musicNeededCard

/-- THE TIED CARD OF 'dactyllaw16.MusicLines'. -/
def musicLinesCard : Claim7 := { stood := { row := musicLinesRow, standIns := [], harness := (true, "991fe977f5168ceba107be3418c695bc9d876b598d9b7fa84277f1dd0c98bac4"), looks := false }, kinds := [], alts := [], laidByText := true, laidKinds := [.widerDeep, .data, .widerDeep], laidTests := true, laidLooks := .later }
def MusicLinesCardSaid : Prop := Claim7.holds Tryd.pinned (.plain (OpenSpec.ofChange musicLinesSpec)) musicLinesCard

/-- THE TIED CARD OF 'dactyllaw16.MusicValid'. -/
def musicValidCard : Claim7 := { stood := { row := musicValidRow, standIns := [], harness := (true, "991fe977f5168ceba107be3418c695bc9d876b598d9b7fa84277f1dd0c98bac4"), looks := false }, kinds := [], alts := [], laidByText := true, laidKinds := [.widerDeep, .data, .widerDeep], laidTests := true, laidLooks := .later }
def MusicValidCardSaid : Prop := Claim7.holds Tryd.pinned (.plain (OpenSpec.ofChange musicValidSpec)) musicValidCard

/-- THE SECOND FORM's CARD OF 'dactyllaw16.MusicBars'. -/
def musicBarsUptoCard : Claim7 := { stood := { row := musicBarsUptoRow, standIns := [], harness := (true, "991fe977f5168ceba107be3418c695bc9d876b598d9b7fa84277f1dd0c98bac4"), looks := false }, kinds := [], alts := [], laidByText := true, laidKinds := [.widerDeep, .data, .widerDeep], laidTests := true, laidLooks := .later }
def MusicBarsUptoCardSaid : Prop := Claim7.holds Tryd.pinned (.plain (OpenSpec.upto musicBarsSpec)) musicBarsUptoCard

/-- THE SECOND FORM's CARD OF 'dactyllaw16.MusicEncodes'. -/
def musicEncodesUptoCard : Claim7 := { stood := { row := musicEncodesUptoRow, standIns := [], harness := (true, "991fe977f5168ceba107be3418c695bc9d876b598d9b7fa84277f1dd0c98bac4"), looks := false }, kinds := [], alts := [], laidByText := true, laidKinds := [.widerDeep, .data, .widerDeep], laidTests := true, laidLooks := .later }
def MusicEncodesUptoCardSaid : Prop := Claim7.holds Tryd.pinned (.plain (OpenSpec.upto musicEncodesSpec)) musicEncodesUptoCard

/-- THE SECOND FORM's CARD OF 'dactyllaw16.MusicReads'. -/
def musicReadsUptoCard : Claim7 := { stood := { row := musicReadsUptoRow, standIns := [], harness := (true, "991fe977f5168ceba107be3418c695bc9d876b598d9b7fa84277f1dd0c98bac4"), looks := false }, kinds := [], alts := [], laidByText := true, laidKinds := [.widerDeep, .data, .widerDeep], laidTests := true, laidLooks := .later }
def MusicReadsUptoCardSaid : Prop := Claim7.holds Tryd.pinned (.plain (OpenSpec.upto musicReadsSpec)) musicReadsUptoCard

/-- THE SECOND FORM's CARD OF 'dactyllaw16.MusicAligned'. -/
def musicAlignedUptoCard : Claim7 := { stood := { row := musicAlignedUptoRow, standIns := [], harness := (true, "991fe977f5168ceba107be3418c695bc9d876b598d9b7fa84277f1dd0c98bac4"), looks := false }, kinds := [], alts := [], laidByText := true, laidKinds := [.widerDeep, .data, .widerDeep], laidTests := true, laidLooks := .later }
def MusicAlignedUptoCardSaid : Prop := Claim7.holds Tryd.pinned (.plain (OpenSpec.upto musicAlignedSpec)) musicAlignedUptoCard

/-- THE SECOND FORM's CARD OF 'dactyllaw16.MusicNeeded'. -/
def musicNeededUptoCard : Claim7 := { stood := { row := musicNeededUptoRow, standIns := [], harness := (true, "991fe977f5168ceba107be3418c695bc9d876b598d9b7fa84277f1dd0c98bac4"), looks := false }, kinds := [], alts := [], laidByText := true, laidKinds := [.widerDeep, .data, .widerDeep], laidTests := true, laidLooks := .later }
def MusicNeededUptoCardSaid : Prop := Claim7.holds Tryd.pinned (.plain (OpenSpec.upto musicNeededSpec)) musicNeededUptoCard

/-- THE SECOND FORM's CARD OF 'dactyllaw16.MusicLines'. -/
def musicLinesUptoCard : Claim7 := { stood := { row := musicLinesUptoRow, standIns := [], harness := (true, "991fe977f5168ceba107be3418c695bc9d876b598d9b7fa84277f1dd0c98bac4"), looks := false }, kinds := [], alts := [], laidByText := true, laidKinds := [.widerDeep, .data, .widerDeep], laidTests := true, laidLooks := .later }
def MusicLinesUptoCardSaid : Prop := Claim7.holds Tryd.pinned (.plain (OpenSpec.upto musicLinesSpec)) musicLinesUptoCard

/-- THE SECOND FORM's CARD OF 'dactyllaw16.MusicValid'. -/
def musicValidUptoCard : Claim7 := { stood := { row := musicValidUptoRow, standIns := [], harness := (true, "991fe977f5168ceba107be3418c695bc9d876b598d9b7fa84277f1dd0c98bac4"), looks := false }, kinds := [], alts := [], laidByText := true, laidKinds := [.widerDeep, .data, .widerDeep], laidTests := true, laidLooks := .later }
def MusicValidUptoCardSaid : Prop := Claim7.holds Tryd.pinned (.plain (OpenSpec.upto musicValidSpec)) musicValidUptoCard
end Rows
end Go.Proofs.YtnncijjkbonokaaDoor
