/-
  DERIVED. GIVEN WITH THE SEED: THE CARDS: each row of YtgaabjmbnomimaaDoorRows.lean that lists a variable, with what it lists TIED to the program's text (the seventh form; the later family's looks); each row that meets fmt, with fmt's text TOLD by the authors' own Lean function (tested against real Go, not proved from fmt's source: count such statements apart). THE CARD IS WHAT COUNTS. Prove the row's statement (the work); the ties are given (YtgaabjmbnomimaaDoorTie.lean); close each card by the builder's one call (the guide's Derived/Test/ToyasCard.lean, 'card_holds'). Laid BY PROGRAM, IN A SANDBOX (cutbox-door.mjs). By AI agents, Wed Nov 11 2026. No macro, syntax, notation, axiom, sorry.
-/
import Derived.Test.YtgaabjmbnomimaaDoorRows
import GoSem.ClaimSeven
namespace Go.Proofs.YtgaabjmbnomimaaDoor
namespace Rows

/-- THE TIED CARD OF 'fastilaw30.CherryOwn'. -/
def cherryOwnCard : Claim7 := { stood := { row := cherryOwnRow, standIns := [], harness := (true, "d926c3a25f434def92a354ea8b1e270d1b94d79467494a252d374b11692a2862"), looks := true }, kinds := [], alts := [], laidByText := true, laidKinds := [.data, .pinned], laidTests := true, laidLooks := .later }
def CherryOwnCardSaid : Prop := Claim7.holds Tryd.pinned (.plain (OpenSpec.ofChange cherryOwnSpec)) cherryOwnCard

/-- THE TIED CARD OF 'fastilaw30.CherryMoves'. -/
def cherryMovesCard : Claim7 := { stood := { row := cherryMovesRow, standIns := [], harness := (true, "d926c3a25f434def92a354ea8b1e270d1b94d79467494a252d374b11692a2862"), looks := true }, kinds := [], alts := [], laidByText := true, laidKinds := [.data, .pinned], laidTests := true, laidLooks := .later }
def CherryMovesCardSaid : Prop := Claim7.holds Tryd.pinned (.plain (OpenSpec.ofChange cherryMovesSpec)) cherryMovesCard

/-- THE TIED CARD OF 'fastilaw30.CherryRange'. -/
def cherryRangeCard : Claim7 := { stood := { row := cherryRangeRow, standIns := [], harness := (true, "d926c3a25f434def92a354ea8b1e270d1b94d79467494a252d374b11692a2862"), looks := true }, kinds := [], alts := [], laidByText := true, laidKinds := [.data, .pinned], laidTests := true, laidLooks := .later }
def CherryRangeCardSaid : Prop := Claim7.holds Tryd.pinned (.plain (OpenSpec.ofChange cherryRangeSpec)) cherryRangeCard

/-- THE TIED CARD OF 'fastilaw09.RadixApart'. -/
def radixApartCard : Claim7 := { stood := { row := radixApartRow, standIns := [], harness := (true, "d926c3a25f434def92a354ea8b1e270d1b94d79467494a252d374b11692a2862"), looks := true }, kinds := [], alts := [], laidByText := true, laidKinds := [.data, .pinned], laidTests := true, laidLooks := .later }
def RadixApartCardSaid : Prop := Claim7.holds Tryd.pinned (.plain (OpenSpec.ofChange radixApartSpec)) radixApartCard

/-- THE TIED CARD OF 'fastilaw09.RadixBuilds'. -/
def radixBuildsCard : Claim7 := { stood := { row := radixBuildsRow, standIns := [], harness := (true, "d926c3a25f434def92a354ea8b1e270d1b94d79467494a252d374b11692a2862"), looks := true }, kinds := [], alts := [], laidByText := true, laidKinds := [.data, .pinned], laidTests := true, laidLooks := .later }
def RadixBuildsCardSaid : Prop := Claim7.holds Tryd.pinned (.plain (OpenSpec.ofChange radixBuildsSpec)) radixBuildsCard

/-- THE TIED CARD OF 'fastilaw09.RadixOne'. -/
def radixOneCard : Claim7 := { stood := { row := radixOneRow, standIns := [], harness := (true, "d926c3a25f434def92a354ea8b1e270d1b94d79467494a252d374b11692a2862"), looks := true }, kinds := [], alts := [], laidByText := true, laidKinds := [.data, .pinned], laidTests := true, laidLooks := .later }
def RadixOneCardSaid : Prop := Claim7.holds Tryd.pinned (.plain (OpenSpec.ofChange radixOneSpec)) radixOneCard

/-- THE TIED CARD OF 'fastilaw09.RadixParts'. -/
def radixPartsCard : Claim7 := { stood := { row := radixPartsRow, standIns := [], harness := (true, "d926c3a25f434def92a354ea8b1e270d1b94d79467494a252d374b11692a2862"), looks := true }, kinds := [], alts := [], laidByText := true, laidKinds := [.data, .pinned], laidTests := true, laidLooks := .later }
def RadixPartsCardSaid : Prop := Claim7.holds Tryd.pinned (.plain (OpenSpec.ofChange radixPartsSpec)) radixPartsCard

/-- THE TIED CARD OF 'fastilaw11.DeltaMerges'. -/
def deltaMergesCard : Claim7 := { stood := { row := deltaMergesRow, standIns := [], harness := (true, "d926c3a25f434def92a354ea8b1e270d1b94d79467494a252d374b11692a2862"), looks := true }, kinds := [], alts := [], laidByText := true, laidKinds := [.data, .pinned], laidTests := true, laidLooks := .later }
def DeltaMergesCardSaid : Prop := Claim7.holds Tryd.pinned (.plain (OpenSpec.ofChange deltaMergesSpec)) deltaMergesCard

/-- THE TIED CARD OF 'fastilaw11.DeltaSides'. -/
def deltaSidesCard : Claim7 := { stood := { row := deltaSidesRow, standIns := [], harness := (true, "d926c3a25f434def92a354ea8b1e270d1b94d79467494a252d374b11692a2862"), looks := true }, kinds := [], alts := [], laidByText := true, laidKinds := [.data, .pinned], laidTests := true, laidLooks := .later }
def DeltaSidesCardSaid : Prop := Claim7.holds Tryd.pinned (.plain (OpenSpec.ofChange deltaSidesSpec)) deltaSidesCard

/-- THE TIED CARD OF 'fastilaw11.DeltaBack'. -/
def deltaBackCard : Claim7 := { stood := { row := deltaBackRow, standIns := [], harness := (true, "d926c3a25f434def92a354ea8b1e270d1b94d79467494a252d374b11692a2862"), looks := true }, kinds := [], alts := [], laidByText := true, laidKinds := [.data, .pinned], laidTests := true, laidLooks := .later }
def DeltaBackCardSaid : Prop := Claim7.holds Tryd.pinned (.plain (OpenSpec.ofChange deltaBackSpec)) deltaBackCard

/-- THE SECOND FORM's CARD OF 'fastilaw30.CherryOwn'. -/
def cherryOwnUptoCard : Claim7 := { stood := { row := cherryOwnUptoRow, standIns := [], harness := (true, "d926c3a25f434def92a354ea8b1e270d1b94d79467494a252d374b11692a2862"), looks := true }, kinds := [], alts := [], laidByText := true, laidKinds := [.data, .pinned], laidTests := true, laidLooks := .later }
def CherryOwnUptoCardSaid : Prop := Claim7.holds Tryd.pinned (.plain (OpenSpec.upto cherryOwnSpec)) cherryOwnUptoCard

/-- THE SECOND FORM's CARD OF 'fastilaw30.CherryMoves'. -/
def cherryMovesUptoCard : Claim7 := { stood := { row := cherryMovesUptoRow, standIns := [], harness := (true, "d926c3a25f434def92a354ea8b1e270d1b94d79467494a252d374b11692a2862"), looks := true }, kinds := [], alts := [], laidByText := true, laidKinds := [.data, .pinned], laidTests := true, laidLooks := .later }
def CherryMovesUptoCardSaid : Prop := Claim7.holds Tryd.pinned (.plain (OpenSpec.upto cherryMovesSpec)) cherryMovesUptoCard

/-- THE SECOND FORM's CARD OF 'fastilaw30.CherryRange'. -/
def cherryRangeUptoCard : Claim7 := { stood := { row := cherryRangeUptoRow, standIns := [], harness := (true, "d926c3a25f434def92a354ea8b1e270d1b94d79467494a252d374b11692a2862"), looks := true }, kinds := [], alts := [], laidByText := true, laidKinds := [.data, .pinned], laidTests := true, laidLooks := .later }
def CherryRangeUptoCardSaid : Prop := Claim7.holds Tryd.pinned (.plain (OpenSpec.upto cherryRangeSpec)) cherryRangeUptoCard

/-- THE SECOND FORM's CARD OF 'fastilaw09.RadixApart'. -/
def radixApartUptoCard : Claim7 := { stood := { row := radixApartUptoRow, standIns := [], harness := (true, "d926c3a25f434def92a354ea8b1e270d1b94d79467494a252d374b11692a2862"), looks := true }, kinds := [], alts := [], laidByText := true, laidKinds := [.data, .pinned], laidTests := true, laidLooks := .later }
def RadixApartUptoCardSaid : Prop := Claim7.holds Tryd.pinned (.plain (OpenSpec.upto radixApartSpec)) radixApartUptoCard

/-- THE SECOND FORM's CARD OF 'fastilaw09.RadixBuilds'. -/
def radixBuildsUptoCard : Claim7 := { stood := { row := radixBuildsUptoRow, standIns := [], harness := (true, "d926c3a25f434def92a354ea8b1e270d1b94d79467494a252d374b11692a2862"), looks := true }, kinds := [], alts := [], laidByText := true, laidKinds := [.data, .pinned], laidTests := true, laidLooks := .later }
def RadixBuildsUptoCardSaid : Prop := Claim7.holds Tryd.pinned (.plain (OpenSpec.upto radixBuildsSpec)) radixBuildsUptoCard

/-- THE SECOND FORM's CARD OF 'fastilaw09.RadixOne'. -/
def radixOneUptoCard : Claim7 := { stood := { row := radixOneUptoRow, standIns := [], harness := (true, "d926c3a25f434def92a354ea8b1e270d1b94d79467494a252d374b11692a2862"), looks := true }, kinds := [], alts := [], laidByText := true, laidKinds := [.data, .pinned], laidTests := true, laidLooks := .later }
def RadixOneUptoCardSaid : Prop := Claim7.holds Tryd.pinned (.plain (OpenSpec.upto radixOneSpec)) radixOneUptoCard

/-- THE SECOND FORM's CARD OF 'fastilaw09.RadixParts'. -/
def radixPartsUptoCard : Claim7 := { stood := { row := radixPartsUptoRow, standIns := [], harness := (true, "d926c3a25f434def92a354ea8b1e270d1b94d79467494a252d374b11692a2862"), looks := true }, kinds := [], alts := [], laidByText := true, laidKinds := [.data, .pinned], laidTests := true, laidLooks := .later }
def RadixPartsUptoCardSaid : Prop := Claim7.holds Tryd.pinned (.plain (OpenSpec.upto radixPartsSpec)) radixPartsUptoCard

/-- THE SECOND FORM's CARD OF 'fastilaw11.DeltaMerges'. -/
def deltaMergesUptoCard : Claim7 := { stood := { row := deltaMergesUptoRow, standIns := [], harness := (true, "d926c3a25f434def92a354ea8b1e270d1b94d79467494a252d374b11692a2862"), looks := true }, kinds := [], alts := [], laidByText := true, laidKinds := [.data, .pinned], laidTests := true, laidLooks := .later }
def DeltaMergesUptoCardSaid : Prop := Claim7.holds Tryd.pinned (.plain (OpenSpec.upto deltaMergesSpec)) deltaMergesUptoCard

/-- THE SECOND FORM's CARD OF 'fastilaw11.DeltaSides'. -/
def deltaSidesUptoCard : Claim7 := { stood := { row := deltaSidesUptoRow, standIns := [], harness := (true, "d926c3a25f434def92a354ea8b1e270d1b94d79467494a252d374b11692a2862"), looks := true }, kinds := [], alts := [], laidByText := true, laidKinds := [.data, .pinned], laidTests := true, laidLooks := .later }
def DeltaSidesUptoCardSaid : Prop := Claim7.holds Tryd.pinned (.plain (OpenSpec.upto deltaSidesSpec)) deltaSidesUptoCard

/-- THE SECOND FORM's CARD OF 'fastilaw11.DeltaBack'. -/
def deltaBackUptoCard : Claim7 := { stood := { row := deltaBackUptoRow, standIns := [], harness := (true, "d926c3a25f434def92a354ea8b1e270d1b94d79467494a252d374b11692a2862"), looks := true }, kinds := [], alts := [], laidByText := true, laidKinds := [.data, .pinned], laidTests := true, laidLooks := .later }
def DeltaBackUptoCardSaid : Prop := Claim7.holds Tryd.pinned (.plain (OpenSpec.upto deltaBackSpec)) deltaBackUptoCard
end Rows
end Go.Proofs.YtgaabjmbnomimaaDoor
