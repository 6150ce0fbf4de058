/-
  DERIVED. GIVEN WITH THE SEED: THE CARDS: each row of YtbilmkcdhodenaaDoorRows.lean that lists a variable, with what it lists TIED to the program's text (the seventh form; the later family's looks); each row that meets fmt, with fmt's text TOLD by the authors' own Lean function (tested against real Go, not proved from fmt's source: count such statements apart). THE CARD IS WHAT COUNTS. Prove the row's statement (the work); the ties are given (YtbilmkcdhodenaaDoorTie.lean); close each card by the builder's one call (the guide's Derived/Test/ToyasCard.lean, 'card_holds'). Laid BY PROGRAM, IN A SANDBOX (cutbox-door.mjs). By AI agents, Wed Nov 11 2026. No macro, syntax, notation, axiom, sorry.
-/
import Derived.Test.YtbilmkcdhodenaaDoorRows
import GoSem.ClaimSeven
namespace Go.Proofs.YtbilmkcdhodenaaDoor
namespace Rows

/-- THE TIED CARD OF 'fastilaw31.SearchHalves'. -/
def searchHalvesCard : Claim7 := { stood := { row := searchHalvesRow, standIns := [], harness := (true, "9919b51cb2a7cef1d608380f8fe270c981e4d37dd93231af3b363907001841b1"), looks := true }, kinds := [], alts := [], laidByText := true, laidKinds := [.data, .pinned], laidTests := true, laidLooks := .later }
def SearchHalvesCardSaid : Prop := Claim7.holds Tryd.pinned (.plain (OpenSpec.ofChange searchHalvesSpec)) searchHalvesCard

/-- THE TIED CARD OF 'fastilaw31.SearchTells'. -/
def searchTellsCard : Claim7 := { stood := { row := searchTellsRow, standIns := [], harness := (true, "9919b51cb2a7cef1d608380f8fe270c981e4d37dd93231af3b363907001841b1"), looks := true }, kinds := [], alts := [], laidByText := true, laidKinds := [.data, .pinned], laidTests := true, laidLooks := .later }
def SearchTellsCardSaid : Prop := Claim7.holds Tryd.pinned (.plain (OpenSpec.ofChange searchTellsSpec)) searchTellsCard

/-- THE TIED CARD OF 'fastilaw31.SearchBetween'. -/
def searchBetweenCard : Claim7 := { stood := { row := searchBetweenRow, standIns := [], harness := (true, "9919b51cb2a7cef1d608380f8fe270c981e4d37dd93231af3b363907001841b1"), looks := true }, kinds := [], alts := [], laidByText := true, laidKinds := [.data, .pinned], laidTests := true, laidLooks := .later }
def SearchBetweenCardSaid : Prop := Claim7.holds Tryd.pinned (.plain (OpenSpec.ofChange searchBetweenSpec)) searchBetweenCard

/-- THE TIED CARD OF 'fastilaw31.SearchEver'. -/
def searchEverCard : Claim7 := { stood := { row := searchEverRow, standIns := [], harness := (true, "9919b51cb2a7cef1d608380f8fe270c981e4d37dd93231af3b363907001841b1"), looks := true }, kinds := [], alts := [], laidByText := true, laidKinds := [.data, .pinned], laidTests := true, laidLooks := .later }
def SearchEverCardSaid : Prop := Claim7.holds Tryd.pinned (.plain (OpenSpec.ofChange searchEverSpec)) searchEverCard

/-- THE TIED CARD OF 'fastilaw30.CherryOwn'. -/
def cherryOwnCard : Claim7 := { stood := { row := cherryOwnRow, standIns := [], harness := (true, "9919b51cb2a7cef1d608380f8fe270c981e4d37dd93231af3b363907001841b1"), looks := true }, kinds := [], alts := [], laidByText := true, laidKinds := [.data, .pinned], laidTests := true, laidLooks := .later }
def CherryOwnCardSaid : Prop := Claim7.holds Tryd.pinned (.plain (OpenSpec.ofChange cherryOwnSpec)) cherryOwnCard

/-- THE TIED CARD OF 'fastilaw30.CherryMoves'. -/
def cherryMovesCard : Claim7 := { stood := { row := cherryMovesRow, standIns := [], harness := (true, "9919b51cb2a7cef1d608380f8fe270c981e4d37dd93231af3b363907001841b1"), looks := true }, kinds := [], alts := [], laidByText := true, laidKinds := [.data, .pinned], laidTests := true, laidLooks := .later }
def CherryMovesCardSaid : Prop := Claim7.holds Tryd.pinned (.plain (OpenSpec.ofChange cherryMovesSpec)) cherryMovesCard

/-- THE TIED CARD OF 'fastilaw30.CherryRange'. -/
def cherryRangeCard : Claim7 := { stood := { row := cherryRangeRow, standIns := [], harness := (true, "9919b51cb2a7cef1d608380f8fe270c981e4d37dd93231af3b363907001841b1"), looks := true }, kinds := [], alts := [], laidByText := true, laidKinds := [.data, .pinned], laidTests := true, laidLooks := .later }
def CherryRangeCardSaid : Prop := Claim7.holds Tryd.pinned (.plain (OpenSpec.ofChange cherryRangeSpec)) cherryRangeCard

/-- THE TIED CARD OF 'fastilaw13.PostingAdds'. -/
def postingAddsCard : Claim7 := { stood := { row := postingAddsRow, standIns := [], harness := (true, "9919b51cb2a7cef1d608380f8fe270c981e4d37dd93231af3b363907001841b1"), looks := true }, kinds := [], alts := [], laidByText := true, laidKinds := [.data, .pinned], laidTests := true, laidLooks := .later }
def PostingAddsCardSaid : Prop := Claim7.holds Tryd.pinned (.plain (OpenSpec.ofChange postingAddsSpec)) postingAddsCard

/-- THE TIED CARD OF 'fastilaw13.PostingAll'. -/
def postingAllCard : Claim7 := { stood := { row := postingAllRow, standIns := [], harness := (true, "9919b51cb2a7cef1d608380f8fe270c981e4d37dd93231af3b363907001841b1"), looks := true }, kinds := [], alts := [], laidByText := true, laidKinds := [.data, .pinned], laidTests := true, laidLooks := .later }
def PostingAllCardSaid : Prop := Claim7.holds Tryd.pinned (.plain (OpenSpec.ofChange postingAllSpec)) postingAllCard

/-- THE TIED CARD OF 'fastilaw13.PostingTells'. -/
def postingTellsCard : Claim7 := { stood := { row := postingTellsRow, standIns := [], harness := (true, "9919b51cb2a7cef1d608380f8fe270c981e4d37dd93231af3b363907001841b1"), looks := true }, kinds := [], alts := [], laidByText := true, laidKinds := [.data, .pinned], laidTests := true, laidLooks := .later }
def PostingTellsCardSaid : Prop := Claim7.holds Tryd.pinned (.plain (OpenSpec.ofChange postingTellsSpec)) postingTellsCard

/-- THE TIED CARD OF 'fastilaw13.PostingParts'. -/
def postingPartsCard : Claim7 := { stood := { row := postingPartsRow, standIns := [], harness := (true, "9919b51cb2a7cef1d608380f8fe270c981e4d37dd93231af3b363907001841b1"), looks := true }, kinds := [], alts := [], laidByText := true, laidKinds := [.data, .pinned], laidTests := true, laidLooks := .later }
def PostingPartsCardSaid : Prop := Claim7.holds Tryd.pinned (.plain (OpenSpec.ofChange postingPartsSpec)) postingPartsCard

/-- THE SECOND FORM's CARD OF 'fastilaw31.SearchHalves'. -/
def searchHalvesUptoCard : Claim7 := { stood := { row := searchHalvesUptoRow, standIns := [], harness := (true, "9919b51cb2a7cef1d608380f8fe270c981e4d37dd93231af3b363907001841b1"), looks := true }, kinds := [], alts := [], laidByText := true, laidKinds := [.data, .pinned], laidTests := true, laidLooks := .later }
def SearchHalvesUptoCardSaid : Prop := Claim7.holds Tryd.pinned (.plain (OpenSpec.upto searchHalvesSpec)) searchHalvesUptoCard

/-- THE SECOND FORM's CARD OF 'fastilaw31.SearchTells'. -/
def searchTellsUptoCard : Claim7 := { stood := { row := searchTellsUptoRow, standIns := [], harness := (true, "9919b51cb2a7cef1d608380f8fe270c981e4d37dd93231af3b363907001841b1"), looks := true }, kinds := [], alts := [], laidByText := true, laidKinds := [.data, .pinned], laidTests := true, laidLooks := .later }
def SearchTellsUptoCardSaid : Prop := Claim7.holds Tryd.pinned (.plain (OpenSpec.upto searchTellsSpec)) searchTellsUptoCard

/-- THE SECOND FORM's CARD OF 'fastilaw31.SearchBetween'. -/
def searchBetweenUptoCard : Claim7 := { stood := { row := searchBetweenUptoRow, standIns := [], harness := (true, "9919b51cb2a7cef1d608380f8fe270c981e4d37dd93231af3b363907001841b1"), looks := true }, kinds := [], alts := [], laidByText := true, laidKinds := [.data, .pinned], laidTests := true, laidLooks := .later }
def SearchBetweenUptoCardSaid : Prop := Claim7.holds Tryd.pinned (.plain (OpenSpec.upto searchBetweenSpec)) searchBetweenUptoCard

/-- THE SECOND FORM's CARD OF 'fastilaw31.SearchEver'. -/
def searchEverUptoCard : Claim7 := { stood := { row := searchEverUptoRow, standIns := [], harness := (true, "9919b51cb2a7cef1d608380f8fe270c981e4d37dd93231af3b363907001841b1"), looks := true }, kinds := [], alts := [], laidByText := true, laidKinds := [.data, .pinned], laidTests := true, laidLooks := .later }
def SearchEverUptoCardSaid : Prop := Claim7.holds Tryd.pinned (.plain (OpenSpec.upto searchEverSpec)) searchEverUptoCard

/-- THE SECOND FORM's CARD OF 'fastilaw30.CherryOwn'. -/
def cherryOwnUptoCard : Claim7 := { stood := { row := cherryOwnUptoRow, standIns := [], harness := (true, "9919b51cb2a7cef1d608380f8fe270c981e4d37dd93231af3b363907001841b1"), looks := true }, kinds := [], alts := [], laidByText := true, laidKinds := [.data, .pinned], laidTests := true, laidLooks := .later }
def CherryOwnUptoCardSaid : Prop := Claim7.holds Tryd.pinned (.plain (OpenSpec.upto cherryOwnSpec)) cherryOwnUptoCard

/-- THE SECOND FORM's CARD OF 'fastilaw30.CherryMoves'. -/
def cherryMovesUptoCard : Claim7 := { stood := { row := cherryMovesUptoRow, standIns := [], harness := (true, "9919b51cb2a7cef1d608380f8fe270c981e4d37dd93231af3b363907001841b1"), looks := true }, kinds := [], alts := [], laidByText := true, laidKinds := [.data, .pinned], laidTests := true, laidLooks := .later }
def CherryMovesUptoCardSaid : Prop := Claim7.holds Tryd.pinned (.plain (OpenSpec.upto cherryMovesSpec)) cherryMovesUptoCard

/-- THE SECOND FORM's CARD OF 'fastilaw30.CherryRange'. -/
def cherryRangeUptoCard : Claim7 := { stood := { row := cherryRangeUptoRow, standIns := [], harness := (true, "9919b51cb2a7cef1d608380f8fe270c981e4d37dd93231af3b363907001841b1"), looks := true }, kinds := [], alts := [], laidByText := true, laidKinds := [.data, .pinned], laidTests := true, laidLooks := .later }
def CherryRangeUptoCardSaid : Prop := Claim7.holds Tryd.pinned (.plain (OpenSpec.upto cherryRangeSpec)) cherryRangeUptoCard

/-- THE SECOND FORM's CARD OF 'fastilaw13.PostingAdds'. -/
def postingAddsUptoCard : Claim7 := { stood := { row := postingAddsUptoRow, standIns := [], harness := (true, "9919b51cb2a7cef1d608380f8fe270c981e4d37dd93231af3b363907001841b1"), looks := true }, kinds := [], alts := [], laidByText := true, laidKinds := [.data, .pinned], laidTests := true, laidLooks := .later }
def PostingAddsUptoCardSaid : Prop := Claim7.holds Tryd.pinned (.plain (OpenSpec.upto postingAddsSpec)) postingAddsUptoCard

/-- THE SECOND FORM's CARD OF 'fastilaw13.PostingAll'. -/
def postingAllUptoCard : Claim7 := { stood := { row := postingAllUptoRow, standIns := [], harness := (true, "9919b51cb2a7cef1d608380f8fe270c981e4d37dd93231af3b363907001841b1"), looks := true }, kinds := [], alts := [], laidByText := true, laidKinds := [.data, .pinned], laidTests := true, laidLooks := .later }
def PostingAllUptoCardSaid : Prop := Claim7.holds Tryd.pinned (.plain (OpenSpec.upto postingAllSpec)) postingAllUptoCard

/-- THE SECOND FORM's CARD OF 'fastilaw13.PostingTells'. -/
def postingTellsUptoCard : Claim7 := { stood := { row := postingTellsUptoRow, standIns := [], harness := (true, "9919b51cb2a7cef1d608380f8fe270c981e4d37dd93231af3b363907001841b1"), looks := true }, kinds := [], alts := [], laidByText := true, laidKinds := [.data, .pinned], laidTests := true, laidLooks := .later }
def PostingTellsUptoCardSaid : Prop := Claim7.holds Tryd.pinned (.plain (OpenSpec.upto postingTellsSpec)) postingTellsUptoCard

/-- THE SECOND FORM's CARD OF 'fastilaw13.PostingParts'. -/
def postingPartsUptoCard : Claim7 := { stood := { row := postingPartsUptoRow, standIns := [], harness := (true, "9919b51cb2a7cef1d608380f8fe270c981e4d37dd93231af3b363907001841b1"), looks := true }, kinds := [], alts := [], laidByText := true, laidKinds := [.data, .pinned], laidTests := true, laidLooks := .later }
def PostingPartsUptoCardSaid : Prop := Claim7.holds Tryd.pinned (.plain (OpenSpec.upto postingPartsSpec)) postingPartsUptoCard
end Rows
end Go.Proofs.YtbilmkcdhodenaaDoor
