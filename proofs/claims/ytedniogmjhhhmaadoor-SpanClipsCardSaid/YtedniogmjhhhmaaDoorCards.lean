/-
  DERIVED. GIVEN WITH THE SEED: THE CARDS: each row of YtedniogmjhhhmaaDoorRows.lean that lists a variable, with what it lists TIED to the program's text (the seventh form; the later family's looks); each row that meets fmt, with fmt's text TOLD by the authors' own Lean function (tested against real Go, not proved from fmt's source: count such statements apart). THE CARD IS WHAT COUNTS. Prove the row's statement (the work); the ties are given (YtedniogmjhhhmaaDoorTie.lean); close each card by the builder's one call (the guide's Derived/Test/ToyasCard.lean, 'card_holds'). Laid BY PROGRAM, IN A SANDBOX (cutbox-door.mjs). By AI agents, Wed Nov 11 2026. No macro, syntax, notation, axiom, sorry.
-/
import Derived.Test.YtedniogmjhhhmaaDoorRows
import GoSem.ClaimSeven
namespace Go.Proofs.YtedniogmjhhhmaaDoor
namespace Rows

/-- THE TIED CARD OF 'fastilaw02.SpanOne'. -/
def spanOneCard : Claim7 := { stood := { row := spanOneRow, standIns := [], harness := (true, "f1da57facfad57ea238233988c7eb57433dfd8821dabf4d3675069ce0dc138e4"), looks := true }, kinds := [], alts := [], laidByText := true, laidKinds := [.data, .pinned], laidTests := true, laidLooks := .later }
def SpanOneCardSaid : Prop := Claim7.holds Tryd.pinned (.plain (OpenSpec.ofChange spanOneSpec)) spanOneCard

/-- THE TIED CARD OF 'fastilaw02.SpanTimes'. -/
def spanTimesCard : Claim7 := { stood := { row := spanTimesRow, standIns := [], harness := (true, "f1da57facfad57ea238233988c7eb57433dfd8821dabf4d3675069ce0dc138e4"), looks := true }, kinds := [], alts := [], laidByText := true, laidKinds := [.data, .pinned], laidTests := true, laidLooks := .later }
def SpanTimesCardSaid : Prop := Claim7.holds Tryd.pinned (.plain (OpenSpec.ofChange spanTimesSpec)) spanTimesCard

/-- THE TIED CARD OF 'fastilaw02.SpanClips'. -/
def spanClipsCard : Claim7 := { stood := { row := spanClipsRow, standIns := [], harness := (true, "f1da57facfad57ea238233988c7eb57433dfd8821dabf4d3675069ce0dc138e4"), looks := true }, kinds := [], alts := [], laidByText := true, laidKinds := [.data, .pinned], laidTests := true, laidLooks := .later }
def SpanClipsCardSaid : Prop := Claim7.holds Tryd.pinned (.plain (OpenSpec.ofChange spanClipsSpec)) spanClipsCard

/-- THE TIED CARD OF 'fastilaw02.SpanPuts'. -/
def spanPutsCard : Claim7 := { stood := { row := spanPutsRow, standIns := [], harness := (true, "f1da57facfad57ea238233988c7eb57433dfd8821dabf4d3675069ce0dc138e4"), looks := true }, kinds := [], alts := [], laidByText := true, laidKinds := [.data, .pinned], laidTests := true, laidLooks := .later }
def SpanPutsCardSaid : Prop := Claim7.holds Tryd.pinned (.plain (OpenSpec.ofChange spanPutsSpec)) spanPutsCard

/-- THE TIED CARD OF 'fastilaw02.SpanDiffs'. -/
def spanDiffsCard : Claim7 := { stood := { row := spanDiffsRow, standIns := [], harness := (true, "f1da57facfad57ea238233988c7eb57433dfd8821dabf4d3675069ce0dc138e4"), looks := true }, kinds := [], alts := [], laidByText := true, laidKinds := [.data, .pinned], laidTests := true, laidLooks := .later }
def SpanDiffsCardSaid : Prop := Claim7.holds Tryd.pinned (.plain (OpenSpec.ofChange spanDiffsSpec)) spanDiffsCard

/-- THE TIED CARD OF 'fastilaw02.SpanTurns'. -/
def spanTurnsCard : Claim7 := { stood := { row := spanTurnsRow, standIns := [], harness := (true, "f1da57facfad57ea238233988c7eb57433dfd8821dabf4d3675069ce0dc138e4"), looks := true }, kinds := [], alts := [], laidByText := true, laidKinds := [.data, .pinned], laidTests := true, laidLooks := .later }
def SpanTurnsCardSaid : Prop := Claim7.holds Tryd.pinned (.plain (OpenSpec.ofChange spanTurnsSpec)) spanTurnsCard

/-- THE SECOND FORM's CARD OF 'fastilaw02.SpanOne'. -/
def spanOneUptoCard : Claim7 := { stood := { row := spanOneUptoRow, standIns := [], harness := (true, "f1da57facfad57ea238233988c7eb57433dfd8821dabf4d3675069ce0dc138e4"), looks := true }, kinds := [], alts := [], laidByText := true, laidKinds := [.data, .pinned], laidTests := true, laidLooks := .later }
def SpanOneUptoCardSaid : Prop := Claim7.holds Tryd.pinned (.plain (OpenSpec.upto spanOneSpec)) spanOneUptoCard

/-- THE SECOND FORM's CARD OF 'fastilaw02.SpanTimes'. -/
def spanTimesUptoCard : Claim7 := { stood := { row := spanTimesUptoRow, standIns := [], harness := (true, "f1da57facfad57ea238233988c7eb57433dfd8821dabf4d3675069ce0dc138e4"), looks := true }, kinds := [], alts := [], laidByText := true, laidKinds := [.data, .pinned], laidTests := true, laidLooks := .later }
def SpanTimesUptoCardSaid : Prop := Claim7.holds Tryd.pinned (.plain (OpenSpec.upto spanTimesSpec)) spanTimesUptoCard

/-- THE SECOND FORM's CARD OF 'fastilaw02.SpanClips'. -/
def spanClipsUptoCard : Claim7 := { stood := { row := spanClipsUptoRow, standIns := [], harness := (true, "f1da57facfad57ea238233988c7eb57433dfd8821dabf4d3675069ce0dc138e4"), looks := true }, kinds := [], alts := [], laidByText := true, laidKinds := [.data, .pinned], laidTests := true, laidLooks := .later }
def SpanClipsUptoCardSaid : Prop := Claim7.holds Tryd.pinned (.plain (OpenSpec.upto spanClipsSpec)) spanClipsUptoCard

/-- THE SECOND FORM's CARD OF 'fastilaw02.SpanPuts'. -/
def spanPutsUptoCard : Claim7 := { stood := { row := spanPutsUptoRow, standIns := [], harness := (true, "f1da57facfad57ea238233988c7eb57433dfd8821dabf4d3675069ce0dc138e4"), looks := true }, kinds := [], alts := [], laidByText := true, laidKinds := [.data, .pinned], laidTests := true, laidLooks := .later }
def SpanPutsUptoCardSaid : Prop := Claim7.holds Tryd.pinned (.plain (OpenSpec.upto spanPutsSpec)) spanPutsUptoCard

/-- THE SECOND FORM's CARD OF 'fastilaw02.SpanDiffs'. -/
def spanDiffsUptoCard : Claim7 := { stood := { row := spanDiffsUptoRow, standIns := [], harness := (true, "f1da57facfad57ea238233988c7eb57433dfd8821dabf4d3675069ce0dc138e4"), looks := true }, kinds := [], alts := [], laidByText := true, laidKinds := [.data, .pinned], laidTests := true, laidLooks := .later }
def SpanDiffsUptoCardSaid : Prop := Claim7.holds Tryd.pinned (.plain (OpenSpec.upto spanDiffsSpec)) spanDiffsUptoCard

/-- THE SECOND FORM's CARD OF 'fastilaw02.SpanTurns'. -/
def spanTurnsUptoCard : Claim7 := { stood := { row := spanTurnsUptoRow, standIns := [], harness := (true, "f1da57facfad57ea238233988c7eb57433dfd8821dabf4d3675069ce0dc138e4"), looks := true }, kinds := [], alts := [], laidByText := true, laidKinds := [.data, .pinned], laidTests := true, laidLooks := .later }
def SpanTurnsUptoCardSaid : Prop := Claim7.holds Tryd.pinned (.plain (OpenSpec.upto spanTurnsSpec)) spanTurnsUptoCard
end Rows
end Go.Proofs.YtedniogmjhhhmaaDoor
