/-
  DERIVED. GIVEN WITH THE SEED: THE CARDS: each row of YtgaabjmbnomimaaGreatDoorRows.lean that lists a variable, with what it lists TIED to the program's text (the seventh form; the later family's looks); each row that meets fmt, with fmt's text TOLD by the authors' own Lean function (tested against real Go, not proved from fmt's source: count such statements apart). THE CARD IS WHAT COUNTS. Prove the row's statement (the work); the ties are given (YtgaabjmbnomimaaGreatDoorTie.lean); close each card by the builder's one call (the guide's Derived/Test/ToyasCard.lean, 'card_holds'). Laid BY PROGRAM, IN A SANDBOX (cutbox-door.mjs). By AI agents, Wed Nov 11 2026. No macro, syntax, notation, axiom, sorry.
-/
import Derived.Test.YtgaabjmbnomimaaGreatDoorRows
import GoSem.ClaimSeven
namespace Go.Proofs.YtgaabjmbnomimaaGreatDoor
namespace Rows

/-- THE TIED CARD OF 'fastilaw30.CherryTells'. -/
def cherryTellsCard : Claim7 := { stood := { row := cherryTellsRow, standIns := [], harness := (true, "be307219b6eaeb71b7c6ba33944e196c5903c6079022ebc727c3f76478759a92"), looks := true }, kinds := [], alts := [], laidByText := true, laidKinds := [.data, .pinned], laidTests := true, laidLooks := .later }
def CherryTellsCardSaid : Prop := Claim7.holds Tryz.pinned (.plain (OpenSpec.ofChange cherryTellsSpec)) cherryTellsCard

/-- THE TIED CARD OF 'fastilaw09.RadixTurns'. -/
def radixTurnsCard : Claim7 := { stood := { row := radixTurnsRow, standIns := [], harness := (true, "be307219b6eaeb71b7c6ba33944e196c5903c6079022ebc727c3f76478759a92"), looks := true }, kinds := [], alts := [], laidByText := true, laidKinds := [.data, .pinned], laidTests := true, laidLooks := .later }
def RadixTurnsCardSaid : Prop := Claim7.holds Tryz.pinned (.plain (OpenSpec.ofChange radixTurnsSpec)) radixTurnsCard

/-- THE TIED CARD OF 'fastilaw11.DeltaChanges'. -/
def deltaChangesCard : Claim7 := { stood := { row := deltaChangesRow, standIns := [], harness := (true, "be307219b6eaeb71b7c6ba33944e196c5903c6079022ebc727c3f76478759a92"), looks := true }, kinds := [], alts := [], laidByText := true, laidKinds := [.data, .pinned], laidTests := true, laidLooks := .later }
def DeltaChangesCardSaid : Prop := Claim7.holds Tryz.pinned (.plain (OpenSpec.ofChange deltaChangesSpec)) deltaChangesCard

/-- THE TIED CARD OF 'fastilaw11.DeltaApplies'. -/
def deltaAppliesCard : Claim7 := { stood := { row := deltaAppliesRow, standIns := [], harness := (true, "be307219b6eaeb71b7c6ba33944e196c5903c6079022ebc727c3f76478759a92"), looks := true }, kinds := [], alts := [], laidByText := true, laidKinds := [.data, .pinned], laidTests := true, laidLooks := .later }
def DeltaAppliesCardSaid : Prop := Claim7.holds Tryz.pinned (.plain (OpenSpec.ofChange deltaAppliesSpec)) deltaAppliesCard

/-- THE TIED CARD OF 'fastilaw11.DeltaWithin'. -/
def deltaWithinCard : Claim7 := { stood := { row := deltaWithinRow, standIns := [], harness := (true, "be307219b6eaeb71b7c6ba33944e196c5903c6079022ebc727c3f76478759a92"), looks := true }, kinds := [], alts := [], laidByText := true, laidKinds := [.data, .pinned], laidTests := true, laidLooks := .later }
def DeltaWithinCardSaid : Prop := Claim7.holds Tryz.pinned (.plain (OpenSpec.ofChange deltaWithinSpec)) deltaWithinCard

/-- THE SECOND FORM's CARD OF 'fastilaw30.CherryTells'. -/
def cherryTellsUptoCard : Claim7 := { stood := { row := cherryTellsUptoRow, standIns := [], harness := (true, "be307219b6eaeb71b7c6ba33944e196c5903c6079022ebc727c3f76478759a92"), looks := true }, kinds := [], alts := [], laidByText := true, laidKinds := [.data, .pinned], laidTests := true, laidLooks := .later }
def CherryTellsUptoCardSaid : Prop := Claim7.holds Tryz.pinned (.plain (OpenSpec.upto cherryTellsSpec)) cherryTellsUptoCard

/-- THE SECOND FORM's CARD OF 'fastilaw09.RadixTurns'. -/
def radixTurnsUptoCard : Claim7 := { stood := { row := radixTurnsUptoRow, standIns := [], harness := (true, "be307219b6eaeb71b7c6ba33944e196c5903c6079022ebc727c3f76478759a92"), looks := true }, kinds := [], alts := [], laidByText := true, laidKinds := [.data, .pinned], laidTests := true, laidLooks := .later }
def RadixTurnsUptoCardSaid : Prop := Claim7.holds Tryz.pinned (.plain (OpenSpec.upto radixTurnsSpec)) radixTurnsUptoCard

/-- THE SECOND FORM's CARD OF 'fastilaw11.DeltaChanges'. -/
def deltaChangesUptoCard : Claim7 := { stood := { row := deltaChangesUptoRow, standIns := [], harness := (true, "be307219b6eaeb71b7c6ba33944e196c5903c6079022ebc727c3f76478759a92"), looks := true }, kinds := [], alts := [], laidByText := true, laidKinds := [.data, .pinned], laidTests := true, laidLooks := .later }
def DeltaChangesUptoCardSaid : Prop := Claim7.holds Tryz.pinned (.plain (OpenSpec.upto deltaChangesSpec)) deltaChangesUptoCard

/-- THE SECOND FORM's CARD OF 'fastilaw11.DeltaApplies'. -/
def deltaAppliesUptoCard : Claim7 := { stood := { row := deltaAppliesUptoRow, standIns := [], harness := (true, "be307219b6eaeb71b7c6ba33944e196c5903c6079022ebc727c3f76478759a92"), looks := true }, kinds := [], alts := [], laidByText := true, laidKinds := [.data, .pinned], laidTests := true, laidLooks := .later }
def DeltaAppliesUptoCardSaid : Prop := Claim7.holds Tryz.pinned (.plain (OpenSpec.upto deltaAppliesSpec)) deltaAppliesUptoCard

/-- THE SECOND FORM's CARD OF 'fastilaw11.DeltaWithin'. -/
def deltaWithinUptoCard : Claim7 := { stood := { row := deltaWithinUptoRow, standIns := [], harness := (true, "be307219b6eaeb71b7c6ba33944e196c5903c6079022ebc727c3f76478759a92"), looks := true }, kinds := [], alts := [], laidByText := true, laidKinds := [.data, .pinned], laidTests := true, laidLooks := .later }
def DeltaWithinUptoCardSaid : Prop := Claim7.holds Tryz.pinned (.plain (OpenSpec.upto deltaWithinSpec)) deltaWithinUptoCard
end Rows
end Go.Proofs.YtgaabjmbnomimaaGreatDoor
