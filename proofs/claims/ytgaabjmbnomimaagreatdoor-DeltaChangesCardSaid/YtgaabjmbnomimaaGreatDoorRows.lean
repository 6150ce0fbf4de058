/-
  NARROWER THAN 'FOR EVERY INPUT', by the rows' own cells (each row's printed sentence says how): CherryTells: loops, laid · RadixTurns: loops, laid · DeltaChanges: loops, laid · DeltaApplies: loops, laid · DeltaWithin: loops, laid.
  DERIVED. THE GIVEN ROWS OF THIS SEAT. 5 by the template 'for every input the law returns true; each argument reads behind the call as it read before'; 0 by the template 'total and deterministic' (their statements: YtgaabjmbnomimaaGreatDoorTotals.lean).
  GIVEN WITH THE SEED: the statements are not yours to turn. If you find one false, say at which input.
  Laid BY PROGRAM, IN A SANDBOX (cutbox-rows.mjs): the forced cells as the released guide's own fill.sh prints them over the translation 6fd3bdcff40b6c57… (all of the seat's roots in one cut). By AI agents, Wed Nov 11 2026. No macro, syntax, notation, axiom, sorry.
-/
import Derived.Test.YtgaabjmbnomimaaGreatDoorChecked
import GoSem.PinnedTables
import GoSem.Claim
import GoSem.ClaimJoined
import GoSem.ClaimMapViews
import Derived.JoinedTies
import Derived.KernelRfl
namespace Go.Proofs.YtgaabjmbnomimaaGreatDoor
/- THE CELL 'sum', in the pinned program and in every row, IS THE sha256 OF THE DUMP (.gsa) THAT YtgaabjmbnomimaaGreatDoorProg.lean LOADS. Nothing in Lean hashes anything: it is a label: what it is worth is what the hold of that sum in a sandbox is worth. -/
noncomputable def Tryz.pinned : Pinned := { name := "ytgaabjmbnomimaagreatdoor", sum := "6fd3bdcff40b6c57a06e0801bb3cca9317b5e18fa62ed593def7856770f4516d", checked := Tryz.checked }
namespace Rows
def none {H : Type} : Left H := { results := [], args := [] }

/- WHAT THE LISTED PACKAGE-LEVEL VARIABLES READ AS WHEN THE CALL BEGINS. Each datum BY PROGRAM (the guide's laid-datum.mjs) off the statement by which the dump's own 'gosem.cut.vars' lays the variable. In a bare row this is a premise. The card (YtgaabjmbnomimaaGreatDoorCards.lean) ties it to the program's text. -/
def laid_unicode_utf8_acceptRanges {H : Type} : DataW H := .agg [.agg [.lit (.int .u8 128), .lit (.int .u8 191)], .agg [.lit (.int .u8 160), .lit (.int .u8 191)], .agg [.lit (.int .u8 128), .lit (.int .u8 159)], .agg [.lit (.int .u8 144), .lit (.int .u8 191)], .agg [.lit (.int .u8 128), .lit (.int .u8 143)], .agg [.lit (.int .u8 0), .lit (.int .u8 0)], .agg [.lit (.int .u8 0), .lit (.int .u8 0)], .agg [.lit (.int .u8 0), .lit (.int .u8 0)], .agg [.lit (.int .u8 0), .lit (.int .u8 0)], .agg [.lit (.int .u8 0), .lit (.int .u8 0)], .agg [.lit (.int .u8 0), .lit (.int .u8 0)], .agg [.lit (.int .u8 0), .lit (.int .u8 0)], .agg [.lit (.int .u8 0), .lit (.int .u8 0)], .agg [.lit (.int .u8 0), .lit (.int .u8 0)], .agg [.lit (.int .u8 0), .lit (.int .u8 0)], .agg [.lit (.int .u8 0), .lit (.int .u8 0)]]
/-- One of Go's own tables, pinned by name: the form's constant. -/
def laid_unicode_utf8_first : DataW Unit := Go.Pinned.utf8First

/-- 'fastilaw30.CherryTells': WHATEVER THE INPUT: true; the input reads as it did. -/
def cherryTellsSpec : ChangeSpec := { name := "cherryTells", fn := fun _ => fun
  | [d1, d2, d3, d4] => { results := [.lit (.bool true)], args := [d1, d2, d3, d4] }
  | _ => none }
def cherryTellsRow : OpenClaim := { program := "ytgaabjmbnomimaagreatdoor", sum := "6fd3bdcff40b6c57a06e0801bb3cca9317b5e18fa62ed593def7856770f4516d", func := "fasti/fastilaw30.CherryTells", spec := "cherryTells", inPlace := ["slices.overlaps[fasti/api.Trie]"], unfollowed := true, recurses := true, named := ["unicode/utf8.first", "unicode/utf8.acceptRanges"], loops := true, apart := false, laid := [("unicode/utf8.acceptRanges", laid_unicode_utf8_acceptRanges), ("unicode/utf8.first", laid_unicode_utf8_first)] }
def CherryTellsSaid : Prop := cherryTellsRow.holds Tryz.pinned (OpenSpec.ofChange cherryTellsSpec)

/-- ITS FALSE NEIGHBOUR: 'it returns false'. Refute it at one input. -/
def cherryTellsWrong : ChangeSpec := { name := "cherryTells", fn := fun _ => fun
  | [d1, d2, d3, d4] => { results := [.lit (.bool false)], args := [d1, d2, d3, d4] }
  | _ => none }
def CherryTellsWrongFalsely : Prop := cherryTellsRow.holds Tryz.pinned (OpenSpec.ofChange cherryTellsWrong)

/-- 'fastilaw09.RadixTurns': WHATEVER THE INPUT: true; the input reads as it did. -/
def radixTurnsSpec : ChangeSpec := { name := "radixTurns", fn := fun _ => fun
  | [d1, d2, d3, d4] => { results := [.lit (.bool true)], args := [d1, d2, d3, d4] }
  | _ => none }
def radixTurnsRow : OpenClaim := { program := "ytgaabjmbnomimaagreatdoor", sum := "6fd3bdcff40b6c57a06e0801bb3cca9317b5e18fa62ed593def7856770f4516d", func := "fasti/fastilaw09.RadixTurns", spec := "radixTurns", inPlace := ["internal/bytealg.abigen_runtime_cmpstring", "slices.overlaps[fasti/api.Trie]"], unfollowed := true, recurses := true, named := ["unicode/utf8.first", "unicode/utf8.acceptRanges"], loops := true, apart := false, laid := [("unicode/utf8.acceptRanges", laid_unicode_utf8_acceptRanges), ("unicode/utf8.first", laid_unicode_utf8_first)] }
def RadixTurnsSaid : Prop := radixTurnsRow.holds Tryz.pinned (OpenSpec.ofChange radixTurnsSpec)

/-- ITS FALSE NEIGHBOUR: 'it returns false'. Refute it at one input. -/
def radixTurnsWrong : ChangeSpec := { name := "radixTurns", fn := fun _ => fun
  | [d1, d2, d3, d4] => { results := [.lit (.bool false)], args := [d1, d2, d3, d4] }
  | _ => none }
def RadixTurnsWrongFalsely : Prop := radixTurnsRow.holds Tryz.pinned (OpenSpec.ofChange radixTurnsWrong)

/-- 'fastilaw11.DeltaChanges': WHATEVER THE INPUT: true; the input reads as it did. -/
def deltaChangesSpec : ChangeSpec := { name := "deltaChanges", fn := fun _ => fun
  | [d1, d2, d3] => { results := [.lit (.bool true)], args := [d1, d2, d3] }
  | _ => none }
def deltaChangesRow : OpenClaim := { program := "ytgaabjmbnomimaagreatdoor", sum := "6fd3bdcff40b6c57a06e0801bb3cca9317b5e18fa62ed593def7856770f4516d", func := "fasti/fastilaw11.DeltaChanges", spec := "deltaChanges", inPlace := ["internal/bytealg.abigen_runtime_cmpstring", "slices.overlaps[fasti/api.Trie]"], unfollowed := true, recurses := true, named := ["unicode/utf8.first", "unicode/utf8.acceptRanges"], loops := true, apart := false, laid := [("unicode/utf8.acceptRanges", laid_unicode_utf8_acceptRanges), ("unicode/utf8.first", laid_unicode_utf8_first)] }
def DeltaChangesSaid : Prop := deltaChangesRow.holds Tryz.pinned (OpenSpec.ofChange deltaChangesSpec)

/-- ITS FALSE NEIGHBOUR: 'it returns false'. Refute it at one input. -/
def deltaChangesWrong : ChangeSpec := { name := "deltaChanges", fn := fun _ => fun
  | [d1, d2, d3] => { results := [.lit (.bool false)], args := [d1, d2, d3] }
  | _ => none }
def DeltaChangesWrongFalsely : Prop := deltaChangesRow.holds Tryz.pinned (OpenSpec.ofChange deltaChangesWrong)

/-- 'fastilaw11.DeltaApplies': WHATEVER THE INPUT: true; the input reads as it did. -/
def deltaAppliesSpec : ChangeSpec := { name := "deltaApplies", fn := fun _ => fun
  | [d1, d2] => { results := [.lit (.bool true)], args := [d1, d2] }
  | _ => none }
def deltaAppliesRow : OpenClaim := { program := "ytgaabjmbnomimaagreatdoor", sum := "6fd3bdcff40b6c57a06e0801bb3cca9317b5e18fa62ed593def7856770f4516d", func := "fasti/fastilaw11.DeltaApplies", spec := "deltaApplies", inPlace := ["internal/bytealg.abigen_runtime_cmpstring", "slices.overlaps[fasti/api.Trie]"], unfollowed := true, recurses := true, named := ["unicode/utf8.first", "unicode/utf8.acceptRanges"], loops := true, apart := false, laid := [("unicode/utf8.acceptRanges", laid_unicode_utf8_acceptRanges), ("unicode/utf8.first", laid_unicode_utf8_first)] }
def DeltaAppliesSaid : Prop := deltaAppliesRow.holds Tryz.pinned (OpenSpec.ofChange deltaAppliesSpec)

/-- ITS FALSE NEIGHBOUR: 'it returns false'. Refute it at one input. -/
def deltaAppliesWrong : ChangeSpec := { name := "deltaApplies", fn := fun _ => fun
  | [d1, d2] => { results := [.lit (.bool false)], args := [d1, d2] }
  | _ => none }
def DeltaAppliesWrongFalsely : Prop := deltaAppliesRow.holds Tryz.pinned (OpenSpec.ofChange deltaAppliesWrong)

/-- 'fastilaw11.DeltaWithin': WHATEVER THE INPUT: true; the input reads as it did. -/
def deltaWithinSpec : ChangeSpec := { name := "deltaWithin", fn := fun _ => fun
  | [d1, d2, d3, d4] => { results := [.lit (.bool true)], args := [d1, d2, d3, d4] }
  | _ => none }
def deltaWithinRow : OpenClaim := { program := "ytgaabjmbnomimaagreatdoor", sum := "6fd3bdcff40b6c57a06e0801bb3cca9317b5e18fa62ed593def7856770f4516d", func := "fasti/fastilaw11.DeltaWithin", spec := "deltaWithin", inPlace := ["internal/bytealg.abigen_runtime_cmpstring", "slices.overlaps[fasti/api.Trie]"], unfollowed := true, recurses := true, named := ["unicode/utf8.first", "unicode/utf8.acceptRanges"], loops := true, apart := false, laid := [("unicode/utf8.acceptRanges", laid_unicode_utf8_acceptRanges), ("unicode/utf8.first", laid_unicode_utf8_first)] }
def DeltaWithinSaid : Prop := deltaWithinRow.holds Tryz.pinned (OpenSpec.ofChange deltaWithinSpec)

/-- ITS FALSE NEIGHBOUR: 'it returns false'. Refute it at one input. -/
def deltaWithinWrong : ChangeSpec := { name := "deltaWithin", fn := fun _ => fun
  | [d1, d2, d3, d4] => { results := [.lit (.bool false)], args := [d1, d2, d3, d4] }
  | _ => none }
def DeltaWithinWrongFalsely : Prop := deltaWithinRow.holds Tryz.pinned (OpenSpec.ofChange deltaWithinWrong)

/- THE SECOND FORM. 'bulk': how many values and letters a reading holds, each counted each time it is reached (what is shared counts as often as it is met; a slice's spare places count too). A statement '..UptoSaid' is the law's where the arguments, and the package variables that the reading takes, are together of bulk at most 1048576: NARROWER than '..Said'. Prove '..Said' where nothing that the law and all that it calls make is longer than what came in: it says more and counts as full. Else prove '..UptoSaid'. A law counts once. -/
mutual
def uptoBulk {H : Type} : DataW H → Nat
  | .lit (.string bytes) => bytes.length + 1
  | .lit _ => 1
  | .nil => 1
  | .ptr d => uptoBulk d + 1
  | .slice elems spare => uptoBulkAll elems + uptoBulkAll spare + 1
  | .agg parts => uptoBulkAll parts + 1
  | .iface _ d => uptoBulk d + 1
  | .map entries => uptoBulkEntries entries + 1
  | .held _ => 1
def uptoBulkAll {H : Type} : List (DataW H) → Nat
  | [] => 0
  | d :: r => uptoBulk d + uptoBulkAll r
def uptoBulkEntries {H : Type} : List (Lit × DataW H) → Nat
  | [] => 0
  | x :: r => uptoBulkEntry x + uptoBulkEntries r
def uptoBulkEntry {H : Type} : Lit × DataW H → Nat
  | (.string bytes, d) => bytes.length + uptoBulk d + 1
  | (_, d) => uptoBulk d + 1
 end
def uptoSmall : (H : Type) → List (DataW H) → Bool := fun _ ds => decide (uptoBulkAll ds ≤ 1048576)
def OpenSpec.upto (s : _root_.Go.ChangeSpec) : _root_.Go.OpenSpec := { _root_.Go.OpenSpec.ofChange s with cond := some uptoSmall }

/-- 'fastilaw30.CherryTells', WHERE WHAT IT READS IS OF BULK AT MOST 1048576: true; the input reads as it did. -/
def cherryTellsUptoRow : OpenClaim := { program := "ytgaabjmbnomimaagreatdoor", sum := "6fd3bdcff40b6c57a06e0801bb3cca9317b5e18fa62ed593def7856770f4516d", func := "fasti/fastilaw30.CherryTells", spec := "cherryTells", inPlace := ["slices.overlaps[fasti/api.Trie]"], unfollowed := true, recurses := true, named := ["unicode/utf8.first", "unicode/utf8.acceptRanges"], loops := true, apart := false, laid := [("unicode/utf8.acceptRanges", laid_unicode_utf8_acceptRanges), ("unicode/utf8.first", laid_unicode_utf8_first)], narrowed := true }
def CherryTellsUptoSaid : Prop := cherryTellsUptoRow.holds Tryz.pinned (OpenSpec.upto cherryTellsSpec)

/-- 'fastilaw09.RadixTurns', WHERE WHAT IT READS IS OF BULK AT MOST 1048576: true; the input reads as it did. -/
def radixTurnsUptoRow : OpenClaim := { program := "ytgaabjmbnomimaagreatdoor", sum := "6fd3bdcff40b6c57a06e0801bb3cca9317b5e18fa62ed593def7856770f4516d", func := "fasti/fastilaw09.RadixTurns", spec := "radixTurns", inPlace := ["internal/bytealg.abigen_runtime_cmpstring", "slices.overlaps[fasti/api.Trie]"], unfollowed := true, recurses := true, named := ["unicode/utf8.first", "unicode/utf8.acceptRanges"], loops := true, apart := false, laid := [("unicode/utf8.acceptRanges", laid_unicode_utf8_acceptRanges), ("unicode/utf8.first", laid_unicode_utf8_first)], narrowed := true }
def RadixTurnsUptoSaid : Prop := radixTurnsUptoRow.holds Tryz.pinned (OpenSpec.upto radixTurnsSpec)

/-- 'fastilaw11.DeltaChanges', WHERE WHAT IT READS IS OF BULK AT MOST 1048576: true; the input reads as it did. -/
def deltaChangesUptoRow : OpenClaim := { program := "ytgaabjmbnomimaagreatdoor", sum := "6fd3bdcff40b6c57a06e0801bb3cca9317b5e18fa62ed593def7856770f4516d", func := "fasti/fastilaw11.DeltaChanges", spec := "deltaChanges", inPlace := ["internal/bytealg.abigen_runtime_cmpstring", "slices.overlaps[fasti/api.Trie]"], unfollowed := true, recurses := true, named := ["unicode/utf8.first", "unicode/utf8.acceptRanges"], loops := true, apart := false, laid := [("unicode/utf8.acceptRanges", laid_unicode_utf8_acceptRanges), ("unicode/utf8.first", laid_unicode_utf8_first)], narrowed := true }
def DeltaChangesUptoSaid : Prop := deltaChangesUptoRow.holds Tryz.pinned (OpenSpec.upto deltaChangesSpec)

/-- 'fastilaw11.DeltaApplies', WHERE WHAT IT READS IS OF BULK AT MOST 1048576: true; the input reads as it did. -/
def deltaAppliesUptoRow : OpenClaim := { program := "ytgaabjmbnomimaagreatdoor", sum := "6fd3bdcff40b6c57a06e0801bb3cca9317b5e18fa62ed593def7856770f4516d", func := "fasti/fastilaw11.DeltaApplies", spec := "deltaApplies", inPlace := ["internal/bytealg.abigen_runtime_cmpstring", "slices.overlaps[fasti/api.Trie]"], unfollowed := true, recurses := true, named := ["unicode/utf8.first", "unicode/utf8.acceptRanges"], loops := true, apart := false, laid := [("unicode/utf8.acceptRanges", laid_unicode_utf8_acceptRanges), ("unicode/utf8.first", laid_unicode_utf8_first)], narrowed := true }
def DeltaAppliesUptoSaid : Prop := deltaAppliesUptoRow.holds Tryz.pinned (OpenSpec.upto deltaAppliesSpec)

/-- 'fastilaw11.DeltaWithin', WHERE WHAT IT READS IS OF BULK AT MOST 1048576: true; the input reads as it did. -/
def deltaWithinUptoRow : OpenClaim := { program := "ytgaabjmbnomimaagreatdoor", sum := "6fd3bdcff40b6c57a06e0801bb3cca9317b5e18fa62ed593def7856770f4516d", func := "fasti/fastilaw11.DeltaWithin", spec := "deltaWithin", inPlace := ["internal/bytealg.abigen_runtime_cmpstring", "slices.overlaps[fasti/api.Trie]"], unfollowed := true, recurses := true, named := ["unicode/utf8.first", "unicode/utf8.acceptRanges"], loops := true, apart := false, laid := [("unicode/utf8.acceptRanges", laid_unicode_utf8_acceptRanges), ("unicode/utf8.first", laid_unicode_utf8_first)], narrowed := true }
def DeltaWithinUptoSaid : Prop := deltaWithinUptoRow.holds Tryz.pinned (OpenSpec.upto deltaWithinSpec)

end Rows
end Go.Proofs.YtgaabjmbnomimaaGreatDoor
