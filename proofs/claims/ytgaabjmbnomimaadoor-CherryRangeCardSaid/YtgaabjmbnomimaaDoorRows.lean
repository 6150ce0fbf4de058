/-
  NARROWER THAN 'FOR EVERY INPUT', by the rows' own cells (each row's printed sentence says how): CherryOwn: loops, laid · CherryMoves: loops, laid · CherryRange: loops, laid · RadixApart: loops, laid · RadixBuilds: loops, laid · RadixOne: laid · RadixParts: loops, laid · DeltaMerges: loops, laid · DeltaSides: loops, laid · DeltaBack: loops, laid.
  DERIVED. THE GIVEN ROWS OF THIS SEAT. 10 by the template 'for every input the law returns true; each argument reads behind the call as it read before'; 0 by the template 'total and deterministic' (their statements: YtgaabjmbnomimaaDoorTotals.lean).
  GIVEN WITH THE SEED: the statements are not yours to turn. If you find one false, say at which input.
  Laid BY PROGRAM, IN A SANDBOX (cutbox-rows.mjs): the forced cells as the released guide's own fill.sh prints them over the translation b29d3f52c0c22e42… (all of the seat's roots in one cut). By AI agents, Wed Nov 11 2026. No macro, syntax, notation, axiom, sorry.
-/
import Derived.Test.YtgaabjmbnomimaaDoorChecked
import GoSem.PinnedTables
import GoSem.Claim
import GoSem.ClaimJoined
import GoSem.ClaimMapViews
import Derived.JoinedTies
import Derived.KernelRfl
namespace Go.Proofs.YtgaabjmbnomimaaDoor
/- THE CELL 'sum', in the pinned program and in every row, IS THE sha256 OF THE DUMP (.gsa) THAT YtgaabjmbnomimaaDoorProg.lean LOADS. Nothing in Lean hashes anything: it is a label: what it is worth is what the hold of that sum in a sandbox is worth. -/
noncomputable def Tryd.pinned : Pinned := { name := "ytgaabjmbnomimaadoor", sum := "b29d3f52c0c22e42f1187d37b688bd31ced998c5288fb21227bb6f509190443d", checked := Tryd.checked }
namespace Rows
def none {H : Type} : Left H := { results := [], args := [] }

/- WHAT THE LISTED PACKAGE-LEVEL VARIABLES READ AS WHEN THE CALL BEGINS. Each datum BY PROGRAM (the guide's laid-datum.mjs) off the statement by which the dump's own 'gosem.cut.vars' lays the variable. In a bare row this is a premise. The card (YtgaabjmbnomimaaDoorCards.lean) ties it to the program's text. -/
def laid_unicode_utf8_acceptRanges {H : Type} : DataW H := .agg [.agg [.lit (.int .u8 128), .lit (.int .u8 191)], .agg [.lit (.int .u8 160), .lit (.int .u8 191)], .agg [.lit (.int .u8 128), .lit (.int .u8 159)], .agg [.lit (.int .u8 144), .lit (.int .u8 191)], .agg [.lit (.int .u8 128), .lit (.int .u8 143)], .agg [.lit (.int .u8 0), .lit (.int .u8 0)], .agg [.lit (.int .u8 0), .lit (.int .u8 0)], .agg [.lit (.int .u8 0), .lit (.int .u8 0)], .agg [.lit (.int .u8 0), .lit (.int .u8 0)], .agg [.lit (.int .u8 0), .lit (.int .u8 0)], .agg [.lit (.int .u8 0), .lit (.int .u8 0)], .agg [.lit (.int .u8 0), .lit (.int .u8 0)], .agg [.lit (.int .u8 0), .lit (.int .u8 0)], .agg [.lit (.int .u8 0), .lit (.int .u8 0)], .agg [.lit (.int .u8 0), .lit (.int .u8 0)], .agg [.lit (.int .u8 0), .lit (.int .u8 0)]]
/-- One of Go's own tables, pinned by name: the form's constant. -/
def laid_unicode_utf8_first : DataW Unit := Go.Pinned.utf8First

/-- 'fastilaw30.CherryOwn': WHATEVER THE INPUT: true; the input reads as it did. -/
def cherryOwnSpec : ChangeSpec := { name := "cherryOwn", fn := fun _ => fun
  | [d1, d2] => { results := [.lit (.bool true)], args := [d1, d2] }
  | _ => none }
def cherryOwnRow : OpenClaim := { program := "ytgaabjmbnomimaadoor", sum := "b29d3f52c0c22e42f1187d37b688bd31ced998c5288fb21227bb6f509190443d", func := "fasti/fastilaw30.CherryOwn", spec := "cherryOwn", inPlace := ["slices.overlaps[fasti/api.Trie]"], unfollowed := true, recurses := true, named := ["unicode/utf8.first", "unicode/utf8.acceptRanges"], loops := true, apart := false, laid := [("unicode/utf8.acceptRanges", laid_unicode_utf8_acceptRanges), ("unicode/utf8.first", laid_unicode_utf8_first)] }
def CherryOwnSaid : Prop := cherryOwnRow.holds Tryd.pinned (OpenSpec.ofChange cherryOwnSpec)

/-- ITS FALSE NEIGHBOUR: 'it returns false'. Refute it at one input. -/
def cherryOwnWrong : ChangeSpec := { name := "cherryOwn", fn := fun _ => fun
  | [d1, d2] => { results := [.lit (.bool false)], args := [d1, d2] }
  | _ => none }
def CherryOwnWrongFalsely : Prop := cherryOwnRow.holds Tryd.pinned (OpenSpec.ofChange cherryOwnWrong)

/-- 'fastilaw30.CherryMoves': WHATEVER THE INPUT: true; the input reads as it did. -/
def cherryMovesSpec : ChangeSpec := { name := "cherryMoves", fn := fun _ => fun
  | [d1, d2, d3, d4] => { results := [.lit (.bool true)], args := [d1, d2, d3, d4] }
  | _ => none }
def cherryMovesRow : OpenClaim := { program := "ytgaabjmbnomimaadoor", sum := "b29d3f52c0c22e42f1187d37b688bd31ced998c5288fb21227bb6f509190443d", func := "fasti/fastilaw30.CherryMoves", spec := "cherryMoves", inPlace := ["slices.overlaps[fasti/api.Trie]"], unfollowed := true, recurses := true, named := ["unicode/utf8.first", "unicode/utf8.acceptRanges"], loops := true, apart := false, laid := [("unicode/utf8.acceptRanges", laid_unicode_utf8_acceptRanges), ("unicode/utf8.first", laid_unicode_utf8_first)] }
def CherryMovesSaid : Prop := cherryMovesRow.holds Tryd.pinned (OpenSpec.ofChange cherryMovesSpec)

/-- ITS FALSE NEIGHBOUR: 'it returns false'. Refute it at one input. -/
def cherryMovesWrong : ChangeSpec := { name := "cherryMoves", fn := fun _ => fun
  | [d1, d2, d3, d4] => { results := [.lit (.bool false)], args := [d1, d2, d3, d4] }
  | _ => none }
def CherryMovesWrongFalsely : Prop := cherryMovesRow.holds Tryd.pinned (OpenSpec.ofChange cherryMovesWrong)

/-- 'fastilaw30.CherryRange': WHATEVER THE INPUT: true; the input reads as it did. -/
def cherryRangeSpec : ChangeSpec := { name := "cherryRange", fn := fun _ => fun
  | [d1, d2, d3] => { results := [.lit (.bool true)], args := [d1, d2, d3] }
  | _ => none }
def cherryRangeRow : OpenClaim := { program := "ytgaabjmbnomimaadoor", sum := "b29d3f52c0c22e42f1187d37b688bd31ced998c5288fb21227bb6f509190443d", func := "fasti/fastilaw30.CherryRange", spec := "cherryRange", inPlace := ["slices.overlaps[fasti/api.Trie]"], unfollowed := true, recurses := true, named := ["unicode/utf8.first", "unicode/utf8.acceptRanges"], loops := true, apart := false, laid := [("unicode/utf8.acceptRanges", laid_unicode_utf8_acceptRanges), ("unicode/utf8.first", laid_unicode_utf8_first)] }
def CherryRangeSaid : Prop := cherryRangeRow.holds Tryd.pinned (OpenSpec.ofChange cherryRangeSpec)

/-- ITS FALSE NEIGHBOUR: 'it returns false'. Refute it at one input. -/
def cherryRangeWrong : ChangeSpec := { name := "cherryRange", fn := fun _ => fun
  | [d1, d2, d3] => { results := [.lit (.bool false)], args := [d1, d2, d3] }
  | _ => none }
def CherryRangeWrongFalsely : Prop := cherryRangeRow.holds Tryd.pinned (OpenSpec.ofChange cherryRangeWrong)

/-- 'fastilaw09.RadixApart': WHATEVER THE INPUT: true; the input reads as it did. -/
def radixApartSpec : ChangeSpec := { name := "radixApart", fn := fun _ => fun
  | [d1, d2, d3, d4] => { results := [.lit (.bool true)], args := [d1, d2, d3, d4] }
  | _ => none }
def radixApartRow : OpenClaim := { program := "ytgaabjmbnomimaadoor", sum := "b29d3f52c0c22e42f1187d37b688bd31ced998c5288fb21227bb6f509190443d", func := "fasti/fastilaw09.RadixApart", spec := "radixApart", inPlace := ["internal/bytealg.abigen_runtime_cmpstring", "slices.overlaps[fasti/api.Trie]"], unfollowed := true, recurses := true, named := ["unicode/utf8.first", "unicode/utf8.acceptRanges"], loops := true, apart := false, laid := [("unicode/utf8.acceptRanges", laid_unicode_utf8_acceptRanges), ("unicode/utf8.first", laid_unicode_utf8_first)] }
def RadixApartSaid : Prop := radixApartRow.holds Tryd.pinned (OpenSpec.ofChange radixApartSpec)

/-- ITS FALSE NEIGHBOUR: 'it returns false'. Refute it at one input. -/
def radixApartWrong : ChangeSpec := { name := "radixApart", fn := fun _ => fun
  | [d1, d2, d3, d4] => { results := [.lit (.bool false)], args := [d1, d2, d3, d4] }
  | _ => none }
def RadixApartWrongFalsely : Prop := radixApartRow.holds Tryd.pinned (OpenSpec.ofChange radixApartWrong)

/-- 'fastilaw09.RadixBuilds': WHATEVER THE INPUT: true; the input reads as it did. -/
def radixBuildsSpec : ChangeSpec := { name := "radixBuilds", fn := fun _ => fun
  | [d1, d2] => { results := [.lit (.bool true)], args := [d1, d2] }
  | _ => none }
def radixBuildsRow : OpenClaim := { program := "ytgaabjmbnomimaadoor", sum := "b29d3f52c0c22e42f1187d37b688bd31ced998c5288fb21227bb6f509190443d", func := "fasti/fastilaw09.RadixBuilds", spec := "radixBuilds", inPlace := ["internal/bytealg.abigen_runtime_cmpstring", "slices.overlaps[fasti/api.Trie]"], unfollowed := true, recurses := true, named := ["unicode/utf8.first", "unicode/utf8.acceptRanges"], loops := true, apart := false, laid := [("unicode/utf8.acceptRanges", laid_unicode_utf8_acceptRanges), ("unicode/utf8.first", laid_unicode_utf8_first)] }
def RadixBuildsSaid : Prop := radixBuildsRow.holds Tryd.pinned (OpenSpec.ofChange radixBuildsSpec)

/-- ITS FALSE NEIGHBOUR: 'it returns false'. Refute it at one input. -/
def radixBuildsWrong : ChangeSpec := { name := "radixBuilds", fn := fun _ => fun
  | [d1, d2] => { results := [.lit (.bool false)], args := [d1, d2] }
  | _ => none }
def RadixBuildsWrongFalsely : Prop := radixBuildsRow.holds Tryd.pinned (OpenSpec.ofChange radixBuildsWrong)

/-- 'fastilaw09.RadixOne': WHATEVER THE INPUT: true; the input reads as it did. -/
def radixOneSpec : ChangeSpec := { name := "radixOne", fn := fun _ => fun
  | [d1, d2] => { results := [.lit (.bool true)], args := [d1, d2] }
  | _ => none }
def radixOneRow : OpenClaim := { program := "ytgaabjmbnomimaadoor", sum := "b29d3f52c0c22e42f1187d37b688bd31ced998c5288fb21227bb6f509190443d", func := "fasti/fastilaw09.RadixOne", spec := "radixOne", inPlace := ["internal/bytealg.abigen_runtime_cmpstring", "slices.overlaps[fasti/api.Trie]"], unfollowed := true, recurses := true, named := ["unicode/utf8.first", "unicode/utf8.acceptRanges"], apart := false, laid := [("unicode/utf8.acceptRanges", laid_unicode_utf8_acceptRanges), ("unicode/utf8.first", laid_unicode_utf8_first)] }
def RadixOneSaid : Prop := radixOneRow.holds Tryd.pinned (OpenSpec.ofChange radixOneSpec)

/-- ITS FALSE NEIGHBOUR: 'it returns false'. Refute it at one input. -/
def radixOneWrong : ChangeSpec := { name := "radixOne", fn := fun _ => fun
  | [d1, d2] => { results := [.lit (.bool false)], args := [d1, d2] }
  | _ => none }
def RadixOneWrongFalsely : Prop := radixOneRow.holds Tryd.pinned (OpenSpec.ofChange radixOneWrong)

/-- 'fastilaw09.RadixParts': WHATEVER THE INPUT: true; the input reads as it did. -/
def radixPartsSpec : ChangeSpec := { name := "radixParts", fn := fun _ => fun
  | [d1, d2, d3, d4] => { results := [.lit (.bool true)], args := [d1, d2, d3, d4] }
  | _ => none }
def radixPartsRow : OpenClaim := { program := "ytgaabjmbnomimaadoor", sum := "b29d3f52c0c22e42f1187d37b688bd31ced998c5288fb21227bb6f509190443d", func := "fasti/fastilaw09.RadixParts", spec := "radixParts", inPlace := ["internal/bytealg.abigen_runtime_cmpstring", "slices.overlaps[fasti/api.Trie]"], unfollowed := true, recurses := true, named := ["unicode/utf8.first", "unicode/utf8.acceptRanges"], loops := true, apart := false, laid := [("unicode/utf8.acceptRanges", laid_unicode_utf8_acceptRanges), ("unicode/utf8.first", laid_unicode_utf8_first)] }
def RadixPartsSaid : Prop := radixPartsRow.holds Tryd.pinned (OpenSpec.ofChange radixPartsSpec)

/-- ITS FALSE NEIGHBOUR: 'it returns false'. Refute it at one input. -/
def radixPartsWrong : ChangeSpec := { name := "radixParts", fn := fun _ => fun
  | [d1, d2, d3, d4] => { results := [.lit (.bool false)], args := [d1, d2, d3, d4] }
  | _ => none }
def RadixPartsWrongFalsely : Prop := radixPartsRow.holds Tryd.pinned (OpenSpec.ofChange radixPartsWrong)

/-- 'fastilaw11.DeltaMerges': WHATEVER THE INPUT: true; the input reads as it did. -/
def deltaMergesSpec : ChangeSpec := { name := "deltaMerges", fn := fun _ => fun
  | [d1, d2, d3] => { results := [.lit (.bool true)], args := [d1, d2, d3] }
  | _ => none }
def deltaMergesRow : OpenClaim := { program := "ytgaabjmbnomimaadoor", sum := "b29d3f52c0c22e42f1187d37b688bd31ced998c5288fb21227bb6f509190443d", func := "fasti/fastilaw11.DeltaMerges", spec := "deltaMerges", inPlace := ["internal/bytealg.abigen_runtime_cmpstring", "slices.overlaps[fasti/api.Trie]"], unfollowed := true, recurses := true, named := ["unicode/utf8.first", "unicode/utf8.acceptRanges"], loops := true, apart := false, laid := [("unicode/utf8.acceptRanges", laid_unicode_utf8_acceptRanges), ("unicode/utf8.first", laid_unicode_utf8_first)] }
def DeltaMergesSaid : Prop := deltaMergesRow.holds Tryd.pinned (OpenSpec.ofChange deltaMergesSpec)

/-- ITS FALSE NEIGHBOUR: 'it returns false'. Refute it at one input. -/
def deltaMergesWrong : ChangeSpec := { name := "deltaMerges", fn := fun _ => fun
  | [d1, d2, d3] => { results := [.lit (.bool false)], args := [d1, d2, d3] }
  | _ => none }
def DeltaMergesWrongFalsely : Prop := deltaMergesRow.holds Tryd.pinned (OpenSpec.ofChange deltaMergesWrong)

/-- 'fastilaw11.DeltaSides': WHATEVER THE INPUT: true; the input reads as it did. -/
def deltaSidesSpec : ChangeSpec := { name := "deltaSides", fn := fun _ => fun
  | [d1, d2, d3] => { results := [.lit (.bool true)], args := [d1, d2, d3] }
  | _ => none }
def deltaSidesRow : OpenClaim := { program := "ytgaabjmbnomimaadoor", sum := "b29d3f52c0c22e42f1187d37b688bd31ced998c5288fb21227bb6f509190443d", func := "fasti/fastilaw11.DeltaSides", spec := "deltaSides", inPlace := ["internal/bytealg.abigen_runtime_cmpstring", "slices.overlaps[fasti/api.Trie]"], unfollowed := true, recurses := true, named := ["unicode/utf8.first", "unicode/utf8.acceptRanges"], loops := true, apart := false, laid := [("unicode/utf8.acceptRanges", laid_unicode_utf8_acceptRanges), ("unicode/utf8.first", laid_unicode_utf8_first)] }
def DeltaSidesSaid : Prop := deltaSidesRow.holds Tryd.pinned (OpenSpec.ofChange deltaSidesSpec)

/-- ITS FALSE NEIGHBOUR: 'it returns false'. Refute it at one input. -/
def deltaSidesWrong : ChangeSpec := { name := "deltaSides", fn := fun _ => fun
  | [d1, d2, d3] => { results := [.lit (.bool false)], args := [d1, d2, d3] }
  | _ => none }
def DeltaSidesWrongFalsely : Prop := deltaSidesRow.holds Tryd.pinned (OpenSpec.ofChange deltaSidesWrong)

/-- 'fastilaw11.DeltaBack': WHATEVER THE INPUT: true; the input reads as it did. -/
def deltaBackSpec : ChangeSpec := { name := "deltaBack", fn := fun _ => fun
  | [d1, d2] => { results := [.lit (.bool true)], args := [d1, d2] }
  | _ => none }
def deltaBackRow : OpenClaim := { program := "ytgaabjmbnomimaadoor", sum := "b29d3f52c0c22e42f1187d37b688bd31ced998c5288fb21227bb6f509190443d", func := "fasti/fastilaw11.DeltaBack", spec := "deltaBack", inPlace := ["internal/bytealg.abigen_runtime_cmpstring", "slices.overlaps[fasti/api.Trie]"], unfollowed := true, recurses := true, named := ["unicode/utf8.first", "unicode/utf8.acceptRanges"], loops := true, apart := false, laid := [("unicode/utf8.acceptRanges", laid_unicode_utf8_acceptRanges), ("unicode/utf8.first", laid_unicode_utf8_first)] }
def DeltaBackSaid : Prop := deltaBackRow.holds Tryd.pinned (OpenSpec.ofChange deltaBackSpec)

/-- ITS FALSE NEIGHBOUR: 'it returns false'. Refute it at one input. -/
def deltaBackWrong : ChangeSpec := { name := "deltaBack", fn := fun _ => fun
  | [d1, d2] => { results := [.lit (.bool false)], args := [d1, d2] }
  | _ => none }
def DeltaBackWrongFalsely : Prop := deltaBackRow.holds Tryd.pinned (OpenSpec.ofChange deltaBackWrong)

/- THE SECOND FORM. 'bulk': how many values and letters a reading holds, each counted each time it is reached (what is shared counts as often as it is met; a slice's spare places count too). A statement '..UptoSaid' is the law's where the arguments, and the package variables that the reading takes, are together of bulk at most 1048576: NARROWER than '..Said'. Prove '..Said' where nothing that the law and all that it calls make is longer than what came in: it says more and counts as full. Else prove '..UptoSaid'. A law counts once. -/
mutual
def uptoBulk {H : Type} : DataW H → Nat
  | .lit (.string bytes) => bytes.length + 1
  | .lit _ => 1
  | .nil => 1
  | .ptr d => uptoBulk d + 1
  | .slice elems spare => uptoBulkAll elems + uptoBulkAll spare + 1
  | .agg parts => uptoBulkAll parts + 1
  | .iface _ d => uptoBulk d + 1
  | .map entries => uptoBulkEntries entries + 1
  | .held _ => 1
def uptoBulkAll {H : Type} : List (DataW H) → Nat
  | [] => 0
  | d :: r => uptoBulk d + uptoBulkAll r
def uptoBulkEntries {H : Type} : List (Lit × DataW H) → Nat
  | [] => 0
  | x :: r => uptoBulkEntry x + uptoBulkEntries r
def uptoBulkEntry {H : Type} : Lit × DataW H → Nat
  | (.string bytes, d) => bytes.length + uptoBulk d + 1
  | (_, d) => uptoBulk d + 1
 end
def uptoSmall : (H : Type) → List (DataW H) → Bool := fun _ ds => decide (uptoBulkAll ds ≤ 1048576)
def OpenSpec.upto (s : _root_.Go.ChangeSpec) : _root_.Go.OpenSpec := { _root_.Go.OpenSpec.ofChange s with cond := some uptoSmall }

/-- 'fastilaw30.CherryOwn', WHERE WHAT IT READS IS OF BULK AT MOST 1048576: true; the input reads as it did. -/
def cherryOwnUptoRow : OpenClaim := { program := "ytgaabjmbnomimaadoor", sum := "b29d3f52c0c22e42f1187d37b688bd31ced998c5288fb21227bb6f509190443d", func := "fasti/fastilaw30.CherryOwn", spec := "cherryOwn", inPlace := ["slices.overlaps[fasti/api.Trie]"], unfollowed := true, recurses := true, named := ["unicode/utf8.first", "unicode/utf8.acceptRanges"], loops := true, apart := false, laid := [("unicode/utf8.acceptRanges", laid_unicode_utf8_acceptRanges), ("unicode/utf8.first", laid_unicode_utf8_first)], narrowed := true }
def CherryOwnUptoSaid : Prop := cherryOwnUptoRow.holds Tryd.pinned (OpenSpec.upto cherryOwnSpec)

/-- 'fastilaw30.CherryMoves', WHERE WHAT IT READS IS OF BULK AT MOST 1048576: true; the input reads as it did. -/
def cherryMovesUptoRow : OpenClaim := { program := "ytgaabjmbnomimaadoor", sum := "b29d3f52c0c22e42f1187d37b688bd31ced998c5288fb21227bb6f509190443d", func := "fasti/fastilaw30.CherryMoves", spec := "cherryMoves", inPlace := ["slices.overlaps[fasti/api.Trie]"], unfollowed := true, recurses := true, named := ["unicode/utf8.first", "unicode/utf8.acceptRanges"], loops := true, apart := false, laid := [("unicode/utf8.acceptRanges", laid_unicode_utf8_acceptRanges), ("unicode/utf8.first", laid_unicode_utf8_first)], narrowed := true }
def CherryMovesUptoSaid : Prop := cherryMovesUptoRow.holds Tryd.pinned (OpenSpec.upto cherryMovesSpec)

/-- 'fastilaw30.CherryRange', WHERE WHAT IT READS IS OF BULK AT MOST 1048576: true; the input reads as it did. -/
def cherryRangeUptoRow : OpenClaim := { program := "ytgaabjmbnomimaadoor", sum := "b29d3f52c0c22e42f1187d37b688bd31ced998c5288fb21227bb6f509190443d", func := "fasti/fastilaw30.CherryRange", spec := "cherryRange", inPlace := ["slices.overlaps[fasti/api.Trie]"], unfollowed := true, recurses := true, named := ["unicode/utf8.first", "unicode/utf8.acceptRanges"], loops := true, apart := false, laid := [("unicode/utf8.acceptRanges", laid_unicode_utf8_acceptRanges), ("unicode/utf8.first", laid_unicode_utf8_first)], narrowed := true }
def CherryRangeUptoSaid : Prop := cherryRangeUptoRow.holds Tryd.pinned (OpenSpec.upto cherryRangeSpec)

/-- 'fastilaw09.RadixApart', WHERE WHAT IT READS IS OF BULK AT MOST 1048576: true; the input reads as it did. -/
def radixApartUptoRow : OpenClaim := { program := "ytgaabjmbnomimaadoor", sum := "b29d3f52c0c22e42f1187d37b688bd31ced998c5288fb21227bb6f509190443d", func := "fasti/fastilaw09.RadixApart", spec := "radixApart", inPlace := ["internal/bytealg.abigen_runtime_cmpstring", "slices.overlaps[fasti/api.Trie]"], unfollowed := true, recurses := true, named := ["unicode/utf8.first", "unicode/utf8.acceptRanges"], loops := true, apart := false, laid := [("unicode/utf8.acceptRanges", laid_unicode_utf8_acceptRanges), ("unicode/utf8.first", laid_unicode_utf8_first)], narrowed := true }
def RadixApartUptoSaid : Prop := radixApartUptoRow.holds Tryd.pinned (OpenSpec.upto radixApartSpec)

/-- 'fastilaw09.RadixBuilds', WHERE WHAT IT READS IS OF BULK AT MOST 1048576: true; the input reads as it did. -/
def radixBuildsUptoRow : OpenClaim := { program := "ytgaabjmbnomimaadoor", sum := "b29d3f52c0c22e42f1187d37b688bd31ced998c5288fb21227bb6f509190443d", func := "fasti/fastilaw09.RadixBuilds", spec := "radixBuilds", inPlace := ["internal/bytealg.abigen_runtime_cmpstring", "slices.overlaps[fasti/api.Trie]"], unfollowed := true, recurses := true, named := ["unicode/utf8.first", "unicode/utf8.acceptRanges"], loops := true, apart := false, laid := [("unicode/utf8.acceptRanges", laid_unicode_utf8_acceptRanges), ("unicode/utf8.first", laid_unicode_utf8_first)], narrowed := true }
def RadixBuildsUptoSaid : Prop := radixBuildsUptoRow.holds Tryd.pinned (OpenSpec.upto radixBuildsSpec)

/-- 'fastilaw09.RadixOne', WHERE WHAT IT READS IS OF BULK AT MOST 1048576: true; the input reads as it did. -/
def radixOneUptoRow : OpenClaim := { program := "ytgaabjmbnomimaadoor", sum := "b29d3f52c0c22e42f1187d37b688bd31ced998c5288fb21227bb6f509190443d", func := "fasti/fastilaw09.RadixOne", spec := "radixOne", inPlace := ["internal/bytealg.abigen_runtime_cmpstring", "slices.overlaps[fasti/api.Trie]"], unfollowed := true, recurses := true, named := ["unicode/utf8.first", "unicode/utf8.acceptRanges"], apart := false, laid := [("unicode/utf8.acceptRanges", laid_unicode_utf8_acceptRanges), ("unicode/utf8.first", laid_unicode_utf8_first)], narrowed := true }
def RadixOneUptoSaid : Prop := radixOneUptoRow.holds Tryd.pinned (OpenSpec.upto radixOneSpec)

/-- 'fastilaw09.RadixParts', WHERE WHAT IT READS IS OF BULK AT MOST 1048576: true; the input reads as it did. -/
def radixPartsUptoRow : OpenClaim := { program := "ytgaabjmbnomimaadoor", sum := "b29d3f52c0c22e42f1187d37b688bd31ced998c5288fb21227bb6f509190443d", func := "fasti/fastilaw09.RadixParts", spec := "radixParts", inPlace := ["internal/bytealg.abigen_runtime_cmpstring", "slices.overlaps[fasti/api.Trie]"], unfollowed := true, recurses := true, named := ["unicode/utf8.first", "unicode/utf8.acceptRanges"], loops := true, apart := false, laid := [("unicode/utf8.acceptRanges", laid_unicode_utf8_acceptRanges), ("unicode/utf8.first", laid_unicode_utf8_first)], narrowed := true }
def RadixPartsUptoSaid : Prop := radixPartsUptoRow.holds Tryd.pinned (OpenSpec.upto radixPartsSpec)

/-- 'fastilaw11.DeltaMerges', WHERE WHAT IT READS IS OF BULK AT MOST 1048576: true; the input reads as it did. -/
def deltaMergesUptoRow : OpenClaim := { program := "ytgaabjmbnomimaadoor", sum := "b29d3f52c0c22e42f1187d37b688bd31ced998c5288fb21227bb6f509190443d", func := "fasti/fastilaw11.DeltaMerges", spec := "deltaMerges", inPlace := ["internal/bytealg.abigen_runtime_cmpstring", "slices.overlaps[fasti/api.Trie]"], unfollowed := true, recurses := true, named := ["unicode/utf8.first", "unicode/utf8.acceptRanges"], loops := true, apart := false, laid := [("unicode/utf8.acceptRanges", laid_unicode_utf8_acceptRanges), ("unicode/utf8.first", laid_unicode_utf8_first)], narrowed := true }
def DeltaMergesUptoSaid : Prop := deltaMergesUptoRow.holds Tryd.pinned (OpenSpec.upto deltaMergesSpec)

/-- 'fastilaw11.DeltaSides', WHERE WHAT IT READS IS OF BULK AT MOST 1048576: true; the input reads as it did. -/
def deltaSidesUptoRow : OpenClaim := { program := "ytgaabjmbnomimaadoor", sum := "b29d3f52c0c22e42f1187d37b688bd31ced998c5288fb21227bb6f509190443d", func := "fasti/fastilaw11.DeltaSides", spec := "deltaSides", inPlace := ["internal/bytealg.abigen_runtime_cmpstring", "slices.overlaps[fasti/api.Trie]"], unfollowed := true, recurses := true, named := ["unicode/utf8.first", "unicode/utf8.acceptRanges"], loops := true, apart := false, laid := [("unicode/utf8.acceptRanges", laid_unicode_utf8_acceptRanges), ("unicode/utf8.first", laid_unicode_utf8_first)], narrowed := true }
def DeltaSidesUptoSaid : Prop := deltaSidesUptoRow.holds Tryd.pinned (OpenSpec.upto deltaSidesSpec)

/-- 'fastilaw11.DeltaBack', WHERE WHAT IT READS IS OF BULK AT MOST 1048576: true; the input reads as it did. -/
def deltaBackUptoRow : OpenClaim := { program := "ytgaabjmbnomimaadoor", sum := "b29d3f52c0c22e42f1187d37b688bd31ced998c5288fb21227bb6f509190443d", func := "fasti/fastilaw11.DeltaBack", spec := "deltaBack", inPlace := ["internal/bytealg.abigen_runtime_cmpstring", "slices.overlaps[fasti/api.Trie]"], unfollowed := true, recurses := true, named := ["unicode/utf8.first", "unicode/utf8.acceptRanges"], loops := true, apart := false, laid := [("unicode/utf8.acceptRanges", laid_unicode_utf8_acceptRanges), ("unicode/utf8.first", laid_unicode_utf8_first)], narrowed := true }
def DeltaBackUptoSaid : Prop := deltaBackUptoRow.holds Tryd.pinned (OpenSpec.upto deltaBackSpec)

end Rows
end Go.Proofs.YtgaabjmbnomimaaDoor
