/-
  NARROWER THAN 'FOR EVERY INPUT', by the rows' own cells (each row's printed sentence says how): SearchHalves: laid · SearchTells: loops, laid · SearchBetween: loops, laid · SearchEver: loops, laid · CherryOwn: loops, laid · CherryMoves: loops, laid · CherryRange: loops, laid · PostingAdds: laid · PostingAll: laid · PostingTells: laid · PostingParts: laid.
  DERIVED. THE GIVEN ROWS OF THIS SEAT. 11 by the template 'for every input the law returns true; each argument reads behind the call as it read before'; 0 by the template 'total and deterministic' (their statements: YtbilmkcdhodenaaDoorTotals.lean).
  GIVEN WITH THE SEED: the statements are not yours to turn. If you find one false, say at which input.
  Laid BY PROGRAM, IN A SANDBOX (cutbox-rows.mjs): the forced cells as the released guide's own fill.sh prints them over the translation 6e593b8c3bfcf6ed… (all of the seat's roots in one cut). By AI agents, Wed Nov 11 2026. No macro, syntax, notation, axiom, sorry.
-/
import Derived.Test.YtbilmkcdhodenaaDoorChecked
import GoSem.PinnedTables
import GoSem.Claim
import GoSem.ClaimJoined
import GoSem.ClaimMapViews
import Derived.JoinedTies
import Derived.KernelRfl
namespace Go.Proofs.YtbilmkcdhodenaaDoor
/- THE CELL 'sum', in the pinned program and in every row, IS THE sha256 OF THE DUMP (.gsa) THAT YtbilmkcdhodenaaDoorProg.lean LOADS. Nothing in Lean hashes anything: it is a label: what it is worth is what the hold of that sum in a sandbox is worth. -/
noncomputable def Tryd.pinned : Pinned := { name := "ytbilmkcdhodenaadoor", sum := "6e593b8c3bfcf6edb4100801e6e4511945e3bb57de0f061f5501d92c4551ce78", checked := Tryd.checked }
namespace Rows
def none {H : Type} : Left H := { results := [], args := [] }

/- WHAT THE LISTED PACKAGE-LEVEL VARIABLES READ AS WHEN THE CALL BEGINS. Each datum BY PROGRAM (the guide's laid-datum.mjs) off the statement by which the dump's own 'gosem.cut.vars' lays the variable. In a bare row this is a premise. The card (YtbilmkcdhodenaaDoorCards.lean) ties it to the program's text. -/
def laid_unicode_utf8_acceptRanges {H : Type} : DataW H := .agg [.agg [.lit (.int .u8 128), .lit (.int .u8 191)], .agg [.lit (.int .u8 160), .lit (.int .u8 191)], .agg [.lit (.int .u8 128), .lit (.int .u8 159)], .agg [.lit (.int .u8 144), .lit (.int .u8 191)], .agg [.lit (.int .u8 128), .lit (.int .u8 143)], .agg [.lit (.int .u8 0), .lit (.int .u8 0)], .agg [.lit (.int .u8 0), .lit (.int .u8 0)], .agg [.lit (.int .u8 0), .lit (.int .u8 0)], .agg [.lit (.int .u8 0), .lit (.int .u8 0)], .agg [.lit (.int .u8 0), .lit (.int .u8 0)], .agg [.lit (.int .u8 0), .lit (.int .u8 0)], .agg [.lit (.int .u8 0), .lit (.int .u8 0)], .agg [.lit (.int .u8 0), .lit (.int .u8 0)], .agg [.lit (.int .u8 0), .lit (.int .u8 0)], .agg [.lit (.int .u8 0), .lit (.int .u8 0)], .agg [.lit (.int .u8 0), .lit (.int .u8 0)]]
/-- One of Go's own tables, pinned by name: the form's constant. -/
def laid_unicode_utf8_first : DataW Unit := Go.Pinned.utf8First

/-- 'fastilaw31.SearchHalves': WHATEVER THE INPUT: true; the input reads as it did. -/
def searchHalvesSpec : ChangeSpec := { name := "searchHalves", fn := fun _ => fun
  | [d1, d2] => { results := [.lit (.bool true)], args := [d1, d2] }
  | _ => none }
def searchHalvesRow : OpenClaim := { program := "ytbilmkcdhodenaadoor", sum := "6e593b8c3bfcf6edb4100801e6e4511945e3bb57de0f061f5501d92c4551ce78", func := "fasti/fastilaw31.SearchHalves", spec := "searchHalves", inPlace := ["slices.overlaps[fasti/api.Trie]"], unfollowed := true, recurses := true, named := ["unicode/utf8.first", "unicode/utf8.acceptRanges"], apart := false, laid := [("unicode/utf8.acceptRanges", laid_unicode_utf8_acceptRanges), ("unicode/utf8.first", laid_unicode_utf8_first)] }
def SearchHalvesSaid : Prop := searchHalvesRow.holds Tryd.pinned (OpenSpec.ofChange searchHalvesSpec)

/-- ITS FALSE NEIGHBOUR: 'it returns false'. Refute it at one input. -/
def searchHalvesWrong : ChangeSpec := { name := "searchHalves", fn := fun _ => fun
  | [d1, d2] => { results := [.lit (.bool false)], args := [d1, d2] }
  | _ => none }
def SearchHalvesWrongFalsely : Prop := searchHalvesRow.holds Tryd.pinned (OpenSpec.ofChange searchHalvesWrong)

/-- 'fastilaw31.SearchTells': WHATEVER THE INPUT: true; the input reads as it did. -/
def searchTellsSpec : ChangeSpec := { name := "searchTells", fn := fun _ => fun
  | [d1, d2, d3, d4, d5] => { results := [.lit (.bool true)], args := [d1, d2, d3, d4, d5] }
  | _ => none }
def searchTellsRow : OpenClaim := { program := "ytbilmkcdhodenaadoor", sum := "6e593b8c3bfcf6edb4100801e6e4511945e3bb57de0f061f5501d92c4551ce78", func := "fasti/fastilaw31.SearchTells", spec := "searchTells", inPlace := ["slices.overlaps[fasti/api.Trie]"], unfollowed := true, recurses := true, named := ["unicode/utf8.first", "unicode/utf8.acceptRanges"], loops := true, apart := false, laid := [("unicode/utf8.acceptRanges", laid_unicode_utf8_acceptRanges), ("unicode/utf8.first", laid_unicode_utf8_first)] }
def SearchTellsSaid : Prop := searchTellsRow.holds Tryd.pinned (OpenSpec.ofChange searchTellsSpec)

/-- ITS FALSE NEIGHBOUR: 'it returns false'. Refute it at one input. -/
def searchTellsWrong : ChangeSpec := { name := "searchTells", fn := fun _ => fun
  | [d1, d2, d3, d4, d5] => { results := [.lit (.bool false)], args := [d1, d2, d3, d4, d5] }
  | _ => none }
def SearchTellsWrongFalsely : Prop := searchTellsRow.holds Tryd.pinned (OpenSpec.ofChange searchTellsWrong)

/-- 'fastilaw31.SearchBetween': WHATEVER THE INPUT: true; the input reads as it did. -/
def searchBetweenSpec : ChangeSpec := { name := "searchBetween", fn := fun _ => fun
  | [d1, d2, d3, d4] => { results := [.lit (.bool true)], args := [d1, d2, d3, d4] }
  | _ => none }
def searchBetweenRow : OpenClaim := { program := "ytbilmkcdhodenaadoor", sum := "6e593b8c3bfcf6edb4100801e6e4511945e3bb57de0f061f5501d92c4551ce78", func := "fasti/fastilaw31.SearchBetween", spec := "searchBetween", inPlace := ["slices.overlaps[fasti/api.Trie]"], unfollowed := true, recurses := true, named := ["unicode/utf8.first", "unicode/utf8.acceptRanges"], loops := true, apart := false, laid := [("unicode/utf8.acceptRanges", laid_unicode_utf8_acceptRanges), ("unicode/utf8.first", laid_unicode_utf8_first)] }
def SearchBetweenSaid : Prop := searchBetweenRow.holds Tryd.pinned (OpenSpec.ofChange searchBetweenSpec)

/-- ITS FALSE NEIGHBOUR: 'it returns false'. Refute it at one input. -/
def searchBetweenWrong : ChangeSpec := { name := "searchBetween", fn := fun _ => fun
  | [d1, d2, d3, d4] => { results := [.lit (.bool false)], args := [d1, d2, d3, d4] }
  | _ => none }
def SearchBetweenWrongFalsely : Prop := searchBetweenRow.holds Tryd.pinned (OpenSpec.ofChange searchBetweenWrong)

/-- 'fastilaw31.SearchEver': WHATEVER THE INPUT: true; the input reads as it did. -/
def searchEverSpec : ChangeSpec := { name := "searchEver", fn := fun _ => fun
  | [d1, d2, d3, d4] => { results := [.lit (.bool true)], args := [d1, d2, d3, d4] }
  | _ => none }
def searchEverRow : OpenClaim := { program := "ytbilmkcdhodenaadoor", sum := "6e593b8c3bfcf6edb4100801e6e4511945e3bb57de0f061f5501d92c4551ce78", func := "fasti/fastilaw31.SearchEver", spec := "searchEver", inPlace := ["slices.overlaps[fasti/api.Trie]"], unfollowed := true, recurses := true, named := ["unicode/utf8.first", "unicode/utf8.acceptRanges"], loops := true, apart := false, laid := [("unicode/utf8.acceptRanges", laid_unicode_utf8_acceptRanges), ("unicode/utf8.first", laid_unicode_utf8_first)] }
def SearchEverSaid : Prop := searchEverRow.holds Tryd.pinned (OpenSpec.ofChange searchEverSpec)

/-- ITS FALSE NEIGHBOUR: 'it returns false'. Refute it at one input. -/
def searchEverWrong : ChangeSpec := { name := "searchEver", fn := fun _ => fun
  | [d1, d2, d3, d4] => { results := [.lit (.bool false)], args := [d1, d2, d3, d4] }
  | _ => none }
def SearchEverWrongFalsely : Prop := searchEverRow.holds Tryd.pinned (OpenSpec.ofChange searchEverWrong)

/-- 'fastilaw30.CherryOwn': WHATEVER THE INPUT: true; the input reads as it did. -/
def cherryOwnSpec : ChangeSpec := { name := "cherryOwn", fn := fun _ => fun
  | [d1, d2] => { results := [.lit (.bool true)], args := [d1, d2] }
  | _ => none }
def cherryOwnRow : OpenClaim := { program := "ytbilmkcdhodenaadoor", sum := "6e593b8c3bfcf6edb4100801e6e4511945e3bb57de0f061f5501d92c4551ce78", func := "fasti/fastilaw30.CherryOwn", spec := "cherryOwn", inPlace := ["slices.overlaps[fasti/api.Trie]"], unfollowed := true, recurses := true, named := ["unicode/utf8.first", "unicode/utf8.acceptRanges"], loops := true, apart := false, laid := [("unicode/utf8.acceptRanges", laid_unicode_utf8_acceptRanges), ("unicode/utf8.first", laid_unicode_utf8_first)] }
def CherryOwnSaid : Prop := cherryOwnRow.holds Tryd.pinned (OpenSpec.ofChange cherryOwnSpec)

/-- ITS FALSE NEIGHBOUR: 'it returns false'. Refute it at one input. -/
def cherryOwnWrong : ChangeSpec := { name := "cherryOwn", fn := fun _ => fun
  | [d1, d2] => { results := [.lit (.bool false)], args := [d1, d2] }
  | _ => none }
def CherryOwnWrongFalsely : Prop := cherryOwnRow.holds Tryd.pinned (OpenSpec.ofChange cherryOwnWrong)

/-- 'fastilaw30.CherryMoves': WHATEVER THE INPUT: true; the input reads as it did. -/
def cherryMovesSpec : ChangeSpec := { name := "cherryMoves", fn := fun _ => fun
  | [d1, d2, d3, d4] => { results := [.lit (.bool true)], args := [d1, d2, d3, d4] }
  | _ => none }
def cherryMovesRow : OpenClaim := { program := "ytbilmkcdhodenaadoor", sum := "6e593b8c3bfcf6edb4100801e6e4511945e3bb57de0f061f5501d92c4551ce78", func := "fasti/fastilaw30.CherryMoves", spec := "cherryMoves", inPlace := ["slices.overlaps[fasti/api.Trie]"], unfollowed := true, recurses := true, named := ["unicode/utf8.first", "unicode/utf8.acceptRanges"], loops := true, apart := false, laid := [("unicode/utf8.acceptRanges", laid_unicode_utf8_acceptRanges), ("unicode/utf8.first", laid_unicode_utf8_first)] }
def CherryMovesSaid : Prop := cherryMovesRow.holds Tryd.pinned (OpenSpec.ofChange cherryMovesSpec)

/-- ITS FALSE NEIGHBOUR: 'it returns false'. Refute it at one input. -/
def cherryMovesWrong : ChangeSpec := { name := "cherryMoves", fn := fun _ => fun
  | [d1, d2, d3, d4] => { results := [.lit (.bool false)], args := [d1, d2, d3, d4] }
  | _ => none }
def CherryMovesWrongFalsely : Prop := cherryMovesRow.holds Tryd.pinned (OpenSpec.ofChange cherryMovesWrong)

/-- 'fastilaw30.CherryRange': WHATEVER THE INPUT: true; the input reads as it did. -/
def cherryRangeSpec : ChangeSpec := { name := "cherryRange", fn := fun _ => fun
  | [d1, d2, d3] => { results := [.lit (.bool true)], args := [d1, d2, d3] }
  | _ => none }
def cherryRangeRow : OpenClaim := { program := "ytbilmkcdhodenaadoor", sum := "6e593b8c3bfcf6edb4100801e6e4511945e3bb57de0f061f5501d92c4551ce78", func := "fasti/fastilaw30.CherryRange", spec := "cherryRange", inPlace := ["slices.overlaps[fasti/api.Trie]"], unfollowed := true, recurses := true, named := ["unicode/utf8.first", "unicode/utf8.acceptRanges"], loops := true, apart := false, laid := [("unicode/utf8.acceptRanges", laid_unicode_utf8_acceptRanges), ("unicode/utf8.first", laid_unicode_utf8_first)] }
def CherryRangeSaid : Prop := cherryRangeRow.holds Tryd.pinned (OpenSpec.ofChange cherryRangeSpec)

/-- ITS FALSE NEIGHBOUR: 'it returns false'. Refute it at one input. -/
def cherryRangeWrong : ChangeSpec := { name := "cherryRange", fn := fun _ => fun
  | [d1, d2, d3] => { results := [.lit (.bool false)], args := [d1, d2, d3] }
  | _ => none }
def CherryRangeWrongFalsely : Prop := cherryRangeRow.holds Tryd.pinned (OpenSpec.ofChange cherryRangeWrong)

/-- 'fastilaw13.PostingAdds': WHATEVER THE INPUT: true; the input reads as it did. -/
def postingAddsSpec : ChangeSpec := { name := "postingAdds", fn := fun _ => fun
  | [d1, d2, d3] => { results := [.lit (.bool true)], args := [d1, d2, d3] }
  | _ => none }
def postingAddsRow : OpenClaim := { program := "ytbilmkcdhodenaadoor", sum := "6e593b8c3bfcf6edb4100801e6e4511945e3bb57de0f061f5501d92c4551ce78", func := "fasti/fastilaw13.PostingAdds", spec := "postingAdds", inPlace := ["internal/bytealg.abigen_runtime_cmpstring"], unfollowed := true, recurses := true, named := ["unicode/utf8.first", "unicode/utf8.acceptRanges"], apart := false, laid := [("unicode/utf8.acceptRanges", laid_unicode_utf8_acceptRanges), ("unicode/utf8.first", laid_unicode_utf8_first)] }
def PostingAddsSaid : Prop := postingAddsRow.holds Tryd.pinned (OpenSpec.ofChange postingAddsSpec)

/-- ITS FALSE NEIGHBOUR: 'it returns false'. Refute it at one input. -/
def postingAddsWrong : ChangeSpec := { name := "postingAdds", fn := fun _ => fun
  | [d1, d2, d3] => { results := [.lit (.bool false)], args := [d1, d2, d3] }
  | _ => none }
def PostingAddsWrongFalsely : Prop := postingAddsRow.holds Tryd.pinned (OpenSpec.ofChange postingAddsWrong)

/-- 'fastilaw13.PostingAll': WHATEVER THE INPUT: true; the input reads as it did. -/
def postingAllSpec : ChangeSpec := { name := "postingAll", fn := fun _ => fun
  | [d1, d2, d3] => { results := [.lit (.bool true)], args := [d1, d2, d3] }
  | _ => none }
def postingAllRow : OpenClaim := { program := "ytbilmkcdhodenaadoor", sum := "6e593b8c3bfcf6edb4100801e6e4511945e3bb57de0f061f5501d92c4551ce78", func := "fasti/fastilaw13.PostingAll", spec := "postingAll", inPlace := ["internal/bytealg.abigen_runtime_cmpstring"], unfollowed := true, recurses := true, named := ["unicode/utf8.first", "unicode/utf8.acceptRanges"], apart := false, laid := [("unicode/utf8.acceptRanges", laid_unicode_utf8_acceptRanges), ("unicode/utf8.first", laid_unicode_utf8_first)] }
def PostingAllSaid : Prop := postingAllRow.holds Tryd.pinned (OpenSpec.ofChange postingAllSpec)

/-- ITS FALSE NEIGHBOUR: 'it returns false'. Refute it at one input. -/
def postingAllWrong : ChangeSpec := { name := "postingAll", fn := fun _ => fun
  | [d1, d2, d3] => { results := [.lit (.bool false)], args := [d1, d2, d3] }
  | _ => none }
def PostingAllWrongFalsely : Prop := postingAllRow.holds Tryd.pinned (OpenSpec.ofChange postingAllWrong)

/-- 'fastilaw13.PostingTells': WHATEVER THE INPUT: true; the input reads as it did. -/
def postingTellsSpec : ChangeSpec := { name := "postingTells", fn := fun _ => fun
  | [d1, d2, d3, d4, d5] => { results := [.lit (.bool true)], args := [d1, d2, d3, d4, d5] }
  | _ => none }
def postingTellsRow : OpenClaim := { program := "ytbilmkcdhodenaadoor", sum := "6e593b8c3bfcf6edb4100801e6e4511945e3bb57de0f061f5501d92c4551ce78", func := "fasti/fastilaw13.PostingTells", spec := "postingTells", inPlace := ["internal/bytealg.abigen_runtime_cmpstring"], unfollowed := true, recurses := true, named := ["unicode/utf8.first", "unicode/utf8.acceptRanges"], apart := false, laid := [("unicode/utf8.acceptRanges", laid_unicode_utf8_acceptRanges), ("unicode/utf8.first", laid_unicode_utf8_first)] }
def PostingTellsSaid : Prop := postingTellsRow.holds Tryd.pinned (OpenSpec.ofChange postingTellsSpec)

/-- ITS FALSE NEIGHBOUR: 'it returns false'. Refute it at one input. -/
def postingTellsWrong : ChangeSpec := { name := "postingTells", fn := fun _ => fun
  | [d1, d2, d3, d4, d5] => { results := [.lit (.bool false)], args := [d1, d2, d3, d4, d5] }
  | _ => none }
def PostingTellsWrongFalsely : Prop := postingTellsRow.holds Tryd.pinned (OpenSpec.ofChange postingTellsWrong)

/-- 'fastilaw13.PostingParts': WHATEVER THE INPUT: true; the input reads as it did. -/
def postingPartsSpec : ChangeSpec := { name := "postingParts", fn := fun _ => fun
  | [d1, d2] => { results := [.lit (.bool true)], args := [d1, d2] }
  | _ => none }
def postingPartsRow : OpenClaim := { program := "ytbilmkcdhodenaadoor", sum := "6e593b8c3bfcf6edb4100801e6e4511945e3bb57de0f061f5501d92c4551ce78", func := "fasti/fastilaw13.PostingParts", spec := "postingParts", inPlace := ["internal/bytealg.abigen_runtime_cmpstring"], unfollowed := true, recurses := true, named := ["unicode/utf8.first", "unicode/utf8.acceptRanges"], apart := false, laid := [("unicode/utf8.acceptRanges", laid_unicode_utf8_acceptRanges), ("unicode/utf8.first", laid_unicode_utf8_first)] }
def PostingPartsSaid : Prop := postingPartsRow.holds Tryd.pinned (OpenSpec.ofChange postingPartsSpec)

/-- ITS FALSE NEIGHBOUR: 'it returns false'. Refute it at one input. -/
def postingPartsWrong : ChangeSpec := { name := "postingParts", fn := fun _ => fun
  | [d1, d2] => { results := [.lit (.bool false)], args := [d1, d2] }
  | _ => none }
def PostingPartsWrongFalsely : Prop := postingPartsRow.holds Tryd.pinned (OpenSpec.ofChange postingPartsWrong)

/- THE SECOND FORM. 'bulk': how many values and letters a reading holds, each counted each time it is reached (what is shared counts as often as it is met; a slice's spare places count too). A statement '..UptoSaid' is the law's where the arguments, and the package variables that the reading takes, are together of bulk at most 1048576: NARROWER than '..Said'. Prove '..Said' where nothing that the law and all that it calls make is longer than what came in: it says more and counts as full. Else prove '..UptoSaid'. A law counts once. -/
mutual
def uptoBulk {H : Type} : DataW H → Nat
  | .lit (.string bytes) => bytes.length + 1
  | .lit _ => 1
  | .nil => 1
  | .ptr d => uptoBulk d + 1
  | .slice elems spare => uptoBulkAll elems + uptoBulkAll spare + 1
  | .agg parts => uptoBulkAll parts + 1
  | .iface _ d => uptoBulk d + 1
  | .map entries => uptoBulkEntries entries + 1
  | .held _ => 1
def uptoBulkAll {H : Type} : List (DataW H) → Nat
  | [] => 0
  | d :: r => uptoBulk d + uptoBulkAll r
def uptoBulkEntries {H : Type} : List (Lit × DataW H) → Nat
  | [] => 0
  | x :: r => uptoBulkEntry x + uptoBulkEntries r
def uptoBulkEntry {H : Type} : Lit × DataW H → Nat
  | (.string bytes, d) => bytes.length + uptoBulk d + 1
  | (_, d) => uptoBulk d + 1
 end
def uptoSmall : (H : Type) → List (DataW H) → Bool := fun _ ds => decide (uptoBulkAll ds ≤ 1048576)
def OpenSpec.upto (s : _root_.Go.ChangeSpec) : _root_.Go.OpenSpec := { _root_.Go.OpenSpec.ofChange s with cond := some uptoSmall }

/-- 'fastilaw31.SearchHalves', WHERE WHAT IT READS IS OF BULK AT MOST 1048576: true; the input reads as it did. -/
def searchHalvesUptoRow : OpenClaim := { program := "ytbilmkcdhodenaadoor", sum := "6e593b8c3bfcf6edb4100801e6e4511945e3bb57de0f061f5501d92c4551ce78", func := "fasti/fastilaw31.SearchHalves", spec := "searchHalves", inPlace := ["slices.overlaps[fasti/api.Trie]"], unfollowed := true, recurses := true, named := ["unicode/utf8.first", "unicode/utf8.acceptRanges"], apart := false, laid := [("unicode/utf8.acceptRanges", laid_unicode_utf8_acceptRanges), ("unicode/utf8.first", laid_unicode_utf8_first)], narrowed := true }
def SearchHalvesUptoSaid : Prop := searchHalvesUptoRow.holds Tryd.pinned (OpenSpec.upto searchHalvesSpec)

/-- 'fastilaw31.SearchTells', WHERE WHAT IT READS IS OF BULK AT MOST 1048576: true; the input reads as it did. -/
def searchTellsUptoRow : OpenClaim := { program := "ytbilmkcdhodenaadoor", sum := "6e593b8c3bfcf6edb4100801e6e4511945e3bb57de0f061f5501d92c4551ce78", func := "fasti/fastilaw31.SearchTells", spec := "searchTells", inPlace := ["slices.overlaps[fasti/api.Trie]"], unfollowed := true, recurses := true, named := ["unicode/utf8.first", "unicode/utf8.acceptRanges"], loops := true, apart := false, laid := [("unicode/utf8.acceptRanges", laid_unicode_utf8_acceptRanges), ("unicode/utf8.first", laid_unicode_utf8_first)], narrowed := true }
def SearchTellsUptoSaid : Prop := searchTellsUptoRow.holds Tryd.pinned (OpenSpec.upto searchTellsSpec)

/-- 'fastilaw31.SearchBetween', WHERE WHAT IT READS IS OF BULK AT MOST 1048576: true; the input reads as it did. -/
def searchBetweenUptoRow : OpenClaim := { program := "ytbilmkcdhodenaadoor", sum := "6e593b8c3bfcf6edb4100801e6e4511945e3bb57de0f061f5501d92c4551ce78", func := "fasti/fastilaw31.SearchBetween", spec := "searchBetween", inPlace := ["slices.overlaps[fasti/api.Trie]"], unfollowed := true, recurses := true, named := ["unicode/utf8.first", "unicode/utf8.acceptRanges"], loops := true, apart := false, laid := [("unicode/utf8.acceptRanges", laid_unicode_utf8_acceptRanges), ("unicode/utf8.first", laid_unicode_utf8_first)], narrowed := true }
def SearchBetweenUptoSaid : Prop := searchBetweenUptoRow.holds Tryd.pinned (OpenSpec.upto searchBetweenSpec)

/-- 'fastilaw31.SearchEver', WHERE WHAT IT READS IS OF BULK AT MOST 1048576: true; the input reads as it did. -/
def searchEverUptoRow : OpenClaim := { program := "ytbilmkcdhodenaadoor", sum := "6e593b8c3bfcf6edb4100801e6e4511945e3bb57de0f061f5501d92c4551ce78", func := "fasti/fastilaw31.SearchEver", spec := "searchEver", inPlace := ["slices.overlaps[fasti/api.Trie]"], unfollowed := true, recurses := true, named := ["unicode/utf8.first", "unicode/utf8.acceptRanges"], loops := true, apart := false, laid := [("unicode/utf8.acceptRanges", laid_unicode_utf8_acceptRanges), ("unicode/utf8.first", laid_unicode_utf8_first)], narrowed := true }
def SearchEverUptoSaid : Prop := searchEverUptoRow.holds Tryd.pinned (OpenSpec.upto searchEverSpec)

/-- 'fastilaw30.CherryOwn', WHERE WHAT IT READS IS OF BULK AT MOST 1048576: true; the input reads as it did. -/
def cherryOwnUptoRow : OpenClaim := { program := "ytbilmkcdhodenaadoor", sum := "6e593b8c3bfcf6edb4100801e6e4511945e3bb57de0f061f5501d92c4551ce78", func := "fasti/fastilaw30.CherryOwn", spec := "cherryOwn", inPlace := ["slices.overlaps[fasti/api.Trie]"], unfollowed := true, recurses := true, named := ["unicode/utf8.first", "unicode/utf8.acceptRanges"], loops := true, apart := false, laid := [("unicode/utf8.acceptRanges", laid_unicode_utf8_acceptRanges), ("unicode/utf8.first", laid_unicode_utf8_first)], narrowed := true }
def CherryOwnUptoSaid : Prop := cherryOwnUptoRow.holds Tryd.pinned (OpenSpec.upto cherryOwnSpec)

/-- 'fastilaw30.CherryMoves', WHERE WHAT IT READS IS OF BULK AT MOST 1048576: true; the input reads as it did. -/
def cherryMovesUptoRow : OpenClaim := { program := "ytbilmkcdhodenaadoor", sum := "6e593b8c3bfcf6edb4100801e6e4511945e3bb57de0f061f5501d92c4551ce78", func := "fasti/fastilaw30.CherryMoves", spec := "cherryMoves", inPlace := ["slices.overlaps[fasti/api.Trie]"], unfollowed := true, recurses := true, named := ["unicode/utf8.first", "unicode/utf8.acceptRanges"], loops := true, apart := false, laid := [("unicode/utf8.acceptRanges", laid_unicode_utf8_acceptRanges), ("unicode/utf8.first", laid_unicode_utf8_first)], narrowed := true }
def CherryMovesUptoSaid : Prop := cherryMovesUptoRow.holds Tryd.pinned (OpenSpec.upto cherryMovesSpec)

/-- 'fastilaw30.CherryRange', WHERE WHAT IT READS IS OF BULK AT MOST 1048576: true; the input reads as it did. -/
def cherryRangeUptoRow : OpenClaim := { program := "ytbilmkcdhodenaadoor", sum := "6e593b8c3bfcf6edb4100801e6e4511945e3bb57de0f061f5501d92c4551ce78", func := "fasti/fastilaw30.CherryRange", spec := "cherryRange", inPlace := ["slices.overlaps[fasti/api.Trie]"], unfollowed := true, recurses := true, named := ["unicode/utf8.first", "unicode/utf8.acceptRanges"], loops := true, apart := false, laid := [("unicode/utf8.acceptRanges", laid_unicode_utf8_acceptRanges), ("unicode/utf8.first", laid_unicode_utf8_first)], narrowed := true }
def CherryRangeUptoSaid : Prop := cherryRangeUptoRow.holds Tryd.pinned (OpenSpec.upto cherryRangeSpec)

/-- 'fastilaw13.PostingAdds', WHERE WHAT IT READS IS OF BULK AT MOST 1048576: true; the input reads as it did. -/
def postingAddsUptoRow : OpenClaim := { program := "ytbilmkcdhodenaadoor", sum := "6e593b8c3bfcf6edb4100801e6e4511945e3bb57de0f061f5501d92c4551ce78", func := "fasti/fastilaw13.PostingAdds", spec := "postingAdds", inPlace := ["internal/bytealg.abigen_runtime_cmpstring"], unfollowed := true, recurses := true, named := ["unicode/utf8.first", "unicode/utf8.acceptRanges"], apart := false, laid := [("unicode/utf8.acceptRanges", laid_unicode_utf8_acceptRanges), ("unicode/utf8.first", laid_unicode_utf8_first)], narrowed := true }
def PostingAddsUptoSaid : Prop := postingAddsUptoRow.holds Tryd.pinned (OpenSpec.upto postingAddsSpec)

/-- 'fastilaw13.PostingAll', WHERE WHAT IT READS IS OF BULK AT MOST 1048576: true; the input reads as it did. -/
def postingAllUptoRow : OpenClaim := { program := "ytbilmkcdhodenaadoor", sum := "6e593b8c3bfcf6edb4100801e6e4511945e3bb57de0f061f5501d92c4551ce78", func := "fasti/fastilaw13.PostingAll", spec := "postingAll", inPlace := ["internal/bytealg.abigen_runtime_cmpstring"], unfollowed := true, recurses := true, named := ["unicode/utf8.first", "unicode/utf8.acceptRanges"], apart := false, laid := [("unicode/utf8.acceptRanges", laid_unicode_utf8_acceptRanges), ("unicode/utf8.first", laid_unicode_utf8_first)], narrowed := true }
def PostingAllUptoSaid : Prop := postingAllUptoRow.holds Tryd.pinned (OpenSpec.upto postingAllSpec)

/-- 'fastilaw13.PostingTells', WHERE WHAT IT READS IS OF BULK AT MOST 1048576: true; the input reads as it did. -/
def postingTellsUptoRow : OpenClaim := { program := "ytbilmkcdhodenaadoor", sum := "6e593b8c3bfcf6edb4100801e6e4511945e3bb57de0f061f5501d92c4551ce78", func := "fasti/fastilaw13.PostingTells", spec := "postingTells", inPlace := ["internal/bytealg.abigen_runtime_cmpstring"], unfollowed := true, recurses := true, named := ["unicode/utf8.first", "unicode/utf8.acceptRanges"], apart := false, laid := [("unicode/utf8.acceptRanges", laid_unicode_utf8_acceptRanges), ("unicode/utf8.first", laid_unicode_utf8_first)], narrowed := true }
def PostingTellsUptoSaid : Prop := postingTellsUptoRow.holds Tryd.pinned (OpenSpec.upto postingTellsSpec)

/-- 'fastilaw13.PostingParts', WHERE WHAT IT READS IS OF BULK AT MOST 1048576: true; the input reads as it did. -/
def postingPartsUptoRow : OpenClaim := { program := "ytbilmkcdhodenaadoor", sum := "6e593b8c3bfcf6edb4100801e6e4511945e3bb57de0f061f5501d92c4551ce78", func := "fasti/fastilaw13.PostingParts", spec := "postingParts", inPlace := ["internal/bytealg.abigen_runtime_cmpstring"], unfollowed := true, recurses := true, named := ["unicode/utf8.first", "unicode/utf8.acceptRanges"], apart := false, laid := [("unicode/utf8.acceptRanges", laid_unicode_utf8_acceptRanges), ("unicode/utf8.first", laid_unicode_utf8_first)], narrowed := true }
def PostingPartsUptoSaid : Prop := postingPartsUptoRow.holds Tryd.pinned (OpenSpec.upto postingPartsSpec)

end Rows
end Go.Proofs.YtbilmkcdhodenaaDoor
