/-
  NARROWER THAN 'FOR EVERY INPUT', by the rows' own cells (each row's printed sentence says how): SpanOne: laid · SpanTimes: laid · SpanClips: laid · SpanPuts: laid · SpanDiffs: laid · SpanTurns: laid.
  DERIVED. THE GIVEN ROWS OF THIS SEAT. 6 by the template 'for every input the law returns true; each argument reads behind the call as it read before'; 0 by the template 'total and deterministic' (their statements: YtedniogmjhhhmaaDoorTotals.lean).
  GIVEN WITH THE SEED: the statements are not yours to turn. If you find one false, say at which input.
  Laid BY PROGRAM, IN A SANDBOX (cutbox-rows.mjs): the forced cells as the released guide's own fill.sh prints them over the translation d850b7d6050c9bc7… (all of the seat's roots in one cut). By AI agents, Wed Nov 11 2026. No macro, syntax, notation, axiom, sorry.
-/
import Derived.Test.YtedniogmjhhhmaaDoorChecked
import GoSem.PinnedTables
import GoSem.Claim
import GoSem.ClaimJoined
import GoSem.ClaimMapViews
import Derived.JoinedTies
import Derived.KernelRfl
namespace Go.Proofs.YtedniogmjhhhmaaDoor
/- THE CELL 'sum', in the pinned program and in every row, IS THE sha256 OF THE DUMP (.gsa) THAT YtedniogmjhhhmaaDoorProg.lean LOADS. Nothing in Lean hashes anything: it is a label: what it is worth is what the hold of that sum in a sandbox is worth. -/
noncomputable def Tryd.pinned : Pinned := { name := "ytedniogmjhhhmaadoor", sum := "d850b7d6050c9bc7585340e3e870760a84a6fdfba85590528a118bdb614ecc17", checked := Tryd.checked }
namespace Rows
def none {H : Type} : Left H := { results := [], args := [] }

/- WHAT THE LISTED PACKAGE-LEVEL VARIABLES READ AS WHEN THE CALL BEGINS. Each datum BY PROGRAM (the guide's laid-datum.mjs) off the statement by which the dump's own 'gosem.cut.vars' lays the variable. In a bare row this is a premise. The card (YtedniogmjhhhmaaDoorCards.lean) ties it to the program's text. -/
def laid_unicode_utf8_acceptRanges {H : Type} : DataW H := .agg [.agg [.lit (.int .u8 128), .lit (.int .u8 191)], .agg [.lit (.int .u8 160), .lit (.int .u8 191)], .agg [.lit (.int .u8 128), .lit (.int .u8 159)], .agg [.lit (.int .u8 144), .lit (.int .u8 191)], .agg [.lit (.int .u8 128), .lit (.int .u8 143)], .agg [.lit (.int .u8 0), .lit (.int .u8 0)], .agg [.lit (.int .u8 0), .lit (.int .u8 0)], .agg [.lit (.int .u8 0), .lit (.int .u8 0)], .agg [.lit (.int .u8 0), .lit (.int .u8 0)], .agg [.lit (.int .u8 0), .lit (.int .u8 0)], .agg [.lit (.int .u8 0), .lit (.int .u8 0)], .agg [.lit (.int .u8 0), .lit (.int .u8 0)], .agg [.lit (.int .u8 0), .lit (.int .u8 0)], .agg [.lit (.int .u8 0), .lit (.int .u8 0)], .agg [.lit (.int .u8 0), .lit (.int .u8 0)], .agg [.lit (.int .u8 0), .lit (.int .u8 0)]]
/-- One of Go's own tables, pinned by name: the form's constant. -/
def laid_unicode_utf8_first : DataW Unit := Go.Pinned.utf8First

/-- 'fastilaw02.SpanOne': WHATEVER THE INPUT: true; the input reads as it did. -/
def spanOneSpec : ChangeSpec := { name := "spanOne", fn := fun _ => fun
  | [d1, d2] => { results := [.lit (.bool true)], args := [d1, d2] }
  | _ => none }
def spanOneRow : OpenClaim := { program := "ytedniogmjhhhmaadoor", sum := "d850b7d6050c9bc7585340e3e870760a84a6fdfba85590528a118bdb614ecc17", func := "fasti/fastilaw02.SpanOne", spec := "spanOne", unfollowed := true, recurses := true, named := ["unicode/utf8.first", "unicode/utf8.acceptRanges"], apart := false, laid := [("unicode/utf8.acceptRanges", laid_unicode_utf8_acceptRanges), ("unicode/utf8.first", laid_unicode_utf8_first)] }
def SpanOneSaid : Prop := spanOneRow.holds Tryd.pinned (OpenSpec.ofChange spanOneSpec)

/-- ITS FALSE NEIGHBOUR: 'it returns false'. Refute it at one input. -/
def spanOneWrong : ChangeSpec := { name := "spanOne", fn := fun _ => fun
  | [d1, d2] => { results := [.lit (.bool false)], args := [d1, d2] }
  | _ => none }
def SpanOneWrongFalsely : Prop := spanOneRow.holds Tryd.pinned (OpenSpec.ofChange spanOneWrong)

/-- 'fastilaw02.SpanTimes': WHATEVER THE INPUT: true; the input reads as it did. -/
def spanTimesSpec : ChangeSpec := { name := "spanTimes", fn := fun _ => fun
  | [d1, d2, d3, d4, d5] => { results := [.lit (.bool true)], args := [d1, d2, d3, d4, d5] }
  | _ => none }
def spanTimesRow : OpenClaim := { program := "ytedniogmjhhhmaadoor", sum := "d850b7d6050c9bc7585340e3e870760a84a6fdfba85590528a118bdb614ecc17", func := "fasti/fastilaw02.SpanTimes", spec := "spanTimes", unfollowed := true, recurses := true, named := ["unicode/utf8.first", "unicode/utf8.acceptRanges"], apart := false, laid := [("unicode/utf8.acceptRanges", laid_unicode_utf8_acceptRanges), ("unicode/utf8.first", laid_unicode_utf8_first)] }
def SpanTimesSaid : Prop := spanTimesRow.holds Tryd.pinned (OpenSpec.ofChange spanTimesSpec)

/-- ITS FALSE NEIGHBOUR: 'it returns false'. Refute it at one input. -/
def spanTimesWrong : ChangeSpec := { name := "spanTimes", fn := fun _ => fun
  | [d1, d2, d3, d4, d5] => { results := [.lit (.bool false)], args := [d1, d2, d3, d4, d5] }
  | _ => none }
def SpanTimesWrongFalsely : Prop := spanTimesRow.holds Tryd.pinned (OpenSpec.ofChange spanTimesWrong)

/-- 'fastilaw02.SpanClips': WHATEVER THE INPUT: true; the input reads as it did. -/
def spanClipsSpec : ChangeSpec := { name := "spanClips", fn := fun _ => fun
  | [d1, d2, d3, d4] => { results := [.lit (.bool true)], args := [d1, d2, d3, d4] }
  | _ => none }
def spanClipsRow : OpenClaim := { program := "ytedniogmjhhhmaadoor", sum := "d850b7d6050c9bc7585340e3e870760a84a6fdfba85590528a118bdb614ecc17", func := "fasti/fastilaw02.SpanClips", spec := "spanClips", unfollowed := true, recurses := true, named := ["unicode/utf8.first", "unicode/utf8.acceptRanges"], apart := false, laid := [("unicode/utf8.acceptRanges", laid_unicode_utf8_acceptRanges), ("unicode/utf8.first", laid_unicode_utf8_first)] }
def SpanClipsSaid : Prop := spanClipsRow.holds Tryd.pinned (OpenSpec.ofChange spanClipsSpec)

/-- ITS FALSE NEIGHBOUR: 'it returns false'. Refute it at one input. -/
def spanClipsWrong : ChangeSpec := { name := "spanClips", fn := fun _ => fun
  | [d1, d2, d3, d4] => { results := [.lit (.bool false)], args := [d1, d2, d3, d4] }
  | _ => none }
def SpanClipsWrongFalsely : Prop := spanClipsRow.holds Tryd.pinned (OpenSpec.ofChange spanClipsWrong)

/-- 'fastilaw02.SpanPuts': WHATEVER THE INPUT: true; the input reads as it did. -/
def spanPutsSpec : ChangeSpec := { name := "spanPuts", fn := fun _ => fun
  | [d1, d2, d3, d4] => { results := [.lit (.bool true)], args := [d1, d2, d3, d4] }
  | _ => none }
def spanPutsRow : OpenClaim := { program := "ytedniogmjhhhmaadoor", sum := "d850b7d6050c9bc7585340e3e870760a84a6fdfba85590528a118bdb614ecc17", func := "fasti/fastilaw02.SpanPuts", spec := "spanPuts", unfollowed := true, recurses := true, named := ["unicode/utf8.first", "unicode/utf8.acceptRanges"], apart := false, laid := [("unicode/utf8.acceptRanges", laid_unicode_utf8_acceptRanges), ("unicode/utf8.first", laid_unicode_utf8_first)] }
def SpanPutsSaid : Prop := spanPutsRow.holds Tryd.pinned (OpenSpec.ofChange spanPutsSpec)

/-- ITS FALSE NEIGHBOUR: 'it returns false'. Refute it at one input. -/
def spanPutsWrong : ChangeSpec := { name := "spanPuts", fn := fun _ => fun
  | [d1, d2, d3, d4] => { results := [.lit (.bool false)], args := [d1, d2, d3, d4] }
  | _ => none }
def SpanPutsWrongFalsely : Prop := spanPutsRow.holds Tryd.pinned (OpenSpec.ofChange spanPutsWrong)

/-- 'fastilaw02.SpanDiffs': WHATEVER THE INPUT: true; the input reads as it did. -/
def spanDiffsSpec : ChangeSpec := { name := "spanDiffs", fn := fun _ => fun
  | [d1, d2, d3] => { results := [.lit (.bool true)], args := [d1, d2, d3] }
  | _ => none }
def spanDiffsRow : OpenClaim := { program := "ytedniogmjhhhmaadoor", sum := "d850b7d6050c9bc7585340e3e870760a84a6fdfba85590528a118bdb614ecc17", func := "fasti/fastilaw02.SpanDiffs", spec := "spanDiffs", unfollowed := true, recurses := true, named := ["unicode/utf8.first", "unicode/utf8.acceptRanges"], apart := false, laid := [("unicode/utf8.acceptRanges", laid_unicode_utf8_acceptRanges), ("unicode/utf8.first", laid_unicode_utf8_first)] }
def SpanDiffsSaid : Prop := spanDiffsRow.holds Tryd.pinned (OpenSpec.ofChange spanDiffsSpec)

/-- ITS FALSE NEIGHBOUR: 'it returns false'. Refute it at one input. -/
def spanDiffsWrong : ChangeSpec := { name := "spanDiffs", fn := fun _ => fun
  | [d1, d2, d3] => { results := [.lit (.bool false)], args := [d1, d2, d3] }
  | _ => none }
def SpanDiffsWrongFalsely : Prop := spanDiffsRow.holds Tryd.pinned (OpenSpec.ofChange spanDiffsWrong)

/-- 'fastilaw02.SpanTurns': WHATEVER THE INPUT: true; the input reads as it did. -/
def spanTurnsSpec : ChangeSpec := { name := "spanTurns", fn := fun _ => fun
  | [d1, d2] => { results := [.lit (.bool true)], args := [d1, d2] }
  | _ => none }
def spanTurnsRow : OpenClaim := { program := "ytedniogmjhhhmaadoor", sum := "d850b7d6050c9bc7585340e3e870760a84a6fdfba85590528a118bdb614ecc17", func := "fasti/fastilaw02.SpanTurns", spec := "spanTurns", unfollowed := true, recurses := true, named := ["unicode/utf8.first", "unicode/utf8.acceptRanges"], apart := false, laid := [("unicode/utf8.acceptRanges", laid_unicode_utf8_acceptRanges), ("unicode/utf8.first", laid_unicode_utf8_first)] }
def SpanTurnsSaid : Prop := spanTurnsRow.holds Tryd.pinned (OpenSpec.ofChange spanTurnsSpec)

/-- ITS FALSE NEIGHBOUR: 'it returns false'. Refute it at one input. -/
def spanTurnsWrong : ChangeSpec := { name := "spanTurns", fn := fun _ => fun
  | [d1, d2] => { results := [.lit (.bool false)], args := [d1, d2] }
  | _ => none }
def SpanTurnsWrongFalsely : Prop := spanTurnsRow.holds Tryd.pinned (OpenSpec.ofChange spanTurnsWrong)

/- THE SECOND FORM. 'bulk': how many values and letters a reading holds, each counted each time it is reached (what is shared counts as often as it is met; a slice's spare places count too). A statement '..UptoSaid' is the law's where the arguments, and the package variables that the reading takes, are together of bulk at most 1048576: NARROWER than '..Said'. Prove '..Said' where nothing that the law and all that it calls make is longer than what came in: it says more and counts as full. Else prove '..UptoSaid'. A law counts once. -/
mutual
def uptoBulk {H : Type} : DataW H → Nat
  | .lit (.string bytes) => bytes.length + 1
  | .lit _ => 1
  | .nil => 1
  | .ptr d => uptoBulk d + 1
  | .slice elems spare => uptoBulkAll elems + uptoBulkAll spare + 1
  | .agg parts => uptoBulkAll parts + 1
  | .iface _ d => uptoBulk d + 1
  | .map entries => uptoBulkEntries entries + 1
  | .held _ => 1
def uptoBulkAll {H : Type} : List (DataW H) → Nat
  | [] => 0
  | d :: r => uptoBulk d + uptoBulkAll r
def uptoBulkEntries {H : Type} : List (Lit × DataW H) → Nat
  | [] => 0
  | x :: r => uptoBulkEntry x + uptoBulkEntries r
def uptoBulkEntry {H : Type} : Lit × DataW H → Nat
  | (.string bytes, d) => bytes.length + uptoBulk d + 1
  | (_, d) => uptoBulk d + 1
 end
def uptoSmall : (H : Type) → List (DataW H) → Bool := fun _ ds => decide (uptoBulkAll ds ≤ 1048576)
def OpenSpec.upto (s : _root_.Go.ChangeSpec) : _root_.Go.OpenSpec := { _root_.Go.OpenSpec.ofChange s with cond := some uptoSmall }

/-- 'fastilaw02.SpanOne', WHERE WHAT IT READS IS OF BULK AT MOST 1048576: true; the input reads as it did. -/
def spanOneUptoRow : OpenClaim := { program := "ytedniogmjhhhmaadoor", sum := "d850b7d6050c9bc7585340e3e870760a84a6fdfba85590528a118bdb614ecc17", func := "fasti/fastilaw02.SpanOne", spec := "spanOne", unfollowed := true, recurses := true, named := ["unicode/utf8.first", "unicode/utf8.acceptRanges"], apart := false, laid := [("unicode/utf8.acceptRanges", laid_unicode_utf8_acceptRanges), ("unicode/utf8.first", laid_unicode_utf8_first)], narrowed := true }
def SpanOneUptoSaid : Prop := spanOneUptoRow.holds Tryd.pinned (OpenSpec.upto spanOneSpec)

/-- 'fastilaw02.SpanTimes', WHERE WHAT IT READS IS OF BULK AT MOST 1048576: true; the input reads as it did. -/
def spanTimesUptoRow : OpenClaim := { program := "ytedniogmjhhhmaadoor", sum := "d850b7d6050c9bc7585340e3e870760a84a6fdfba85590528a118bdb614ecc17", func := "fasti/fastilaw02.SpanTimes", spec := "spanTimes", unfollowed := true, recurses := true, named := ["unicode/utf8.first", "unicode/utf8.acceptRanges"], apart := false, laid := [("unicode/utf8.acceptRanges", laid_unicode_utf8_acceptRanges), ("unicode/utf8.first", laid_unicode_utf8_first)], narrowed := true }
def SpanTimesUptoSaid : Prop := spanTimesUptoRow.holds Tryd.pinned (OpenSpec.upto spanTimesSpec)

/-- 'fastilaw02.SpanClips', WHERE WHAT IT READS IS OF BULK AT MOST 1048576: true; the input reads as it did. -/
def spanClipsUptoRow : OpenClaim := { program := "ytedniogmjhhhmaadoor", sum := "d850b7d6050c9bc7585340e3e870760a84a6fdfba85590528a118bdb614ecc17", func := "fasti/fastilaw02.SpanClips", spec := "spanClips", unfollowed := true, recurses := true, named := ["unicode/utf8.first", "unicode/utf8.acceptRanges"], apart := false, laid := [("unicode/utf8.acceptRanges", laid_unicode_utf8_acceptRanges), ("unicode/utf8.first", laid_unicode_utf8_first)], narrowed := true }
def SpanClipsUptoSaid : Prop := spanClipsUptoRow.holds Tryd.pinned (OpenSpec.upto spanClipsSpec)

/-- 'fastilaw02.SpanPuts', WHERE WHAT IT READS IS OF BULK AT MOST 1048576: true; the input reads as it did. -/
def spanPutsUptoRow : OpenClaim := { program := "ytedniogmjhhhmaadoor", sum := "d850b7d6050c9bc7585340e3e870760a84a6fdfba85590528a118bdb614ecc17", func := "fasti/fastilaw02.SpanPuts", spec := "spanPuts", unfollowed := true, recurses := true, named := ["unicode/utf8.first", "unicode/utf8.acceptRanges"], apart := false, laid := [("unicode/utf8.acceptRanges", laid_unicode_utf8_acceptRanges), ("unicode/utf8.first", laid_unicode_utf8_first)], narrowed := true }
def SpanPutsUptoSaid : Prop := spanPutsUptoRow.holds Tryd.pinned (OpenSpec.upto spanPutsSpec)

/-- 'fastilaw02.SpanDiffs', WHERE WHAT IT READS IS OF BULK AT MOST 1048576: true; the input reads as it did. -/
def spanDiffsUptoRow : OpenClaim := { program := "ytedniogmjhhhmaadoor", sum := "d850b7d6050c9bc7585340e3e870760a84a6fdfba85590528a118bdb614ecc17", func := "fasti/fastilaw02.SpanDiffs", spec := "spanDiffs", unfollowed := true, recurses := true, named := ["unicode/utf8.first", "unicode/utf8.acceptRanges"], apart := false, laid := [("unicode/utf8.acceptRanges", laid_unicode_utf8_acceptRanges), ("unicode/utf8.first", laid_unicode_utf8_first)], narrowed := true }
def SpanDiffsUptoSaid : Prop := spanDiffsUptoRow.holds Tryd.pinned (OpenSpec.upto spanDiffsSpec)

/-- 'fastilaw02.SpanTurns', WHERE WHAT IT READS IS OF BULK AT MOST 1048576: true; the input reads as it did. -/
def spanTurnsUptoRow : OpenClaim := { program := "ytedniogmjhhhmaadoor", sum := "d850b7d6050c9bc7585340e3e870760a84a6fdfba85590528a118bdb614ecc17", func := "fasti/fastilaw02.SpanTurns", spec := "spanTurns", unfollowed := true, recurses := true, named := ["unicode/utf8.first", "unicode/utf8.acceptRanges"], apart := false, laid := [("unicode/utf8.acceptRanges", laid_unicode_utf8_acceptRanges), ("unicode/utf8.first", laid_unicode_utf8_first)], narrowed := true }
def SpanTurnsUptoSaid : Prop := spanTurnsUptoRow.holds Tryd.pinned (OpenSpec.upto spanTurnsSpec)

end Rows
end Go.Proofs.YtedniogmjhhhmaaDoor
