/-
  A range has no commit that its beginning reaches, each one's first parent is the one ahead; moved onto the first one's first parent it leads to its end: whatever the arguments.
-/
import Derived.Test.YtgaabjmbnomimaaDoorCards
import Derived.Test.YtgaabjmbnomimaaDoorTie
import Derived.Test.YtgaabjmbnomimaaDoorHP2
set_option linter.all false
/-
 A range has no commit that its beginning reaches, each one's first parent is the one ahead; moved onto the first one's first parent it leads to its end: whatever the arguments.
-/
namespace Go.Proofs.YtgaabjmbnomimaaDoor.cherryRange
open Go Go.Ev Go.ChangeShapes Go.WideShapes Go.ChangeAt Go.RowKit
set_option maxRecDepth 100000
theorem main : ∀ vl, Args Tryd.prog Tryd.f5.params.toList vl -> call E 5 vl [] = some ([V.b true], []) := by
 intro vl h
 rw [Tryd.params5] at h
 have h0 : Args Tryd.prog [25, 3, 3] vl := h
 obtain ⟨v0, v1, v2, rfl⟩ := args3 h0
 obtain ⟨⟨x0, rfl⟩, h1⟩ := ar25 h0
 obtain ⟨⟨x1, rfl⟩, h2⟩ := ar3 h1
 obtain ⟨⟨x2, rfl⟩, h3⟩ := ar3 h2
 exact lawq5 x0 x1 x2
theorem contract (H : Type) (enc : TypeId × Value -> H) (W : World) (base : Nat) (args : Array Value) (ds gs : List (DataW H)) (before : List MemPlace)
   (hval : ∀ (j : Nat) t v, Tryd.f5.params[j]? = some t -> args[j]? = some v -> Value.okWide Tryd.prog W .any base t v)
   (hW : DataW.Whole enc Tryd.prog Tryd.f5.params.toList Rows.cherryRangeSpec.vars false W args.toList ds gs before) (hL : laidMetH Tryd.prog Rows.cherryRangeRow.laid W) :
   Calls Tryd.prog 5 args W fun e W' => ∃ v, e = .returned v /\ Rows.cherryRangeSpec.post enc Tryd.prog Tryd.f5 false true false false W args v W' := by
 refine law_contract (P := Tryd.prog) (E := E) (K := Kw) (l := [3, 9, 22, 23, 25, 29, 31, 37, 39, 98, 100, 102]) (tb := 4) drawOk envOk (by kernel_rfl) (by kernel_rfl) (by kernel_rfl) rfl Tryd.underlying4 rfl ?_ main W (kw_of (l := Rows.cherryRangeRow.laid) (.head _) (.tail _ (.head _)) hL) base args ds gs before hval hW
 intro ds h
 rw [Tryd.params5] at h
 match ds, h with
 | [d0, d1, d2], _ => rfl
theorem laid_met (os : Os) : laidMet Tryd.prog Rows.cherryRangeRow.laid ((laidWorld os).forCall (fun _ _ => 0) ⟨#[], #[.agg #[.slice none 0 0, .slice none 0 0], .int .i64 0, .int .i64 0], []⟩).memory :=
 laidMet_of_run' 400 (by kernel_rfl) (by kernel_rfl)
theorem reads (os : Os) {H : Type} (enc : TypeId × Value -> H) : ∃ places, DataW.whole enc Tryd.prog ((laidWorld os).forCall (fun _ _ => 0) ⟨#[], #[.agg #[.slice none 0 0, .slice none 0 0], .int .i64 0, .int .i64 0], []⟩).memory Tryd.f5.params.toList Rows.cherryRangeSpec.vars false (#[.agg #[.slice none 0 0, .slice none 0 0], .int .i64 0, .int .i64 0] : Array Value).toList 8 = some ([.agg [.nil, .nil], .lit (.int .i64 0), .lit (.int .i64 0)], [], places) :=
 ⟨[], by kernel_rfl⟩
theorem lifted (os : Os) (started : os.Started) (H : Type) (enc : TypeId × Value -> H) (F : Stop.Interp) :
   ReturnsInHanded {} Tryd.checked os 5 .any ((OpenSpec.ofChange Rows.cherryRangeSpec).preRow enc Tryd.prog Tryd.f5 Rows.cherryRangeRow.domain false Rows.cherryRangeRow.laid) (((OpenSpec.ofChange Rows.cherryRangeSpec).at F).post enc Tryd.prog Tryd.f5 false true false false) := by
 obtain ⟨places, hx⟩ := reads os enc
 refine returnsInHanded_of_row (C := Tryd.checked) (s := OpenSpec.ofChange Rows.cherryRangeSpec) own started (by kernel_rfl) Tryd.func5
   (witness_row_at (enc := enc) (C := Tryd.checked) false (laidWorld os) #[.agg #[.slice none 0 0, .slice none 0 0], .int .i64 0, .int .i64 0] rfl (by kernel_rfl) (by kernel_rfl) (by kernel_rfl)
     (OpenSpec.preRow_of_cond 8 hx (by kernel_rfl) (fun k hk => by cases hk) (by kernel_rfl) (laid_met os))) ?_
 intro W base args ds gs before hval hW _ _ _ hL _ _
 exact contract H enc W base args ds gs before hval hW hL
theorem said : Rows.CherryRangeSaid :=
 OpenClaim.holds_of_cond 5 Tryd.f5 rfl rfl rfl rfl rfl rfl rfl ⟨rfl, rfl, rfl, rfl, rfl⟩ rfl rfl rfl rfl rfl (by kernel_rfl) Tryd.func5 (by kernel_rfl)
   (of_decide_eq_true (by kernel_rfl)) (by unfold Func.isWrapper; first | (rw [if_pos (by decide +kernel)]; kernel_rfl) | (rw [if_neg (by decide +kernel)]; exact ⟨rfl, rfl⟩))
   (fun os started H enc _ F => by rw [OpenClaim.pre_eq_preRow]; exact lifted os started H enc F)
theorem plain (f : FuncId) (fn : Func) (hf : Tryd.pinned.checked.prog.funcNamed "fasti/fastilaw30.CherryRange" = some f) (hfn : Tryd.pinned.checked.prog.funcs[f]? = some fn) :
   true = Tryd.pinned.checked.prog.looks [] /\ ∀ (j : Nat) t, fn.params[j]? = some t -> Tryd.pinned.checked.prog.wantsStandIn t = false := by
 obtain rfl : f = 5 := Option.some.inj ((show Tryd.prog.funcNamed "fasti/fastilaw30.CherryRange" = some 5 by kernel_rfl).symm.trans hf) |>.symm
 obtain rfl : fn = Tryd.f5 := (Option.some.inj (Tryd.func5.symm.trans hfn)).symm
 refine ⟨by kernel_rfl, fun j t ht => ?_⟩
 rw [Tryd.params5] at ht
 have hm : t ∈ [25, 3, 3] := by simpa using Array.mem_of_getElem? ht
 have hall : ([25, 3, 3].all fun u => !Tryd.prog.wantsStandIn u) = true := by kernel_rfl
 exact (show Tryd.prog.wantsStandIn t = false by simpa using List.all_eq_true.1 hall t hm)
theorem card : Rows.CherryRangeCardSaid :=
 Claim7.holds_tied_plain_at .later [] _ _ _ _ said (fun _ h => by cases h) (by kernel_rfl) (fun _ h => by cases h) cherryRange_row_tie rfl ⟨rfl, rfl⟩ (by kernel_rfl) rfl plain (by kernel_rfl)
end Go.Proofs.YtgaabjmbnomimaaDoor.cherryRange
namespace Go.Proofs.YtgaabjmbnomimaaDoor
theorem cherryRange_card_holds : Rows.CherryRangeCardSaid := cherryRange.card
#print axioms cherryRange_card_holds
end Go.Proofs.YtgaabjmbnomimaaDoor
