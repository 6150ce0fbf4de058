/-
  A commit picked onto its first parent is itself; reverted onto itself it is its first parent; picked onto itself it stays: whatever the arguments.
-/
import Derived.Test.YtgaabjmbnomimaaDoorCards
import Derived.Test.YtgaabjmbnomimaaDoorTie
import Derived.Test.YtgaabjmbnomimaaDoorCT1
set_option linter.all false
/-
  A commit picked onto its first parent is itself; reverted onto itself it is its first parent; picked onto itself it stays: whatever the arguments.
-/
namespace Go.Proofs.YtgaabjmbnomimaaDoor.cherryOwn
open Go Go.Ev Go.ChangeShapes Go.WideShapes Go.ChangeAt Go.RowKit
set_option maxRecDepth 100000
theorem main : ∀ vl, Args Tryd.prog Tryd.f3.params.toList vl → call E 3 vl [] = some ([V.b true], []) := by
  intro vl h
  rw [Tryd.params3] at h
  have h0 : Args Tryd.prog [25, 3] vl := h
  obtain ⟨v0, v1, rfl⟩ := args2 h0
  obtain ⟨⟨x0, rfl⟩, h1⟩ := ar25 h0
  obtain ⟨⟨x1, rfl⟩, h2⟩ := ar3 h1
  exact l3 x0 x1
theorem contract (H : Type) (enc : TypeId × Value → H) (W : World) (base : Nat) (args : Array Value) (ds gs : List (DataW H)) (before : List MemPlace)
    (hval : ∀ (j : Nat) t v, Tryd.f3.params[j]? = some t → args[j]? = some v → Value.okWide Tryd.prog W .any base t v)
    (hW : DataW.Whole enc Tryd.prog Tryd.f3.params.toList Rows.cherryOwnSpec.vars false W args.toList ds gs before) (hL : laidMetH Tryd.prog Rows.cherryOwnRow.laid W) :
    Calls Tryd.prog 3 args W fun e W' => ∃ v, e = .returned v ∧ Rows.cherryOwnSpec.post enc Tryd.prog Tryd.f3 false true false false W args v W' := by
  refine law_contract (P := Tryd.prog) (E := E) (K := Kw) (l := [3, 9, 22, 23, 25, 29, 31, 37, 39, 98, 100, 102]) (tb := 4) drawOk envOk (by kernel_rfl) (by kernel_rfl) (by kernel_rfl) rfl Tryd.underlying4 rfl ?_ main W (kw_of (l := Rows.cherryOwnRow.laid) (.head _) (.tail _ (.head _)) hL) base args ds gs before hval hW
  intro ds h
  rw [Tryd.params3] at h
  match ds, h with
  | [d0, d1], _ => rfl
theorem laid_met (os : Os) : laidMet Tryd.prog Rows.cherryOwnRow.laid ((laidWorld os).forCall (fun _ _ => 0) ⟨#[], #[.agg #[.slice none 0 0, .slice none 0 0], .int .i64 0], []⟩).memory :=
  laidMet_of_run' 400 (by kernel_rfl) (by kernel_rfl)
theorem reads (os : Os) {H : Type} (enc : TypeId × Value → H) : ∃ places, DataW.whole enc Tryd.prog ((laidWorld os).forCall (fun _ _ => 0) ⟨#[], #[.agg #[.slice none 0 0, .slice none 0 0], .int .i64 0], []⟩).memory Tryd.f3.params.toList Rows.cherryOwnSpec.vars false (#[.agg #[.slice none 0 0, .slice none 0 0], .int .i64 0] : Array Value).toList 8 = some ([.agg [.nil, .nil], .lit (.int .i64 0)], [], places) :=
  ⟨[], by kernel_rfl⟩
theorem lifted (os : Os) (started : os.Started) (H : Type) (enc : TypeId × Value → H) (F : Stop.Interp) :
    ReturnsInHanded {} Tryd.checked os 3 .any ((OpenSpec.ofChange Rows.cherryOwnSpec).preRow enc Tryd.prog Tryd.f3 Rows.cherryOwnRow.domain false Rows.cherryOwnRow.laid) (((OpenSpec.ofChange Rows.cherryOwnSpec).at F).post enc Tryd.prog Tryd.f3 false true false false) := by
  obtain ⟨places, hx⟩ := reads os enc
  refine returnsInHanded_of_row (C := Tryd.checked) (s := OpenSpec.ofChange Rows.cherryOwnSpec) own started (by kernel_rfl) Tryd.func3
    (witness_row_at (enc := enc) (C := Tryd.checked) false (laidWorld os) #[.agg #[.slice none 0 0, .slice none 0 0], .int .i64 0] rfl (by kernel_rfl) (by kernel_rfl) (by kernel_rfl)
      (OpenSpec.preRow_of_cond 8 hx (by kernel_rfl) (fun k hk => by cases hk) (by kernel_rfl) (laid_met os))) ?_
  intro W base args ds gs before hval hW _ _ _ hL _ _
  exact contract H enc W base args ds gs before hval hW hL
theorem said : Rows.CherryOwnSaid :=
  OpenClaim.holds_of_cond 3 Tryd.f3 rfl rfl rfl rfl rfl rfl rfl ⟨rfl, rfl, rfl, rfl, rfl⟩ rfl rfl rfl rfl rfl (by kernel_rfl) Tryd.func3 (by kernel_rfl)
    (of_decide_eq_true (by kernel_rfl)) (by unfold Func.isWrapper; first | (rw [if_pos (by decide +kernel)]; kernel_rfl) | (rw [if_neg (by decide +kernel)]; exact ⟨rfl, rfl⟩))
    (fun os started H enc _ F => by rw [OpenClaim.pre_eq_preRow]; exact lifted os started H enc F)
theorem plain (f : FuncId) (fn : Func) (hf : Tryd.pinned.checked.prog.funcNamed "fasti/fastilaw30.CherryOwn" = some f) (hfn : Tryd.pinned.checked.prog.funcs[f]? = some fn) :
    true = Tryd.pinned.checked.prog.looks [] ∧ ∀ (j : Nat) t, fn.params[j]? = some t → Tryd.pinned.checked.prog.wantsStandIn t = false := by
  obtain rfl : f = 3 := Option.some.inj ((show Tryd.prog.funcNamed "fasti/fastilaw30.CherryOwn" = some 3 by kernel_rfl).symm.trans hf) |>.symm
  obtain rfl : fn = Tryd.f3 := (Option.some.inj (Tryd.func3.symm.trans hfn)).symm
  refine ⟨by kernel_rfl, fun j t ht => ?_⟩
  rw [Tryd.params3] at ht
  have hm : t ∈ [25, 3] := by simpa using Array.mem_of_getElem? ht
  have hall : ([25, 3].all fun u => !Tryd.prog.wantsStandIn u) = true := by kernel_rfl
  exact (show Tryd.prog.wantsStandIn t = false by simpa using List.all_eq_true.1 hall t hm)
theorem card : Rows.CherryOwnCardSaid :=
  Claim7.holds_tied_plain_at .later [] _ _ _ _ said (fun _ h => by cases h) (by kernel_rfl) (fun _ h => by cases h) cherryOwn_row_tie rfl ⟨rfl, rfl⟩ (by kernel_rfl) rfl plain (by kernel_rfl)
end Go.Proofs.YtgaabjmbnomimaaDoor.cherryOwn
namespace Go.Proofs.YtgaabjmbnomimaaDoor
theorem cherryOwn_card_holds : Rows.CherryOwnCardSaid := cherryOwn.card
#print axioms cherryOwn_card_holds
end Go.Proofs.YtgaabjmbnomimaaDoor
