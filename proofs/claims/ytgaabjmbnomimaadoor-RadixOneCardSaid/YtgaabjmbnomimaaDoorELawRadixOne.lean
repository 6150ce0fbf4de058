/-
  Entries that are put in whatever order lead to the tree that is built of them; that has just these, and what is taken out again was never there: whatever the arguments.
-/
import Derived.Test.YtgaabjmbnomimaaDoorCards
import Derived.Test.YtgaabjmbnomimaaDoorTie
import Derived.Test.YtgaabjmbnomimaaDoorQT7
set_option linter.all false
/-
  Entries that are put in whatever order lead to the tree that is built of them; that has just these, and what is taken out again was never there: whatever the arguments.
-/
namespace Go.Proofs.YtgaabjmbnomimaaDoor.radixOne
open Go Go.Ev Go.ChangeShapes Go.WideShapes Go.ChangeAt Go.RowKit
set_option maxRecDepth 100000
theorem main : ∀ vl, Args Tryd.prog Tryd.f8.params.toList vl → call E 8 vl [] = some ([V.b true], []) := by
  intro vl h
  rw [Tryd.params8] at h
  have h0 : Args Tryd.prog [55, 55] vl := h
  obtain ⟨v0, v1, rfl⟩ := args2 h0
  obtain ⟨⟨x0, rfl⟩, h1⟩ := ar55 h0
  obtain ⟨⟨x1, rfl⟩, h2⟩ := ar55 h1
  exact l8 x0 x1
theorem contract (H : Type) (enc : TypeId × Value → H) (W : World) (base : Nat) (args : Array Value) (ds gs : List (DataW H)) (before : List MemPlace)
    (hval : ∀ (j : Nat) t v, Tryd.f8.params[j]? = some t → args[j]? = some v → Value.okWide Tryd.prog W .any base t v)
    (hW : DataW.Whole enc Tryd.prog Tryd.f8.params.toList Rows.radixOneSpec.vars false W args.toList ds gs before) (hL : laidMetH Tryd.prog Rows.radixOneRow.laid W) :
    Calls Tryd.prog 8 args W fun e W' => ∃ v, e = .returned v ∧ Rows.radixOneSpec.post enc Tryd.prog Tryd.f8 false true false false W args v W' := by
  refine law_contract (P := Tryd.prog) (E := E) (K := Kw) (l := [3, 9, 23, 29, 31, 55, 65, 98, 100, 102]) (tb := 4) drawOk envOk (by kernel_rfl) (by kernel_rfl) (by kernel_rfl) rfl Tryd.underlying4 rfl ?_ main W (kw_of (l := Rows.radixOneRow.laid) (.head _) (.tail _ (.head _)) hL) base args ds gs before hval hW
  intro ds h
  rw [Tryd.params8] at h
  match ds, h with
  | [d0, d1], _ => rfl
theorem laid_met (os : Os) : laidMet Tryd.prog Rows.radixOneRow.laid ((laidWorld os).forCall (fun _ _ => 0) ⟨#[], #[.slice none 0 0, .slice none 0 0], []⟩).memory :=
  laidMet_of_run' 400 (by kernel_rfl) (by kernel_rfl)
theorem reads (os : Os) {H : Type} (enc : TypeId × Value → H) : ∃ places, DataW.whole enc Tryd.prog ((laidWorld os).forCall (fun _ _ => 0) ⟨#[], #[.slice none 0 0, .slice none 0 0], []⟩).memory Tryd.f8.params.toList Rows.radixOneSpec.vars false (#[.slice none 0 0, .slice none 0 0] : Array Value).toList 8 = some ([.nil, .nil], [], places) :=
  ⟨[], by kernel_rfl⟩
theorem lifted (os : Os) (started : os.Started) (H : Type) (enc : TypeId × Value → H) (F : Stop.Interp) :
    ReturnsInHanded {} Tryd.checked os 8 .any ((OpenSpec.ofChange Rows.radixOneSpec).preRow enc Tryd.prog Tryd.f8 Rows.radixOneRow.domain false Rows.radixOneRow.laid) (((OpenSpec.ofChange Rows.radixOneSpec).at F).post enc Tryd.prog Tryd.f8 false true false false) := by
  obtain ⟨places, hx⟩ := reads os enc
  refine returnsInHanded_of_row (C := Tryd.checked) (s := OpenSpec.ofChange Rows.radixOneSpec) own started (by kernel_rfl) Tryd.func8
    (witness_row_at (enc := enc) (C := Tryd.checked) false (laidWorld os) #[.slice none 0 0, .slice none 0 0] rfl (by kernel_rfl) (by kernel_rfl) (by kernel_rfl)
      (OpenSpec.preRow_of_cond 8 hx (by kernel_rfl) (fun k hk => by cases hk) (by kernel_rfl) (laid_met os))) ?_
  intro W base args ds gs before hval hW _ _ _ hL _ _
  exact contract H enc W base args ds gs before hval hW hL
theorem said : Rows.RadixOneSaid :=
  OpenClaim.holds_of_cond 8 Tryd.f8 rfl rfl rfl rfl rfl rfl rfl ⟨rfl, rfl, rfl, rfl, rfl⟩ rfl rfl rfl rfl rfl (by kernel_rfl) Tryd.func8 (by kernel_rfl)
    (of_decide_eq_true (by kernel_rfl)) (by unfold Func.isWrapper; first | (rw [if_pos (by decide +kernel)]; kernel_rfl) | (rw [if_neg (by decide +kernel)]; exact ⟨rfl, rfl⟩))
    (fun os started H enc _ F => by rw [OpenClaim.pre_eq_preRow]; exact lifted os started H enc F)
theorem plain (f : FuncId) (fn : Func) (hf : Tryd.pinned.checked.prog.funcNamed "fasti/fastilaw09.RadixOne" = some f) (hfn : Tryd.pinned.checked.prog.funcs[f]? = some fn) :
    true = Tryd.pinned.checked.prog.looks [] ∧ ∀ (j : Nat) t, fn.params[j]? = some t → Tryd.pinned.checked.prog.wantsStandIn t = false := by
  obtain rfl : f = 8 := Option.some.inj ((show Tryd.prog.funcNamed "fasti/fastilaw09.RadixOne" = some 8 by kernel_rfl).symm.trans hf) |>.symm
  obtain rfl : fn = Tryd.f8 := (Option.some.inj (Tryd.func8.symm.trans hfn)).symm
  refine ⟨by kernel_rfl, fun j t ht => ?_⟩
  rw [Tryd.params8] at ht
  have hm : t ∈ [55, 55] := by simpa using Array.mem_of_getElem? ht
  have hall : ([55, 55].all fun u => !Tryd.prog.wantsStandIn u) = true := by kernel_rfl
  exact (show Tryd.prog.wantsStandIn t = false by simpa using List.all_eq_true.1 hall t hm)
theorem card : Rows.RadixOneCardSaid :=
  Claim7.holds_tied_plain_at .later [] _ _ _ _ said (fun _ h => by cases h) (by kernel_rfl) (fun _ h => by cases h) radixOne_row_tie rfl ⟨rfl, rfl⟩ (by kernel_rfl) rfl plain (by kernel_rfl)
end Go.Proofs.YtgaabjmbnomimaaDoor.radixOne
namespace Go.Proofs.YtgaabjmbnomimaaDoor
theorem radixOne_card_holds : Rows.RadixOneCardSaid := radixOne.card
#print axioms radixOne_card_holds
end Go.Proofs.YtgaabjmbnomimaaDoor
