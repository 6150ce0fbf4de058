/-
  Changes and Replay return what the specification returns for any trees and changes: whatever the arguments.
-/
import Derived.Test.YtgaabjmbnomimaaGreatDoorCards
import Derived.Test.YtgaabjmbnomimaaGreatDoorTie
import Derived.Test.YtgaabjmbnomimaaGreatDoorZdT5
set_option linter.all false
/-
 Changes and Replay return what the specification returns for any trees and changes: whatever the arguments.
-/
namespace Go.Proofs.YtgaabjmbnomimaaGreatDoor.deltaChanges
open Go Go.Ev Go.ChangeShapes Go.WideShapes Go.ChangeAt Go.RowKit
set_option maxRecDepth 100000
theorem main : ∀ vl, Args Tryz.prog Tryz.f5.params.toList vl -> call E 5 vl [] = some ([V.b true], []) := by
 intro vl h
 rw [Tryz.params5] at h
 have h0 : Args Tryz.prog [30, 30, 63] vl := h
 obtain ⟨v0, v1, v2, rfl⟩ := args3 h0
 obtain ⟨⟨x0, rfl⟩, h1⟩ := ar30 h0
 obtain ⟨⟨x1, rfl⟩, h2⟩ := ar30 h1
 obtain ⟨⟨x2, rfl⟩, h3⟩ := ar63 h2
 exact l5 x0 x1 x2
theorem contract (H : Type) (enc : TypeId × Value -> H) (W : World) (base : Nat) (args : Array Value) (ds gs : List (DataW H)) (before : List MemPlace)
   (hval : ∀ (j : Nat) t v, Tryz.f5.params[j]? = some t -> args[j]? = some v -> Value.okWide Tryz.prog W .any base t v)
   (hW : DataW.Whole enc Tryz.prog Tryz.f5.params.toList Rows.deltaChangesSpec.vars false W args.toList ds gs before) (hL : laidMetH Tryz.prog Rows.deltaChangesRow.laid W) :
   Calls Tryz.prog 5 args W fun e W' => ∃ v, e = .returned v /\ Rows.deltaChangesSpec.post enc Tryz.prog Tryz.f5 false true false false W args v W' := by
 refine law_contract (P := Tryz.prog) (E := E) (K := Kw) (l := [3, 9, 23, 28, 30, 63, 65, 80, 82, 108]) (tb := 4) drawOk envOk (by kernel_rfl) (by kernel_rfl) (by kernel_rfl) rfl Tryz.underlying4 rfl ?_ main W (kw_of (l := Rows.deltaChangesRow.laid) (.head _) (.tail _ (.head _)) hL) base args ds gs before hval hW
 intro ds h
 rw [Tryz.params5] at h
 match ds, h with
 | [d0, d1, d2], _ => rfl
theorem laid_met (os : Os) : laidMet Tryz.prog Rows.deltaChangesRow.laid ((laidWorld os).forCall (fun _ _ => 0) ⟨#[], #[.agg #[.string ⟨#[]⟩, .slice none 0 0, .slice none 0 0], .agg #[.string ⟨#[]⟩, .slice none 0 0, .slice none 0 0], .slice none 0 0], []⟩).memory :=
 laidMet_of_run' 400 (by kernel_rfl) (by kernel_rfl)
theorem reads (os : Os) {H : Type} (enc : TypeId × Value -> H) : ∃ places, DataW.whole enc Tryz.prog ((laidWorld os).forCall (fun _ _ => 0) ⟨#[], #[.agg #[.string ⟨#[]⟩, .slice none 0 0, .slice none 0 0], .agg #[.string ⟨#[]⟩, .slice none 0 0, .slice none 0 0], .slice none 0 0], []⟩).memory Tryz.f5.params.toList Rows.deltaChangesSpec.vars false (#[.agg #[.string ⟨#[]⟩, .slice none 0 0, .slice none 0 0], .agg #[.string ⟨#[]⟩, .slice none 0 0, .slice none 0 0], .slice none 0 0] : Array Value).toList 8 = some ([.agg [.lit (.string []), .nil, .nil], .agg [.lit (.string []), .nil, .nil], .nil], [], places) :=
 ⟨[], by kernel_rfl⟩
theorem lifted (os : Os) (started : os.Started) (H : Type) (enc : TypeId × Value -> H) (F : Stop.Interp) :
   ReturnsInHanded {} Tryz.checked os 5 .any ((OpenSpec.ofChange Rows.deltaChangesSpec).preRow enc Tryz.prog Tryz.f5 Rows.deltaChangesRow.domain false Rows.deltaChangesRow.laid) (((OpenSpec.ofChange Rows.deltaChangesSpec).at F).post enc Tryz.prog Tryz.f5 false true false false) := by
 obtain ⟨places, hx⟩ := reads os enc
 refine returnsInHanded_of_row (C := Tryz.checked) (s := OpenSpec.ofChange Rows.deltaChangesSpec) own started (by kernel_rfl) Tryz.func5
   (witness_row_at (enc := enc) (C := Tryz.checked) false (laidWorld os) #[.agg #[.string ⟨#[]⟩, .slice none 0 0, .slice none 0 0], .agg #[.string ⟨#[]⟩, .slice none 0 0, .slice none 0 0], .slice none 0 0] rfl (by kernel_rfl) (by kernel_rfl) (by kernel_rfl)
     (OpenSpec.preRow_of_cond 8 hx (by kernel_rfl) (fun k hk => by cases hk) (by kernel_rfl) (laid_met os))) ?_
 intro W base args ds gs before hval hW _ _ _ hL _ _
 exact contract H enc W base args ds gs before hval hW hL
theorem said : Rows.DeltaChangesSaid :=
 OpenClaim.holds_of_cond 5 Tryz.f5 rfl rfl rfl rfl rfl rfl rfl ⟨rfl, rfl, rfl, rfl, rfl⟩ rfl rfl rfl rfl rfl (by kernel_rfl) Tryz.func5 (by kernel_rfl)
   (of_decide_eq_true (by kernel_rfl)) (by unfold Func.isWrapper; first | (rw [if_pos (by decide +kernel)]; kernel_rfl) | (rw [if_neg (by decide +kernel)]; exact ⟨rfl, rfl⟩))
   (fun os started H enc _ F => by rw [OpenClaim.pre_eq_preRow]; exact lifted os started H enc F)
theorem plain (f : FuncId) (fn : Func) (hf : Tryz.pinned.checked.prog.funcNamed "fasti/fastilaw11.DeltaChanges" = some f) (hfn : Tryz.pinned.checked.prog.funcs[f]? = some fn) :
   true = Tryz.pinned.checked.prog.looks [] /\ ∀ (j : Nat) t, fn.params[j]? = some t -> Tryz.pinned.checked.prog.wantsStandIn t = false := by
 obtain rfl : f = 5 := Option.some.inj ((show Tryz.prog.funcNamed "fasti/fastilaw11.DeltaChanges" = some 5 by kernel_rfl).symm.trans hf) |>.symm
 obtain rfl : fn = Tryz.f5 := (Option.some.inj (Tryz.func5.symm.trans hfn)).symm
 refine ⟨by kernel_rfl, fun j t ht => ?_⟩
 rw [Tryz.params5] at ht
 have hm : t ∈ [30, 30, 63] := by simpa using Array.mem_of_getElem? ht
 have hall : ([30, 30, 63].all fun u => !Tryz.prog.wantsStandIn u) = true := by kernel_rfl
 exact (show Tryz.prog.wantsStandIn t = false by simpa using List.all_eq_true.1 hall t hm)
theorem card : Rows.DeltaChangesCardSaid :=
 Claim7.holds_tied_plain_at .later [] _ _ _ _ said (fun _ h => by cases h) (by kernel_rfl) (fun _ h => by cases h) deltaChanges_row_tie rfl ⟨rfl, rfl⟩ (by kernel_rfl) rfl plain (by kernel_rfl)
end Go.Proofs.YtgaabjmbnomimaaGreatDoor.deltaChanges
namespace Go.Proofs.YtgaabjmbnomimaaGreatDoor
theorem deltaChanges_card_holds : Rows.DeltaChangesCardSaid := deltaChanges.card
#print axioms deltaChanges_card_holds
end Go.Proofs.YtgaabjmbnomimaaGreatDoor
