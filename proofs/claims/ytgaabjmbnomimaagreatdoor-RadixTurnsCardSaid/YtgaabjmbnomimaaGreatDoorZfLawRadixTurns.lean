/-
  Put, Get, Under and Between return what the specification returns for any tree: whatever the arguments.
-/
import Derived.Test.YtgaabjmbnomimaaGreatDoorCards
import Derived.Test.YtgaabjmbnomimaaGreatDoorTie
import Derived.Test.YtgaabjmbnomimaaGreatDoorZeP5
set_option linter.all false
/-
  Put, Get, Under and Between return what the specification returns for any tree: whatever the arguments.
-/
namespace Go.Proofs.YtgaabjmbnomimaaGreatDoor.radixTurns
open Go Go.Ev Go.ChangeShapes Go.WideShapes Go.ChangeAt Go.RowKit
set_option maxRecDepth 100000
theorem main : ∀ vl, Args Tryz.prog Tryz.f4.params.toList vl → call E 4 vl [] = some ([V.b true], []) := by
  intro vl h
  rw [Tryz.params4] at h
  have h0 : Args Tryz.prog [30, 9, 28, 9] vl := h
  obtain ⟨v0, v1, v2, v3, rfl⟩ := args4 h0
  obtain ⟨⟨x0, rfl⟩, h1⟩ := ar30 h0
  obtain ⟨⟨x1, rfl⟩, h2⟩ := ar9 h1
  obtain ⟨⟨x2, rfl⟩, h3⟩ := ar28 h2
  obtain ⟨⟨x3, rfl⟩, h4⟩ := ar9 h3
  exact l4 x0 x1 x2 x3
theorem contract (H : Type) (enc : TypeId × Value → H) (W : World) (base : Nat) (args : Array Value) (ds gs : List (DataW H)) (before : List MemPlace)
    (hval : ∀ (j : Nat) t v, Tryz.f4.params[j]? = some t → args[j]? = some v → Value.okWide Tryz.prog W .any base t v)
    (hW : DataW.Whole enc Tryz.prog Tryz.f4.params.toList Rows.radixTurnsSpec.vars false W args.toList ds gs before) (hL : laidMetH Tryz.prog Rows.radixTurnsRow.laid W) :
    Calls Tryz.prog 4 args W fun e W' => ∃ v, e = .returned v ∧ Rows.radixTurnsSpec.post enc Tryz.prog Tryz.f4 false true false false W args v W' := by
  refine law_contract (P := Tryz.prog) (E := E) (K := Kw) (l := [3, 9, 23, 28, 30, 80, 82, 108]) (tb := 4) drawOk envOk (by kernel_rfl) (by kernel_rfl) (by kernel_rfl) rfl Tryz.underlying4 rfl ?_ main W (kw_of (l := Rows.radixTurnsRow.laid) (.head _) (.tail _ (.head _)) hL) base args ds gs before hval hW
  intro ds h
  rw [Tryz.params4] at h
  match ds, h with
  | [d0, d1, d2, d3], _ => rfl
theorem laid_met (os : Os) : laidMet Tryz.prog Rows.radixTurnsRow.laid ((laidWorld os).forCall (fun _ _ => 0) ⟨#[], #[.agg #[.string ⟨#[]⟩, .slice none 0 0, .slice none 0 0], .string ⟨#[]⟩, .slice none 0 0, .string ⟨#[]⟩], []⟩).memory :=
  laidMet_of_run' 400 (by kernel_rfl) (by kernel_rfl)
theorem reads (os : Os) {H : Type} (enc : TypeId × Value → H) : ∃ places, DataW.whole enc Tryz.prog ((laidWorld os).forCall (fun _ _ => 0) ⟨#[], #[.agg #[.string ⟨#[]⟩, .slice none 0 0, .slice none 0 0], .string ⟨#[]⟩, .slice none 0 0, .string ⟨#[]⟩], []⟩).memory Tryz.f4.params.toList Rows.radixTurnsSpec.vars false (#[.agg #[.string ⟨#[]⟩, .slice none 0 0, .slice none 0 0], .string ⟨#[]⟩, .slice none 0 0, .string ⟨#[]⟩] : Array Value).toList 8 = some ([.agg [.lit (.string []), .nil, .nil], .lit (.string []), .nil, .lit (.string [])], [], places) :=
  ⟨[], by kernel_rfl⟩
theorem lifted (os : Os) (started : os.Started) (H : Type) (enc : TypeId × Value → H) (F : Stop.Interp) :
    ReturnsInHanded {} Tryz.checked os 4 .any ((OpenSpec.ofChange Rows.radixTurnsSpec).preRow enc Tryz.prog Tryz.f4 Rows.radixTurnsRow.domain false Rows.radixTurnsRow.laid) (((OpenSpec.ofChange Rows.radixTurnsSpec).at F).post enc Tryz.prog Tryz.f4 false true false false) := by
  obtain ⟨places, hx⟩ := reads os enc
  refine returnsInHanded_of_row (C := Tryz.checked) (s := OpenSpec.ofChange Rows.radixTurnsSpec) own started (by kernel_rfl) Tryz.func4
    (witness_row_at (enc := enc) (C := Tryz.checked) false (laidWorld os) #[.agg #[.string ⟨#[]⟩, .slice none 0 0, .slice none 0 0], .string ⟨#[]⟩, .slice none 0 0, .string ⟨#[]⟩] rfl (by kernel_rfl) (by kernel_rfl) (by kernel_rfl)
      (OpenSpec.preRow_of_cond 8 hx (by kernel_rfl) (fun k hk => by cases hk) (by kernel_rfl) (laid_met os))) ?_
  intro W base args ds gs before hval hW _ _ _ hL _ _
  exact contract H enc W base args ds gs before hval hW hL
theorem said : Rows.RadixTurnsSaid :=
  OpenClaim.holds_of_cond 4 Tryz.f4 rfl rfl rfl rfl rfl rfl rfl ⟨rfl, rfl, rfl, rfl, rfl⟩ rfl rfl rfl rfl rfl (by kernel_rfl) Tryz.func4 (by kernel_rfl)
    (of_decide_eq_true (by kernel_rfl)) (by unfold Func.isWrapper; first | (rw [if_pos (by decide +kernel)]; kernel_rfl) | (rw [if_neg (by decide +kernel)]; exact ⟨rfl, rfl⟩))
    (fun os started H enc _ F => by rw [OpenClaim.pre_eq_preRow]; exact lifted os started H enc F)
theorem plain (f : FuncId) (fn : Func) (hf : Tryz.pinned.checked.prog.funcNamed "fasti/fastilaw09.RadixTurns" = some f) (hfn : Tryz.pinned.checked.prog.funcs[f]? = some fn) :
    true = Tryz.pinned.checked.prog.looks [] ∧ ∀ (j : Nat) t, fn.params[j]? = some t → Tryz.pinned.checked.prog.wantsStandIn t = false := by
  obtain rfl : f = 4 := Option.some.inj ((show Tryz.prog.funcNamed "fasti/fastilaw09.RadixTurns" = some 4 by kernel_rfl).symm.trans hf) |>.symm
  obtain rfl : fn = Tryz.f4 := (Option.some.inj (Tryz.func4.symm.trans hfn)).symm
  refine ⟨by kernel_rfl, fun j t ht => ?_⟩
  rw [Tryz.params4] at ht
  have hm : t ∈ [30, 9, 28, 9] := by simpa using Array.mem_of_getElem? ht
  have hall : ([30, 9, 28, 9].all fun u => !Tryz.prog.wantsStandIn u) = true := by kernel_rfl
  exact (show Tryz.prog.wantsStandIn t = false by simpa using List.all_eq_true.1 hall t hm)
theorem card : Rows.RadixTurnsCardSaid :=
  Claim7.holds_tied_plain_at .later [] _ _ _ _ said (fun _ h => by cases h) (by kernel_rfl) (fun _ h => by cases h) radixTurns_row_tie rfl ⟨rfl, rfl⟩ (by kernel_rfl) rfl plain (by kernel_rfl)
end Go.Proofs.YtgaabjmbnomimaaGreatDoor.radixTurns
namespace Go.Proofs.YtgaabjmbnomimaaGreatDoor
theorem radixTurns_card_holds : Rows.RadixTurnsCardSaid := radixTurns.card
#print axioms radixTurns_card_holds
end Go.Proofs.YtgaabjmbnomimaaGreatDoor
