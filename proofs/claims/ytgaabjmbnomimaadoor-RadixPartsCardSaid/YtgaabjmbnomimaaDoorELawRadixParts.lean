/-
  The entries under a prefix are those between it and the end of its range; those between three bounds are divided by the middle one; nodes are at most twice the entries, plus one: whatever the arguments.
-/
import Derived.Test.YtgaabjmbnomimaaDoorCards
import Derived.Test.YtgaabjmbnomimaaDoorTie
import Derived.Test.YtgaabjmbnomimaaDoorEP4
set_option linter.all false
/-
  The entries under a prefix are those between it and the end of its range; those between three bounds are divided by the middle one; nodes are at most twice the entries, plus one: whatever the arguments.
-/
namespace Go.Proofs.YtgaabjmbnomimaaDoor.radixParts
open Go Go.Ev Go.ChangeShapes Go.WideShapes Go.ChangeAt Go.RowKit
set_option maxRecDepth 100000
theorem main : ∀ vl, Args Tryd.prog Tryd.f9.params.toList vl → call E 9 vl [] = some ([V.b true], []) := by
  intro vl h
  rw [Tryd.params9] at h
  have h0 : Args Tryd.prog [31, 9, 9, 9] vl := h
  obtain ⟨v0, v1, v2, v3, rfl⟩ := args4 h0
  obtain ⟨⟨x0, rfl⟩, h1⟩ := ar31 h0
  obtain ⟨⟨x1, rfl⟩, h2⟩ := ar9 h1
  obtain ⟨⟨x2, rfl⟩, h3⟩ := ar9 h2
  obtain ⟨⟨x3, rfl⟩, h4⟩ := ar9 h3
  exact l9 x0 x1 x2 x3
theorem contract (H : Type) (enc : TypeId × Value → H) (W : World) (base : Nat) (args : Array Value) (ds gs : List (DataW H)) (before : List MemPlace)
    (hval : ∀ (j : Nat) t v, Tryd.f9.params[j]? = some t → args[j]? = some v → Value.okWide Tryd.prog W .any base t v)
    (hW : DataW.Whole enc Tryd.prog Tryd.f9.params.toList Rows.radixPartsSpec.vars false W args.toList ds gs before) (hL : laidMetH Tryd.prog Rows.radixPartsRow.laid W) :
    Calls Tryd.prog 9 args W fun e W' => ∃ v, e = .returned v ∧ Rows.radixPartsSpec.post enc Tryd.prog Tryd.f9 false true false false W args v W' := by
  refine law_contract (P := Tryd.prog) (E := E) (K := Kw) (l := [3, 9, 23, 29, 31, 98, 100, 102]) (tb := 4) drawOk envOk (by kernel_rfl) (by kernel_rfl) (by kernel_rfl) rfl Tryd.underlying4 rfl ?_ main W (kw_of (l := Rows.radixPartsRow.laid) (.head _) (.tail _ (.head _)) hL) base args ds gs before hval hW
  intro ds h
  rw [Tryd.params9] at h
  match ds, h with
  | [d0, d1, d2, d3], _ => rfl
theorem laid_met (os : Os) : laidMet Tryd.prog Rows.radixPartsRow.laid ((laidWorld os).forCall (fun _ _ => 0) ⟨#[], #[.agg #[.string ⟨#[]⟩, .slice none 0 0, .slice none 0 0], .string ⟨#[]⟩, .string ⟨#[]⟩, .string ⟨#[]⟩], []⟩).memory :=
  laidMet_of_run' 400 (by kernel_rfl) (by kernel_rfl)
theorem reads (os : Os) {H : Type} (enc : TypeId × Value → H) : ∃ places, DataW.whole enc Tryd.prog ((laidWorld os).forCall (fun _ _ => 0) ⟨#[], #[.agg #[.string ⟨#[]⟩, .slice none 0 0, .slice none 0 0], .string ⟨#[]⟩, .string ⟨#[]⟩, .string ⟨#[]⟩], []⟩).memory Tryd.f9.params.toList Rows.radixPartsSpec.vars false (#[.agg #[.string ⟨#[]⟩, .slice none 0 0, .slice none 0 0], .string ⟨#[]⟩, .string ⟨#[]⟩, .string ⟨#[]⟩] : Array Value).toList 8 = some ([.agg [.lit (.string []), .nil, .nil], .lit (.string []), .lit (.string []), .lit (.string [])], [], places) :=
  ⟨[], by kernel_rfl⟩
theorem lifted (os : Os) (started : os.Started) (H : Type) (enc : TypeId × Value → H) (F : Stop.Interp) :
    ReturnsInHanded {} Tryd.checked os 9 .any ((OpenSpec.ofChange Rows.radixPartsSpec).preRow enc Tryd.prog Tryd.f9 Rows.radixPartsRow.domain false Rows.radixPartsRow.laid) (((OpenSpec.ofChange Rows.radixPartsSpec).at F).post enc Tryd.prog Tryd.f9 false true false false) := by
  obtain ⟨places, hx⟩ := reads os enc
  refine returnsInHanded_of_row (C := Tryd.checked) (s := OpenSpec.ofChange Rows.radixPartsSpec) own started (by kernel_rfl) Tryd.func9
    (witness_row_at (enc := enc) (C := Tryd.checked) false (laidWorld os) #[.agg #[.string ⟨#[]⟩, .slice none 0 0, .slice none 0 0], .string ⟨#[]⟩, .string ⟨#[]⟩, .string ⟨#[]⟩] rfl (by kernel_rfl) (by kernel_rfl) (by kernel_rfl)
      (OpenSpec.preRow_of_cond 8 hx (by kernel_rfl) (fun k hk => by cases hk) (by kernel_rfl) (laid_met os))) ?_
  intro W base args ds gs before hval hW _ _ _ hL _ _
  exact contract H enc W base args ds gs before hval hW hL
theorem said : Rows.RadixPartsSaid :=
  OpenClaim.holds_of_cond 9 Tryd.f9 rfl rfl rfl rfl rfl rfl rfl ⟨rfl, rfl, rfl, rfl, rfl⟩ rfl rfl rfl rfl rfl (by kernel_rfl) Tryd.func9 (by kernel_rfl)
    (of_decide_eq_true (by kernel_rfl)) (by unfold Func.isWrapper; first | (rw [if_pos (by decide +kernel)]; kernel_rfl) | (rw [if_neg (by decide +kernel)]; exact ⟨rfl, rfl⟩))
    (fun os started H enc _ F => by rw [OpenClaim.pre_eq_preRow]; exact lifted os started H enc F)
theorem plain (f : FuncId) (fn : Func) (hf : Tryd.pinned.checked.prog.funcNamed "fasti/fastilaw09.RadixParts" = some f) (hfn : Tryd.pinned.checked.prog.funcs[f]? = some fn) :
    true = Tryd.pinned.checked.prog.looks [] ∧ ∀ (j : Nat) t, fn.params[j]? = some t → Tryd.pinned.checked.prog.wantsStandIn t = false := by
  obtain rfl : f = 9 := Option.some.inj ((show Tryd.prog.funcNamed "fasti/fastilaw09.RadixParts" = some 9 by kernel_rfl).symm.trans hf) |>.symm
  obtain rfl : fn = Tryd.f9 := (Option.some.inj (Tryd.func9.symm.trans hfn)).symm
  refine ⟨by kernel_rfl, fun j t ht => ?_⟩
  rw [Tryd.params9] at ht
  have hm : t ∈ [31, 9, 9, 9] := by simpa using Array.mem_of_getElem? ht
  have hall : ([31, 9, 9, 9].all fun u => !Tryd.prog.wantsStandIn u) = true := by kernel_rfl
  exact (show Tryd.prog.wantsStandIn t = false by simpa using List.all_eq_true.1 hall t hm)
theorem card : Rows.RadixPartsCardSaid :=
  Claim7.holds_tied_plain_at .later [] _ _ _ _ said (fun _ h => by cases h) (by kernel_rfl) (fun _ h => by cases h) radixParts_row_tie rfl ⟨rfl, rfl⟩ (by kernel_rfl) rfl plain (by kernel_rfl)
end Go.Proofs.YtgaabjmbnomimaaDoor.radixParts
namespace Go.Proofs.YtgaabjmbnomimaaDoor
theorem radixParts_card_holds : Rows.RadixPartsCardSaid := radixParts.card
#print axioms radixParts_card_holds
end Go.Proofs.YtgaabjmbnomimaaDoor
