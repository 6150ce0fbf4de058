/-
  Who ever had a value stands along first parents, and has it; first is among them: whatever the arguments.
-/
import Derived.Test.YtbilmkcdhodenaaDoorXR
import Derived.Test.YtbilmkcdhodenaaDoorCards
import Derived.Test.YtbilmkcdhodenaaDoorTie
set_option linter.all false
set_option linter.unusedSimpArgs false
set_option linter.unusedVariables false
namespace Go.Proofs.YtbilmkcdhodenaaDoor.searchEver
open Go Go.Ev Go.ChangeShapes Go.WideShapes Go.ChangeAt Go.RowKit
set_option maxRecDepth 100000

theorem main : ∀ vl, Args Tryd.prog Tryd.f6.params.toList vl → call E 6 vl [] = some ([V.b true], []) := by
  intro vl h
  rw [Tryd.params6] at h
  have h0 : Args Tryd.prog [29, 3, 9, 3] vl := h
  obtain ⟨v0, v1, v2, v3, rfl⟩ := args4 h0
  obtain ⟨⟨x0, rfl⟩, h1⟩ := ar29 h0
  obtain ⟨⟨x1, rfl⟩, h2⟩ := ar3 h1
  obtain ⟨⟨x2, rfl⟩, h3⟩ := ar9 h2
  obtain ⟨⟨x3, rfl⟩, h4⟩ := ar3 h3
  exact f6 x0 x1 x2 x3
theorem contract (H : Type) (enc : TypeId × Value → H) (W : World) (base : Nat) (args : Array Value) (ds gs : List (DataW H)) (before : List MemPlace)
    (hval : ∀ (j : Nat) t v, Tryd.f6.params[j]? = some t → args[j]? = some v → Value.okWide Tryd.prog W .any base t v)
    (hW : DataW.Whole enc Tryd.prog Tryd.f6.params.toList Rows.searchEverSpec.vars false W args.toList ds gs before) (hL : laidMetH Tryd.prog Rows.searchEverRow.laid W) :
    Calls Tryd.prog 6 args W fun e W' => ∃ v, e = .returned v ∧ Rows.searchEverSpec.post enc Tryd.prog Tryd.f6 false true false false W args v W' := by
  refine law_contract (P := Tryd.prog) (E := E) (K := Kw) (l := [3, 9, 22, 26, 27, 29, 30, 32, 40, 45, 49, 51, 58, 148]) (tb := 4) drawOk envOk (by kernel_rfl) (by kernel_rfl) (by kernel_rfl) rfl Tryd.underlying4 rfl ?_ main W (kw_of (l := Rows.searchEverRow.laid) (.head _) (.tail _ (.head _)) hL) base args ds gs before hval hW
  intro ds h
  rw [Tryd.params6] at h
  match ds, h with
  | [d0, d1, d2, d3], _ => rfl
theorem laid_met (os : Os) : laidMet Tryd.prog Rows.searchEverRow.laid ((laidWorld os).forCall (fun _ _ => 0) ⟨#[], #[.agg #[.slice none 0 0, .slice none 0 0], .int .i64 0, .string ⟨#[]⟩, .int .i64 0], []⟩).memory :=
  laidMet_of_run' 400 (by kernel_rfl) (by kernel_rfl)
theorem reads (os : Os) {H : Type} (enc : TypeId × Value → H) : ∃ places, DataW.whole enc Tryd.prog ((laidWorld os).forCall (fun _ _ => 0) ⟨#[], #[.agg #[.slice none 0 0, .slice none 0 0], .int .i64 0, .string ⟨#[]⟩, .int .i64 0], []⟩).memory Tryd.f6.params.toList Rows.searchEverSpec.vars false (#[.agg #[.slice none 0 0, .slice none 0 0], .int .i64 0, .string ⟨#[]⟩, .int .i64 0] : Array Value).toList 8 = some ([.agg [.nil, .nil], .lit (.int .i64 0), .lit (.string []), .lit (.int .i64 0)], [], places) :=
  ⟨[], by kernel_rfl⟩
theorem lifted (os : Os) (started : os.Started) (H : Type) (enc : TypeId × Value → H) (F : Stop.Interp) :
    ReturnsInHanded {} Tryd.checked os 6 .any ((OpenSpec.ofChange Rows.searchEverSpec).preRow enc Tryd.prog Tryd.f6 Rows.searchEverRow.domain false Rows.searchEverRow.laid) (((OpenSpec.ofChange Rows.searchEverSpec).at F).post enc Tryd.prog Tryd.f6 false true false false) := by
  obtain ⟨places, hx⟩ := reads os enc
  refine returnsInHanded_of_row (C := Tryd.checked) (s := OpenSpec.ofChange Rows.searchEverSpec) own started (by kernel_rfl) Tryd.func6
    (witness_row_at (enc := enc) (C := Tryd.checked) false (laidWorld os) #[.agg #[.slice none 0 0, .slice none 0 0], .int .i64 0, .string ⟨#[]⟩, .int .i64 0] rfl (by kernel_rfl) (by kernel_rfl) (by kernel_rfl)
      (OpenSpec.preRow_of_cond 8 hx (by kernel_rfl) (fun k hk => by cases hk) (by kernel_rfl) (laid_met os))) ?_
  intro W base args ds gs before hval hW _ _ _ hL _ _
  exact contract H enc W base args ds gs before hval hW hL
theorem said : Rows.SearchEverSaid :=
  OpenClaim.holds_of_cond 6 Tryd.f6 rfl rfl rfl rfl rfl rfl rfl ⟨rfl, rfl, rfl, rfl, rfl⟩ rfl rfl rfl rfl rfl (by kernel_rfl) Tryd.func6 (by kernel_rfl)
    (of_decide_eq_true (by kernel_rfl)) (by unfold Func.isWrapper; first | (rw [if_pos (by decide +kernel)]; kernel_rfl) | (rw [if_neg (by decide +kernel)]; exact ⟨rfl, rfl⟩))
    (fun os started H enc _ F => by rw [OpenClaim.pre_eq_preRow]; exact lifted os started H enc F)
theorem plain (f : FuncId) (fn : Func) (hf : Tryd.pinned.checked.prog.funcNamed "fasti/fastilaw31.SearchEver" = some f) (hfn : Tryd.pinned.checked.prog.funcs[f]? = some fn) :
    true = Tryd.pinned.checked.prog.looks [] ∧ ∀ (j : Nat) t, fn.params[j]? = some t → Tryd.pinned.checked.prog.wantsStandIn t = false := by
  obtain rfl : f = 6 := Option.some.inj ((show Tryd.prog.funcNamed "fasti/fastilaw31.SearchEver" = some 6 by kernel_rfl).symm.trans hf) |>.symm
  obtain rfl : fn = Tryd.f6 := (Option.some.inj (Tryd.func6.symm.trans hfn)).symm
  refine ⟨by kernel_rfl, fun j t ht => ?_⟩
  rw [Tryd.params6] at ht
  have hm : t ∈ [29, 3, 9, 3] := by simpa using Array.mem_of_getElem? ht
  have hall : ([29, 3, 9, 3].all fun u => !Tryd.prog.wantsStandIn u) = true := by kernel_rfl
  exact (show Tryd.prog.wantsStandIn t = false by simpa using List.all_eq_true.1 hall t hm)
theorem card : Rows.SearchEverCardSaid :=
  Claim7.holds_tied_plain_at .later [] _ _ _ _ said (fun _ h => by cases h) (by kernel_rfl) (fun _ h => by cases h) searchEver_row_tie rfl ⟨rfl, rfl⟩ (by kernel_rfl) rfl plain (by kernel_rfl)
end Go.Proofs.YtbilmkcdhodenaaDoor.searchEver
namespace Go.Proofs.YtbilmkcdhodenaaDoor
theorem searchEver_card_holds : Rows.SearchEverCardSaid := searchEver.card
#print axioms searchEver_card_holds
end Go.Proofs.YtbilmkcdhodenaaDoor
