/-
  Gen, Reach, Before, Bases, First, AsOf and Since return what the reference returns, whatever the arguments.
-/
import Derived.Test.YtkdinelcmanfcaaGR
import Derived.WalkKit
import Derived.ProofKit
import Derived.OpenShut
import Derived.Below
set_option linter.unusedSimpArgs false
set_option linter.unusedVariables false
namespace Go.Proofs.Ytkdinelcmanfcaa.graphTells
open Go Go.Ev Go.ChangeShapes Go.WideShapes Go.ChangeAt Go.RowKit

theorem own : ownKnob Try.prog.godebug = none := by kernel_rfl
theorem main : ∀ vl, Args Try.prog 8 Try.f5.params.toList vl → call E 5 vl [] = some ([V.b true], []) := by
  intro vl h
  rw [Try.params5] at h
  match vl, h with
  | a :: vl, ⟨⟨xs, h1, e0⟩, h2⟩ =>
    subst e0
    obtain ⟨l, rfl⟩ := rd22 h1
    obtain ⟨vs, e, rfl⟩ := main_ints 3 rfl h2
    rw [arg22]
    match vs, e with
    | [a, b, c], _ => exact f5 l a b c
set_option maxRecDepth 100000 in
theorem lifted (os : Os) (started : os.Started) (H : Type) (enc : TypeId × Value → H) :
    ReturnsInHanded {} Try.checked os 5 .any (Rows.graphTellsSpec.pre6 enc Try.prog Try.f5 Rows.graphTellsRow.domain false) (Rows.graphTellsSpec.post enc Try.prog Try.f5 false true false false) := by
  refine returnsInHanded_of_change (C := Try.checked) own started (by kernel_rfl) Try.func5
    (ChangeSpec.witness6 (enc := enc) (C := Try.checked) false ⟨#[], #[.slice none 0 0, .int .i64 0, .int .i64 0, .int .i64 0], []⟩ 8 (by kernel_rfl) (by kernel_rfl) (by kernel_rfl) (by kernel_rfl)) ?_
  intro W base args ds gs before hval hW _ _
  refine law_contract (P := Try.prog) (E := E) (n := 8) (tb := 4) (draw_ok (by kernel_rfl)) env_ok (by kernel_rfl) (by kernel_rfl) rfl Try.underlying4 rfl ?_ main W base args ds gs before hval hW
  intro ds h
  rw [Try.params5] at h
  match ds, h with
  | [d1, d2, d3, d4], _ => rfl
theorem over : Rows.graphTellsRow.holds Try.pinned (OpenSpec.ofChange Rows.graphTellsSpec) :=
  OpenClaim.holds_of_wide 5 Try.f5 rfl rfl rfl rfl rfl rfl rfl ⟨rfl, rfl, rfl, rfl, rfl⟩ rfl rfl rfl rfl rfl (by kernel_rfl) Try.func5 (by kernel_rfl)
    (of_decide_eq_true (by kernel_rfl)) (by unfold Func.isWrapper; first | (rw [if_pos (by decide +kernel)]; kernel_rfl) | (rw [if_neg (by decide +kernel)]; exact ⟨rfl, rfl⟩))
    (fun os started H enc _ => lifted os started H enc)
end Go.Proofs.Ytkdinelcmanfcaa.graphTells
namespace Go.Proofs.Ytkdinelcmanfcaa
theorem graphTells_holds : Rows.GraphTellsSaid := graphTells.over
#print axioms graphTells_holds
end Go.Proofs.Ytkdinelcmanfcaa
