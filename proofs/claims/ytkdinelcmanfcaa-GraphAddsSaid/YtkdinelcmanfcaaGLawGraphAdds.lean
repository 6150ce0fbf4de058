/-
  Check and Add return what the reference returns, whatever the arguments.
-/
import Derived.Test.YtkdinelcmanfcaaGR
import Derived.WalkKit
import Derived.ProofKit
import Derived.OpenShut
import Derived.Below
set_option linter.unusedSimpArgs false
set_option linter.unusedVariables false
namespace Go.Proofs.Ytkdinelcmanfcaa.graphAdds
open Go Go.Ev Go.ChangeShapes Go.WideShapes Go.ChangeAt Go.RowKit

theorem own : ownKnob Try.prog.godebug = none := by kernel_rfl
theorem main : ∀ vl, Args Try.prog 8 Try.f7.params.toList vl → call E 7 vl [] = some ([V.b true], []) := by
  intro vl h
  rw [Try.params7] at h
  match vl, h with
  | [a, b], ⟨⟨xs, h1, e0⟩, ⟨ys, h2, e1⟩, _⟩ =>
    subst e0 e1
    obtain ⟨l, rfl⟩ := rd22 h1
    obtain ⟨c, rfl⟩ := rd29 h2
    rw [arg22, arg29]
    exact f7 l c
set_option maxRecDepth 100000 in
theorem lifted (os : Os) (started : os.Started) (H : Type) (enc : TypeId × Value → H) :
    ReturnsInHanded {} Try.checked os 7 .any (Rows.graphAddsSpec.pre6 enc Try.prog Try.f7 Rows.graphAddsRow.domain false) (Rows.graphAddsSpec.post enc Try.prog Try.f7 false true false false) := by
  refine returnsInHanded_of_change (C := Try.checked) own started (by kernel_rfl) Try.func7
    (ChangeSpec.witness6 (enc := enc) (C := Try.checked) false ⟨#[], #[.slice none 0 0, .agg #[.slice none 0 0, .int .i64 0]], []⟩ 8 (by kernel_rfl) (by kernel_rfl) (by kernel_rfl) (by kernel_rfl)) ?_
  intro W base args ds gs before hval hW _ _
  refine law_contract (P := Try.prog) (E := E) (n := 8) (tb := 4) (draw_ok (by kernel_rfl)) env_ok (by kernel_rfl) (by kernel_rfl) rfl Try.underlying4 rfl ?_ main W base args ds gs before hval hW
  intro ds h
  rw [Try.params7] at h
  match ds, h with
  | [d1, d2], _ => rfl
theorem over : Rows.graphAddsRow.holds Try.pinned (OpenSpec.ofChange Rows.graphAddsSpec) :=
  OpenClaim.holds_of_wide 7 Try.f7 rfl rfl rfl rfl rfl rfl rfl ⟨rfl, rfl, rfl, rfl, rfl⟩ rfl rfl rfl rfl rfl (by kernel_rfl) Try.func7 (by kernel_rfl)
    (of_decide_eq_true (by kernel_rfl)) (by unfold Func.isWrapper; first | (rw [if_pos (by decide +kernel)]; kernel_rfl) | (rw [if_neg (by decide +kernel)]; exact ⟨rfl, rfl⟩))
    (fun os started H enc _ => lifted os started H enc)
end Go.Proofs.Ytkdinelcmanfcaa.graphAdds
namespace Go.Proofs.Ytkdinelcmanfcaa
theorem graphAdds_holds : Rows.GraphAddsSaid := graphAdds.over
#print axioms graphAdds_holds
end Go.Proofs.Ytkdinelcmanfcaa
