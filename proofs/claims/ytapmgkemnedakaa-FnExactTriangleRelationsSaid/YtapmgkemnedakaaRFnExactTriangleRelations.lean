/- The row of the law FnExactTriangleRelations: for every argument that can be read the law returns true, and the arguments read as before. -/
import Derived.Test.YtapmgkemnedakaaC74
import Derived.Test.YtapmgkemnedakaaSepLaw
import Derived.Test.YtapmgkemnedakaaRows
namespace Go.Proofs.Ytapmgkemnedakaa.Sep.FnExactTriangleRelations
open Go.RowKit Go.ChangeShapes Go.WideShapes
set_option linter.unusedVariables false
set_option linter.unusedSimpArgs false
set_option maxRecDepth 100000

theorem own : ownKnob Try.prog.godebug = none := by kernel_rfl
theorem laidOut : laidOutB Try.prog = true := by kernel_rfl

theorem lifted (os : Os) (started : os.Started) (H : Type) (enc : TypeId × Value → H) :
    ReturnsInHanded {} Try.checked os 3 .any (Rows.fnExactTriangleRelationsSpec.pre6 enc Try.prog Try.f3 Rows.fnExactTriangleRelationsRow.domain false) (Rows.fnExactTriangleRelationsSpec.post enc Try.prog Try.f3 false true false false) := by
  refine returnsInHanded_of_change (C := Try.checked) own started (by kernel_rfl) Try.func3
    (ChangeSpec.witness6 (enc := enc) (C := Try.checked) false ⟨#[], #[.int .i64 0, .int .i64 0, .int .i64 0], []⟩ 8 (by kernel_rfl) (by kernel_rfl) (by kernel_rfl) (by kernel_rfl)) ?_
  intro W base args ds gs before hval hW _ _
  refine (law_calls (d := 9) (by kernel_rfl) t_FnExactTriangleRelations hval hW).mono fun e W' ⟨he, hb⟩ => ?_
  exact ⟨_, he, law_post laidOut (by kernel_rfl) rfl Try.underlying4 rfl (fun ds hl => by
    match ds, hl with
    | [d0, d1, d2], _ => rfl) hW hb⟩

theorem over : Rows.fnExactTriangleRelationsRow.holds Try.pinned (OpenSpec.ofChange Rows.fnExactTriangleRelationsSpec) :=
  OpenClaim.holds_of_wide 3 Try.f3 rfl rfl rfl rfl rfl rfl rfl ⟨rfl, rfl, rfl, rfl, rfl⟩ rfl rfl rfl rfl rfl (by kernel_rfl) Try.func3 (by kernel_rfl)
    (of_decide_eq_true (by kernel_rfl)) (by unfold Func.isWrapper; first | (rw [if_pos (by decide +kernel)]; kernel_rfl) | (rw [if_neg (by decide +kernel)]; exact ⟨rfl, rfl⟩))
    (fun os started H enc _ => lifted os started H enc)
end Go.Proofs.Ytapmgkemnedakaa.Sep.FnExactTriangleRelations
namespace Go.Proofs.Ytapmgkemnedakaa
/-- The row. -/
theorem fnExactTriangleRelations_holds : Rows.FnExactTriangleRelationsSaid := Sep.FnExactTriangleRelations.over
#print axioms fnExactTriangleRelations_holds
end Go.Proofs.Ytapmgkemnedakaa
