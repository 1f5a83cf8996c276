/- The row of the law FnExactIntersectionTable: for every argument that can be read the law returns true, and the arguments read as before. -/
import Derived.Test.YtcleiehdddjicaaC58
import Derived.Test.YtcleiehdddjicaaSepLaw
import Derived.Test.YtcleiehdddjicaaRows
namespace Go.Proofs.Ytcleiehdddjicaa.Sep.FnExactIntersectionTable
open Go.RowKit Go.ChangeShapes Go.WideShapes
set_option linter.unusedVariables false
set_option linter.unusedSimpArgs false
set_option maxRecDepth 100000

theorem own : ownKnob Try.prog.godebug = none := by kernel_rfl
theorem laidOut : laidOutB Try.prog = true := by kernel_rfl

theorem lifted (os : Os) (started : os.Started) (H : Type) (enc : TypeId × Value → H) :
    ReturnsInHanded {} Try.checked os 6 .any (Rows.fnExactIntersectionTableSpec.pre6 enc Try.prog Try.f6 Rows.fnExactIntersectionTableRow.domain false) (Rows.fnExactIntersectionTableSpec.post enc Try.prog Try.f6 false true false false) := by
  refine returnsInHanded_of_change (C := Try.checked) own started (by kernel_rfl) Try.func6
    (ChangeSpec.witness6 (enc := enc) (C := Try.checked) false ⟨#[], #[.agg (#[.int .i64 0] ++ Array.replicate 32 (.int .u8 0))], []⟩ 8 (by kernel_rfl) (by kernel_rfl) (by kernel_rfl) (by kernel_rfl)) ?_
  intro W base args ds gs before hval hW _ _
  refine (law_calls (d := 9) (by kernel_rfl) t_FnExactIntersectionTable hval hW).mono fun e W' ⟨he, hb⟩ => ?_
  exact ⟨_, he, law_post laidOut (by kernel_rfl) rfl Try.underlying4 rfl (fun ds hl => by
    match ds, hl with
    | [d0], _ => rfl) hW hb⟩

theorem over : Rows.fnExactIntersectionTableRow.holds Try.pinned (OpenSpec.ofChange Rows.fnExactIntersectionTableSpec) :=
  OpenClaim.holds_of_wide 6 Try.f6 rfl rfl rfl rfl rfl rfl rfl ⟨rfl, rfl, rfl, rfl, rfl⟩ rfl rfl rfl rfl rfl (by kernel_rfl) Try.func6 (by kernel_rfl)
    (of_decide_eq_true (by kernel_rfl)) (by unfold Func.isWrapper; first | (rw [if_pos (by decide +kernel)]; kernel_rfl) | (rw [if_neg (by decide +kernel)]; exact ⟨rfl, rfl⟩))
    (fun os started H enc _ => lifted os started H enc)
end Go.Proofs.Ytcleiehdddjicaa.Sep.FnExactIntersectionTable
namespace Go.Proofs.Ytcleiehdddjicaa
/-- The row. -/
theorem fnExactIntersectionTable_holds : Rows.FnExactIntersectionTableSaid := Sep.FnExactIntersectionTable.over
#print axioms fnExactIntersectionTable_holds
end Go.Proofs.Ytcleiehdddjicaa
