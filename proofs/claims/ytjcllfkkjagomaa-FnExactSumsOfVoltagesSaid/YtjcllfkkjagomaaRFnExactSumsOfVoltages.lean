/- The row of the law FnExactSumsOfVoltages: for every argument that can be read the law returns true, and the arguments read as before. -/
import Derived.Test.YtjcllfkkjagomaaC34
import Derived.Test.YtjcllfkkjagomaaSepLaw
import Derived.Test.YtjcllfkkjagomaaRows
namespace Go.Proofs.Ytjcllfkkjagomaa.Sep.FnExactSumsOfVoltages
open Go.RowKit Go.ChangeShapes Go.WideShapes
set_option linter.unusedVariables false
set_option linter.unusedSimpArgs false
set_option maxRecDepth 100000

theorem own : ownKnob Try.prog.godebug = none := by kernel_rfl
theorem laidOut : laidOutB Try.prog = true := by kernel_rfl

theorem lifted (os : Os) (started : os.Started) (H : Type) (enc : TypeId × Value → H) :
    ReturnsInHanded {} Try.checked os 3 .any (Rows.fnExactSumsOfVoltagesSpec.pre6 enc Try.prog Try.f3 Rows.fnExactSumsOfVoltagesRow.domain false) (Rows.fnExactSumsOfVoltagesSpec.post enc Try.prog Try.f3 false true false false) := by
  refine returnsInHanded_of_change (C := Try.checked) own started (by kernel_rfl) Try.func3
    (ChangeSpec.witness6 (enc := enc) (C := Try.checked) false ⟨#[], #[.agg (#[.int .i64 0] ++ Array.replicate 32 (.int .u8 0)), .int .i64 0, .slice none 0 0, .slice none 0 0], []⟩ 8 (by kernel_rfl) (by kernel_rfl) (by kernel_rfl) (by kernel_rfl)) ?_
  intro W base args ds gs before hval hW _ _
  refine (law_calls (d := 9) (by kernel_rfl) t_FnExactSumsOfVoltages hval hW).mono fun e W' ⟨he, hb⟩ => ?_
  exact ⟨_, he, law_post laidOut (by kernel_rfl) rfl Try.underlying4 rfl (fun ds hl => by
    match ds, hl with
    | [d0, d1, d2, d3], _ => rfl) hW hb⟩

theorem over : Rows.fnExactSumsOfVoltagesRow.holds Try.pinned (OpenSpec.ofChange Rows.fnExactSumsOfVoltagesSpec) :=
  OpenClaim.holds_of_wide 3 Try.f3 rfl rfl rfl rfl rfl rfl rfl ⟨rfl, rfl, rfl, rfl, rfl⟩ rfl rfl rfl rfl rfl (by kernel_rfl) Try.func3 (by kernel_rfl)
    (of_decide_eq_true (by kernel_rfl)) (by unfold Func.isWrapper; first | (rw [if_pos (by decide +kernel)]; kernel_rfl) | (rw [if_neg (by decide +kernel)]; exact ⟨rfl, rfl⟩))
    (fun os started H enc _ => lifted os started H enc)
end Go.Proofs.Ytjcllfkkjagomaa.Sep.FnExactSumsOfVoltages
namespace Go.Proofs.Ytjcllfkkjagomaa
/-- The row. -/
theorem fnExactSumsOfVoltages_holds : Rows.FnExactSumsOfVoltagesSaid := Sep.FnExactSumsOfVoltages.over
#print axioms fnExactSumsOfVoltages_holds
end Go.Proofs.Ytjcllfkkjagomaa
