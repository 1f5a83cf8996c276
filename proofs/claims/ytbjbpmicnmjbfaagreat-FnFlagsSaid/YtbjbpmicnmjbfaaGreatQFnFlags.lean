/- The row of the law FnFlags: for every argument that can be read the law returns true, and the arguments read as before. -/
import Derived.Test.YtbjbpmicnmjbfaaGreatK6
import Derived.Test.YtbjbpmicnmjbfaaGreatRows
namespace Go.Proofs.YtbjbpmicnmjbfaaGreat.Sep.FnFlags
open Go.RowKit Go.ChangeShapes Go.WideShapes
set_option linter.unusedVariables false
set_option linter.unusedSimpArgs false
set_option maxRecDepth 100000

theorem own : ownKnob Tryz.prog.godebug = none := by kernel_rfl
theorem laidOut : laidOutB Tryz.prog = true := by kernel_rfl

theorem lifted (os : Os) (started : os.Started) (H : Type) (enc : TypeId × Value → H) :
    ReturnsInHanded {} Tryz.checked os 4 .any (Rows.fnFlagsSpec.pre6 enc Tryz.prog Tryz.f4 Rows.fnFlagsRow.domain false) (Rows.fnFlagsSpec.post enc Tryz.prog Tryz.f4 false true false false) := by
  refine returnsInHanded_of_change (C := Tryz.checked) own started (by kernel_rfl) Tryz.func4
    (ChangeSpec.witness6 (enc := enc) (C := Tryz.checked) false ⟨#[], #[.slice none 0 0], []⟩ 8 (by kernel_rfl) (by kernel_rfl) (by kernel_rfl) (by kernel_rfl)) ?_
  intro W base args ds gs before hval hW _ _
  refine (law_calls (d := 9) (by kernel_rfl) t_FnFlags hval hW).mono fun e W' ⟨he, hb⟩ => ?_
  exact ⟨_, he, law_post laidOut (by kernel_rfl) rfl Tryz.underlying4 rfl (fun ds hl => by
    match ds, hl with
    | [d0], _ => rfl) hW hb⟩

theorem over : Rows.fnFlagsRow.holds Tryz.pinned (OpenSpec.ofChange Rows.fnFlagsSpec) :=
  OpenClaim.holds_of_wide 4 Tryz.f4 rfl rfl rfl rfl rfl rfl rfl ⟨rfl, rfl, rfl, rfl, rfl⟩ rfl rfl rfl rfl rfl (by kernel_rfl) Tryz.func4 (by kernel_rfl)
    (of_decide_eq_true (by kernel_rfl)) (by unfold Func.isWrapper; first | (rw [if_pos (by decide +kernel)]; kernel_rfl) | (rw [if_neg (by decide +kernel)]; exact ⟨rfl, rfl⟩))
    (fun os started H enc _ => lifted os started H enc)
end Go.Proofs.YtbjbpmicnmjbfaaGreat.Sep.FnFlags
namespace Go.Proofs.YtbjbpmicnmjbfaaGreat
/-- The row. -/
theorem fnFlags_holds : Rows.FnFlagsSaid := Sep.FnFlags.over
#print axioms fnFlags_holds
end Go.Proofs.YtbjbpmicnmjbfaaGreat
