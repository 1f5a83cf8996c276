/- The row of the law FnTrees: for every argument that can be read the law returns true, and the arguments read as before. -/
import Derived.Test.YtbjbpmicnmjbfaaGreatK6
import Derived.Test.YtbjbpmicnmjbfaaGreatRows
namespace Go.Proofs.YtbjbpmicnmjbfaaGreat.Sep.FnTrees
open Go.RowKit Go.ChangeShapes Go.WideShapes
set_option linter.unusedVariables false
set_option linter.unusedSimpArgs false
set_option maxRecDepth 100000

theorem own : ownKnob Tryz.prog.godebug = none := by kernel_rfl
theorem laidOut : laidOutB Tryz.prog = true := by kernel_rfl

theorem lifted (os : Os) (started : os.Started) (H : Type) (enc : TypeId × Value → H) :
    ReturnsInHanded {} Tryz.checked os 3 .any (Rows.fnTreesSpec.pre6 enc Tryz.prog Tryz.f3 Rows.fnTreesRow.domain false) (Rows.fnTreesSpec.post enc Tryz.prog Tryz.f3 false true false false) := by
  refine returnsInHanded_of_change (C := Tryz.checked) own started (by kernel_rfl) Tryz.func3
    (ChangeSpec.witness6 (enc := enc) (C := Tryz.checked) false ⟨#[], #[.slice none 0 0], []⟩ 8 (by kernel_rfl) (by kernel_rfl) (by kernel_rfl) (by kernel_rfl)) ?_
  intro W base args ds gs before hval hW _ _
  refine (law_calls (d := 9) (by kernel_rfl) t_FnTrees hval hW).mono fun e W' ⟨he, hb⟩ => ?_
  exact ⟨_, he, law_post laidOut (by kernel_rfl) rfl Tryz.underlying4 rfl (fun ds hl => by
    match ds, hl with
    | [d0], _ => rfl) hW hb⟩

theorem over : Rows.fnTreesRow.holds Tryz.pinned (OpenSpec.ofChange Rows.fnTreesSpec) :=
  OpenClaim.holds_of_wide 3 Tryz.f3 rfl rfl rfl rfl rfl rfl rfl ⟨rfl, rfl, rfl, rfl, rfl⟩ rfl rfl rfl rfl rfl (by kernel_rfl) Tryz.func3 (by kernel_rfl)
    (of_decide_eq_true (by kernel_rfl)) (by unfold Func.isWrapper; first | (rw [if_pos (by decide +kernel)]; kernel_rfl) | (rw [if_neg (by decide +kernel)]; exact ⟨rfl, rfl⟩))
    (fun os started H enc _ => lifted os started H enc)
end Go.Proofs.YtbjbpmicnmjbfaaGreat.Sep.FnTrees
namespace Go.Proofs.YtbjbpmicnmjbfaaGreat
/-- The row. -/
theorem fnTrees_holds : Rows.FnTreesSaid := Sep.FnTrees.over
#print axioms fnTrees_holds
end Go.Proofs.YtbjbpmicnmjbfaaGreat
