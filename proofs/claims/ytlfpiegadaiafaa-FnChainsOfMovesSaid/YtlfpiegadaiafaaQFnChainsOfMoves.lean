/- The row of the law FnChainsOfMoves: for every argument that can be read the law returns true, and the arguments read as before. -/
import Derived.Test.YtlfpiegadaiafaaK7
import Derived.Test.YtlfpiegadaiafaaRows
namespace Go.Proofs.Ytlfpiegadaiafaa.Sep.FnChainsOfMoves
open Go.RowKit Go.ChangeShapes Go.WideShapes
set_option linter.unusedVariables false
set_option linter.unusedSimpArgs false
set_option maxRecDepth 100000

theorem own : ownKnob Try.prog.godebug = none := by kernel_rfl
theorem laidOut : laidOutB Try.prog = true := by kernel_rfl

theorem lifted (os : Os) (started : os.Started) (H : Type) (enc : TypeId × Value → H) :
    ReturnsInHanded {} Try.checked os 4 .any (Rows.fnChainsOfMovesSpec.pre6 enc Try.prog Try.f4 Rows.fnChainsOfMovesRow.domain false) (Rows.fnChainsOfMovesSpec.post enc Try.prog Try.f4 false true false false) := by
  refine returnsInHanded_of_change (C := Try.checked) own started (by kernel_rfl) Try.func4
    (ChangeSpec.witness6 (enc := enc) (C := Try.checked) false ⟨#[], #[.slice none 0 0], []⟩ 8 (by kernel_rfl) (by kernel_rfl) (by kernel_rfl) (by kernel_rfl)) ?_
  intro W base args ds gs before hval hW _ _
  refine (law_calls (d := 9) (by kernel_rfl) t_FnChainsOfMoves hval hW).mono fun e W' ⟨he, hb⟩ => ?_
  exact ⟨_, he, law_post laidOut (by kernel_rfl) rfl Try.underlying4 rfl (fun ds hl => by
    match ds, hl with
    | [d0], _ => rfl) hW hb⟩

theorem over : Rows.fnChainsOfMovesRow.holds Try.pinned (OpenSpec.ofChange Rows.fnChainsOfMovesSpec) :=
  OpenClaim.holds_of_wide 4 Try.f4 rfl rfl rfl rfl rfl rfl rfl ⟨rfl, rfl, rfl, rfl, rfl⟩ rfl rfl rfl rfl rfl (by kernel_rfl) Try.func4 (by kernel_rfl)
    (of_decide_eq_true (by kernel_rfl)) (by unfold Func.isWrapper; first | (rw [if_pos (by decide +kernel)]; kernel_rfl) | (rw [if_neg (by decide +kernel)]; exact ⟨rfl, rfl⟩))
    (fun os started H enc _ => lifted os started H enc)
end Go.Proofs.Ytlfpiegadaiafaa.Sep.FnChainsOfMoves
namespace Go.Proofs.Ytlfpiegadaiafaa
/-- The row. -/
theorem fnChainsOfMoves_holds : Rows.FnChainsOfMovesSaid := Sep.FnChainsOfMoves.over
#print axioms fnChainsOfMoves_holds
end Go.Proofs.Ytlfpiegadaiafaa
