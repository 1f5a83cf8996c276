/- The row of the law FnExactStabiliserWords: for every argument that can be read the law returns true, and the arguments read as before. -/
import Derived.Test.YteiiohmcamoldaaC51
import Derived.Test.YteiiohmcamoldaaSepLaw
import Derived.Test.YteiiohmcamoldaaRows
namespace Go.Proofs.Yteiiohmcamoldaa.Sep.FnExactStabiliserWords
open Go.RowKit Go.ChangeShapes Go.WideShapes
set_option linter.unusedVariables false
set_option linter.unusedSimpArgs false
set_option maxRecDepth 100000

theorem own : ownKnob Try.prog.godebug = none := by kernel_rfl
theorem laidOut : laidOutB Try.prog = true := by kernel_rfl

theorem lifted (os : Os) (started : os.Started) (H : Type) (enc : TypeId × Value → H) :
    ReturnsInHanded {} Try.checked os 11 .any (Rows.fnExactStabiliserWordsSpec.pre6 enc Try.prog Try.f11 Rows.fnExactStabiliserWordsRow.domain false) (Rows.fnExactStabiliserWordsSpec.post enc Try.prog Try.f11 false true false false) := by
  refine returnsInHanded_of_change (C := Try.checked) own started (by kernel_rfl) Try.func11
    (ChangeSpec.witness6 (enc := enc) (C := Try.checked) false ⟨#[], #[.agg (#[.int .i64 0] ++ Array.replicate 32 (.int .u8 0))], []⟩ 8 (by kernel_rfl) (by kernel_rfl) (by kernel_rfl) (by kernel_rfl)) ?_
  intro W base args ds gs before hval hW _ _
  refine (law_calls (d := 9) (by kernel_rfl) t_FnExactStabiliserWords hval hW).mono fun e W' ⟨he, hb⟩ => ?_
  exact ⟨_, he, law_post laidOut (by kernel_rfl) rfl Try.underlying4 rfl (fun ds hl => by
    match ds, hl with
    | [d0], _ => rfl) hW hb⟩

theorem over : Rows.fnExactStabiliserWordsRow.holds Try.pinned (OpenSpec.ofChange Rows.fnExactStabiliserWordsSpec) :=
  OpenClaim.holds_of_wide 11 Try.f11 rfl rfl rfl rfl rfl rfl rfl ⟨rfl, rfl, rfl, rfl, rfl⟩ rfl rfl rfl rfl rfl (by kernel_rfl) Try.func11 (by kernel_rfl)
    (of_decide_eq_true (by kernel_rfl)) (by unfold Func.isWrapper; first | (rw [if_pos (by decide +kernel)]; kernel_rfl) | (rw [if_neg (by decide +kernel)]; exact ⟨rfl, rfl⟩))
    (fun os started H enc _ => lifted os started H enc)
end Go.Proofs.Yteiiohmcamoldaa.Sep.FnExactStabiliserWords
namespace Go.Proofs.Yteiiohmcamoldaa
/-- The row. -/
theorem fnExactStabiliserWords_holds : Rows.FnExactStabiliserWordsSaid := Sep.FnExactStabiliserWords.over
#print axioms fnExactStabiliserWords_holds
end Go.Proofs.Yteiiohmcamoldaa
