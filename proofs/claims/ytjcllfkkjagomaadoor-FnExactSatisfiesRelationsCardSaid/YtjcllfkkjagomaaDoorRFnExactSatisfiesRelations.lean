/- The row of the law FnExactSatisfiesRelations and its card: for every argument that can be read the law returns true, and the arguments read as before. -/
import Derived.Test.YtjcllfkkjagomaaDoorC57
import Derived.Test.YtjcllfkkjagomaaDoorSepLaw
import Derived.Test.YtjcllfkkjagomaaDoorRows
import Derived.Test.YtjcllfkkjagomaaDoorTie
import Derived.Test.YtjcllfkkjagomaaDoorCards
import Derived.ProofKit
import Derived.OpenShut
import Derived.LaidMore
import Derived.Lay
import Derived.SevenTiedAt
import Derived.Stop.Joined
namespace Go.Proofs.YtjcllfkkjagomaaDoor.Sep.FnExactSatisfiesRelations
open Go.RowKit Go.ChangeShapes Go.WideShapes
set_option linter.unusedVariables false
set_option linter.unusedSimpArgs false
set_option maxRecDepth 100000

theorem own : ownKnob Tryd.prog.godebug = none := by kernel_rfl
theorem laidOut : laidOutB Tryd.prog = true := by kernel_rfl

theorem lifted (os : Os) (started : os.Started) (H : Type) (enc : TypeId × Value → H) :
    ReturnsInHanded {} Tryd.checked os 8 .any (fun w args => (Rows.fnExactSatisfiesRelationsSpec.pre enc Tryd.prog Tryd.f8 Rows.fnExactSatisfiesRelationsRow.domain false w args ∧ laidMetH Tryd.prog Rows.fnExactSatisfiesRelationsRow.laid w) ∧ sizedMet enc Tryd.prog Tryd.f8 (OpenSpec.ofChange Rows.fnExactSatisfiesRelationsSpec) false w args)
      (Rows.fnExactSatisfiesRelationsSpec.post enc Tryd.prog Tryd.f8 false true false false) := by
  refine returnsInHanded_of_change_and (C := Tryd.checked) (X := fun w _ => laidMetH Tryd.prog Rows.fnExactSatisfiesRelationsRow.laid w) (fun _ _ _ hh h => h.of_heap hh) own started (by kernel_rfl) Tryd.func8
    (ChangeSpec.witness_shaped (enc := enc) (C := Tryd.checked) (os := os) (X := fun w _ => laidMetH Tryd.prog Rows.fnExactSatisfiesRelationsRow.laid w) false (World.laidAll Tryd.prog os Rows.fnExactSatisfiesRelationsRow.laid) #[.agg (#[.int .i64 0] ++ Array.replicate 32 (.int .u8 0)), .slice none 0 0] 8 (World.laidAll_os _ _ _)
      (World.shaped_of_ZipB (by kernel_rfl) (by kernel_rfl)) (by kernel_rfl) (by kernel_rfl) (by kernel_rfl)
      (by rw [MakeChecks.laidMetH_plain _ _ _ (by kernel_rfl)]; exact laidMet_laidAll _ (by kernel_rfl) (by kernel_rfl))) ?_
  intro W base args ds gs before hval hW _ _ _ _
  refine (law_calls (d := 9) (by kernel_rfl) t_FnExactSatisfiesRelations hval hW).mono fun e W' ⟨he, hb⟩ => ?_
  exact ⟨_, he, law_post laidOut (by kernel_rfl) rfl Tryd.underlying4 rfl (fun ds hl => by
    match ds, hl with
    | [d0, d1], _ => rfl) hW hb⟩

theorem over : Rows.FnExactSatisfiesRelationsSaid :=
  OpenClaim.holds_of_wide 8 Tryd.f8 rfl rfl rfl rfl rfl rfl rfl ⟨rfl, rfl, rfl, rfl, rfl⟩ rfl rfl rfl rfl rfl (by kernel_rfl) Tryd.func8 (by kernel_rfl)
    (of_decide_eq_true (by kernel_rfl)) (by unfold Func.isWrapper; first | (rw [if_pos (by decide +kernel)]; kernel_rfl) | (rw [if_neg (by decide +kernel)]; exact ⟨rfl, rfl⟩))
    (fun os started H enc _ => lifted os started H enc)
end Go.Proofs.YtjcllfkkjagomaaDoor.Sep.FnExactSatisfiesRelations
namespace Go.Proofs.YtjcllfkkjagomaaDoor
set_option maxRecDepth 100000
/-- The card. -/
theorem fnExactSatisfiesRelations_holds : Rows.FnExactSatisfiesRelationsCardSaid :=
  Claim7.holds_tied_plain_at .later [] [.data, .pinned] true (true, "db2f826b480ee73c5cd3002d3ca01e2ec9859842053342f4c8d0163d7d7306ff") false Sep.FnExactSatisfiesRelations.over (fun _ h => by cases h) (by kernel_rfl) (fun _ h => by cases h) fnExactSatisfiesRelations_row_tie rfl ⟨rfl, rfl⟩ (by kernel_rfl) rfl
    (fun f fn hf hfn => by
      obtain rfl : f = 8 := Option.some.inj ((show Tryd.prog.funcNamed "loop.example/g01200/laws.FnExactSatisfiesRelations" = some 8 by kernel_rfl).symm.trans hf) |>.symm
      obtain rfl : fn = Tryd.f8 := (Option.some.inj (Tryd.func8.symm.trans hfn)).symm
      exact ⟨by kernel_rfl, fun j t ht => by
        have hm : t ∈ Tryd.f8.params.toList := by simpa using Array.mem_of_getElem? ht
        have hall : (Tryd.f8.params.toList.all fun u => !Tryd.prog.wantsStandIn u) = true := by kernel_rfl
        exact (show Tryd.prog.wantsStandIn t = false by simpa using List.all_eq_true.1 hall t hm)⟩)
    (by kernel_rfl)
#print axioms fnExactSatisfiesRelations_holds
end Go.Proofs.YtjcllfkkjagomaaDoor
