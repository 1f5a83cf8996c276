/- The row of the law FnCovers and its card: for every argument that can be read the law returns true, and the arguments read as before. -/
import Derived.Test.YtjklebickfcddaaGreatDoorK7
import Derived.Test.YtjklebickfcddaaGreatDoorRows
import Derived.Test.YtjklebickfcddaaGreatDoorTie
import Derived.Test.YtjklebickfcddaaGreatDoorCards
import Derived.ProofKit
import Derived.OpenShut
import Derived.LaidMore
import Derived.Lay
import Derived.SevenTiedAt
import Derived.Stop.Joined
namespace Go.Proofs.YtjklebickfcddaaGreatDoor.Sep.FnCovers
open Go.RowKit Go.ChangeShapes Go.WideShapes
set_option linter.unusedVariables false
set_option linter.unusedSimpArgs false
set_option maxRecDepth 100000

theorem own : ownKnob Tryz.prog.godebug = none := by kernel_rfl
theorem laidOut : laidOutB Tryz.prog = true := by kernel_rfl

theorem lifted (os : Os) (started : os.Started) (H : Type) (enc : TypeId × Value → H) :
    ReturnsInHanded {} Tryz.checked os 3 .any (fun w args => (Rows.fnCoversSpec.pre enc Tryz.prog Tryz.f3 Rows.fnCoversRow.domain false w args ∧ laidMetH Tryz.prog Rows.fnCoversRow.laid w) ∧ sizedMet enc Tryz.prog Tryz.f3 (OpenSpec.ofChange Rows.fnCoversSpec) false w args)
      (Rows.fnCoversSpec.post enc Tryz.prog Tryz.f3 false true false false) := by
  refine returnsInHanded_of_change_and (C := Tryz.checked) (X := fun w _ => laidMetH Tryz.prog Rows.fnCoversRow.laid w) (fun _ _ _ hh h => h.of_heap hh) own started (by kernel_rfl) Tryz.func3
    (ChangeSpec.witness_shaped (enc := enc) (C := Tryz.checked) (os := os) (X := fun w _ => laidMetH Tryz.prog Rows.fnCoversRow.laid w) false (World.laidAll Tryz.prog os Rows.fnCoversRow.laid) #[.slice none 0 0] 8 (World.laidAll_os _ _ _)
      (World.shaped_of_ZipB (by kernel_rfl) (by kernel_rfl)) (by kernel_rfl) (by kernel_rfl) (by kernel_rfl)
      (by rw [MakeChecks.laidMetH_plain _ _ _ (by kernel_rfl)]; exact laidMet_laidAll _ (by kernel_rfl) (by kernel_rfl))) ?_
  intro W base args ds gs before hval hW _ _ _ _
  refine (law_calls (d := 9) (by kernel_rfl) t_FnCovers hval hW).mono fun e W' ⟨he, hb⟩ => ?_
  exact ⟨_, he, law_post laidOut (by kernel_rfl) rfl Tryz.underlying4 rfl (fun ds hl => by
    match ds, hl with
    | [d0], _ => rfl) hW hb⟩

theorem over : Rows.FnCoversSaid :=
  OpenClaim.holds_of_wide 3 Tryz.f3 rfl rfl rfl rfl rfl rfl rfl ⟨rfl, rfl, rfl, rfl, rfl⟩ rfl rfl rfl rfl rfl (by kernel_rfl) Tryz.func3 (by kernel_rfl)
    (of_decide_eq_true (by kernel_rfl)) (by unfold Func.isWrapper; first | (rw [if_pos (by decide +kernel)]; kernel_rfl) | (rw [if_neg (by decide +kernel)]; exact ⟨rfl, rfl⟩))
    (fun os started H enc _ => lifted os started H enc)
end Go.Proofs.YtjklebickfcddaaGreatDoor.Sep.FnCovers
namespace Go.Proofs.YtjklebickfcddaaGreatDoor
set_option maxRecDepth 100000
/-- The card. -/
theorem fnCovers_holds : Rows.FnCoversCardSaid :=
  Claim7.holds_tied_plain_at .later [] [.data, .pinned] true (true, "dae97ddebbba2fc79a8c4d0433490a02c02a5459a9bb0d233ec60c218f50e2c5") false Sep.FnCovers.over (fun _ h => by cases h) (by kernel_rfl) (fun _ h => by cases h) fnCovers_row_tie rfl ⟨rfl, rfl⟩ (by kernel_rfl) rfl
    (fun f fn hf hfn => by
      obtain rfl : f = 3 := Option.some.inj ((show Tryz.prog.funcNamed "loop.example/g01200/laws.FnCovers" = some 3 by kernel_rfl).symm.trans hf) |>.symm
      obtain rfl : fn = Tryz.f3 := (Option.some.inj (Tryz.func3.symm.trans hfn)).symm
      exact ⟨by kernel_rfl, fun j t ht => by
        have hm : t ∈ Tryz.f3.params.toList := by simpa using Array.mem_of_getElem? ht
        have hall : (Tryz.f3.params.toList.all fun u => !Tryz.prog.wantsStandIn u) = true := by kernel_rfl
        exact (show Tryz.prog.wantsStandIn t = false by simpa using List.all_eq_true.1 hall t hm)⟩)
    (by kernel_rfl)
#print axioms fnCovers_holds
end Go.Proofs.YtjklebickfcddaaGreatDoor
