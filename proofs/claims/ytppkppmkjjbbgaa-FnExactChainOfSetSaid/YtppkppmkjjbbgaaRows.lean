/-
  No cell of these rows narrows 'for every input' (looked for: loops, veiled, ifaces, maps, wideKeys, modest, calm, conditions, laid).
  DERIVED. THE GIVEN ROWS OF THIS SEAT. 6 by the template 'for every input the law returns true; each argument reads behind the call as it read before'; 0 by the template 'total and deterministic' (their statements: YtppkppmkjjbbgaaTotals.lean).
  GIVEN WITH THE SEED: the statements are not yours to turn. If you find one false, say at which input.
  Laid BY PROGRAM, IN A SANDBOX (cutbox-rows.mjs): the forced cells as the released guide's own fill.sh prints them over the translation f5cd22ee18ed8e6f… (all of the seat's roots in one cut). By AI agents, Wed Nov 11 2026. No macro, syntax, notation, axiom, sorry.
-/
import Derived.Test.YtppkppmkjjbbgaaChecked
import GoSem.Claim
import GoSem.ClaimJoined
import GoSem.ClaimMapViews
import Derived.JoinedTies
import Derived.KernelRfl
namespace Go.Proofs.Ytppkppmkjjbbgaa
/- THE CELL 'sum', in the pinned program and in every row, IS THE sha256 OF THE DUMP (.gsa) THAT YtppkppmkjjbbgaaProg.lean LOADS. Nothing in Lean hashes anything: it is a label: what it is worth is what the hold of that sum in a sandbox is worth. -/
noncomputable def Try.pinned : Pinned := { name := "ytppkppmkjjbbgaa", sum := "f5cd22ee18ed8e6f4ce5d420428873cfa20575d7ad40b8a547a1162ec8628f0d", checked := Try.checked }
namespace Rows
def none {H : Type} : Left H := { results := [], args := [] }

/-- 'laws.FnExactNextMove': WHATEVER THE INPUT: true; the input reads as it did. -/
def fnExactNextMoveSpec : ChangeSpec := { name := "fnExactNextMove", fn := fun _ => fun
  | [d] => { results := [.lit (.bool true)], args := [d] }
  | _ => none }
def fnExactNextMoveRow : OpenClaim := { program := "ytppkppmkjjbbgaa", sum := "f5cd22ee18ed8e6f4ce5d420428873cfa20575d7ad40b8a547a1162ec8628f0d", func := "loop.example/g01200/laws.FnExactNextMove", spec := "fnExactNextMove", apart := false }
def FnExactNextMoveSaid : Prop := fnExactNextMoveRow.holds Try.pinned (OpenSpec.ofChange fnExactNextMoveSpec)

/-- ITS FALSE NEIGHBOUR: 'it returns false'. Refute it at one input. -/
def fnExactNextMoveWrong : ChangeSpec := { name := "fnExactNextMove", fn := fun _ => fun
  | [d] => { results := [.lit (.bool false)], args := [d] }
  | _ => none }
def FnExactNextMoveWrongFalsely : Prop := fnExactNextMoveRow.holds Try.pinned (OpenSpec.ofChange fnExactNextMoveWrong)

/-- 'laws.FnExactMoveFraction': WHATEVER THE INPUT: true; the input reads as it did. -/
def fnExactMoveFractionSpec : ChangeSpec := { name := "fnExactMoveFraction", fn := fun _ => fun
  | [d1, d2] => { results := [.lit (.bool true)], args := [d1, d2] }
  | _ => none }
def fnExactMoveFractionRow : OpenClaim := { program := "ytppkppmkjjbbgaa", sum := "f5cd22ee18ed8e6f4ce5d420428873cfa20575d7ad40b8a547a1162ec8628f0d", func := "loop.example/g01200/laws.FnExactMoveFraction", spec := "fnExactMoveFraction", apart := false }
def FnExactMoveFractionSaid : Prop := fnExactMoveFractionRow.holds Try.pinned (OpenSpec.ofChange fnExactMoveFractionSpec)

/-- ITS FALSE NEIGHBOUR: 'it returns false'. Refute it at one input. -/
def fnExactMoveFractionWrong : ChangeSpec := { name := "fnExactMoveFraction", fn := fun _ => fun
  | [d1, d2] => { results := [.lit (.bool false)], args := [d1, d2] }
  | _ => none }
def FnExactMoveFractionWrongFalsely : Prop := fnExactMoveFractionRow.holds Try.pinned (OpenSpec.ofChange fnExactMoveFractionWrong)

/-- 'laws.FnExactRunMoves': WHATEVER THE INPUT: true; the input reads as it did. -/
def fnExactRunMovesSpec : ChangeSpec := { name := "fnExactRunMoves", fn := fun _ => fun
  | [d1, d2] => { results := [.lit (.bool true)], args := [d1, d2] }
  | _ => none }
def fnExactRunMovesRow : OpenClaim := { program := "ytppkppmkjjbbgaa", sum := "f5cd22ee18ed8e6f4ce5d420428873cfa20575d7ad40b8a547a1162ec8628f0d", func := "loop.example/g01200/laws.FnExactRunMoves", spec := "fnExactRunMoves", apart := false }
def FnExactRunMovesSaid : Prop := fnExactRunMovesRow.holds Try.pinned (OpenSpec.ofChange fnExactRunMovesSpec)

/-- ITS FALSE NEIGHBOUR: 'it returns false'. Refute it at one input. -/
def fnExactRunMovesWrong : ChangeSpec := { name := "fnExactRunMoves", fn := fun _ => fun
  | [d1, d2] => { results := [.lit (.bool false)], args := [d1, d2] }
  | _ => none }
def FnExactRunMovesWrongFalsely : Prop := fnExactRunMovesRow.holds Try.pinned (OpenSpec.ofChange fnExactRunMovesWrong)

/-- 'laws.FnExactPassportOfMove': WHATEVER THE INPUT: true; the input reads as it did. -/
def fnExactPassportOfMoveSpec : ChangeSpec := { name := "fnExactPassportOfMove", fn := fun _ => fun
  | [d] => { results := [.lit (.bool true)], args := [d] }
  | _ => none }
def fnExactPassportOfMoveRow : OpenClaim := { program := "ytppkppmkjjbbgaa", sum := "f5cd22ee18ed8e6f4ce5d420428873cfa20575d7ad40b8a547a1162ec8628f0d", func := "loop.example/g01200/laws.FnExactPassportOfMove", spec := "fnExactPassportOfMove", recurses := true, apart := false }
def FnExactPassportOfMoveSaid : Prop := fnExactPassportOfMoveRow.holds Try.pinned (OpenSpec.ofChange fnExactPassportOfMoveSpec)

/-- ITS FALSE NEIGHBOUR: 'it returns false'. Refute it at one input. -/
def fnExactPassportOfMoveWrong : ChangeSpec := { name := "fnExactPassportOfMove", fn := fun _ => fun
  | [d] => { results := [.lit (.bool false)], args := [d] }
  | _ => none }
def FnExactPassportOfMoveWrongFalsely : Prop := fnExactPassportOfMoveRow.holds Try.pinned (OpenSpec.ofChange fnExactPassportOfMoveWrong)

/-- 'laws.FnExactImageOfSet': WHATEVER THE INPUT: true; the input reads as it did. -/
def fnExactImageOfSetSpec : ChangeSpec := { name := "fnExactImageOfSet", fn := fun _ => fun
  | [d1, d2] => { results := [.lit (.bool true)], args := [d1, d2] }
  | _ => none }
def fnExactImageOfSetRow : OpenClaim := { program := "ytppkppmkjjbbgaa", sum := "f5cd22ee18ed8e6f4ce5d420428873cfa20575d7ad40b8a547a1162ec8628f0d", func := "loop.example/g01200/laws.FnExactImageOfSet", spec := "fnExactImageOfSet", unfollowed := true, recurses := true, apart := false }
def FnExactImageOfSetSaid : Prop := fnExactImageOfSetRow.holds Try.pinned (OpenSpec.ofChange fnExactImageOfSetSpec)

/-- ITS FALSE NEIGHBOUR: 'it returns false'. Refute it at one input. -/
def fnExactImageOfSetWrong : ChangeSpec := { name := "fnExactImageOfSet", fn := fun _ => fun
  | [d1, d2] => { results := [.lit (.bool false)], args := [d1, d2] }
  | _ => none }
def FnExactImageOfSetWrongFalsely : Prop := fnExactImageOfSetRow.holds Try.pinned (OpenSpec.ofChange fnExactImageOfSetWrong)

/-- 'laws.FnExactChainOfSet': WHATEVER THE INPUT: true; the input reads as it did. -/
def fnExactChainOfSetSpec : ChangeSpec := { name := "fnExactChainOfSet", fn := fun _ => fun
  | [d] => { results := [.lit (.bool true)], args := [d] }
  | _ => none }
def fnExactChainOfSetRow : OpenClaim := { program := "ytppkppmkjjbbgaa", sum := "f5cd22ee18ed8e6f4ce5d420428873cfa20575d7ad40b8a547a1162ec8628f0d", func := "loop.example/g01200/laws.FnExactChainOfSet", spec := "fnExactChainOfSet", unfollowed := true, recurses := true, apart := false }
def FnExactChainOfSetSaid : Prop := fnExactChainOfSetRow.holds Try.pinned (OpenSpec.ofChange fnExactChainOfSetSpec)

/-- ITS FALSE NEIGHBOUR: 'it returns false'. Refute it at one input. -/
def fnExactChainOfSetWrong : ChangeSpec := { name := "fnExactChainOfSet", fn := fun _ => fun
  | [d] => { results := [.lit (.bool false)], args := [d] }
  | _ => none }
def FnExactChainOfSetWrongFalsely : Prop := fnExactChainOfSetRow.holds Try.pinned (OpenSpec.ofChange fnExactChainOfSetWrong)

/- THE SECOND FORM. 'bulk': how many values and letters a reading holds, each counted each time it is reached (what is shared counts as often as it is met; a slice's spare places count too). A statement '..UptoSaid' is the law's where the arguments, and the package variables that the reading takes, are together of bulk at most 1048576: NARROWER than '..Said'. Prove '..Said' where nothing that the law and all that it calls make is longer than what came in: it says more and counts as full. Else prove '..UptoSaid'. A law counts once. -/
mutual
def uptoBulk {H : Type} : DataW H → Nat
  | .lit (.string bytes) => bytes.length + 1
  | .lit _ => 1
  | .nil => 1
  | .ptr d => uptoBulk d + 1
  | .slice elems spare => uptoBulkAll elems + uptoBulkAll spare + 1
  | .agg parts => uptoBulkAll parts + 1
  | .iface _ d => uptoBulk d + 1
  | .map entries => uptoBulkEntries entries + 1
  | .held _ => 1
def uptoBulkAll {H : Type} : List (DataW H) → Nat
  | [] => 0
  | d :: r => uptoBulk d + uptoBulkAll r
def uptoBulkEntries {H : Type} : List (Lit × DataW H) → Nat
  | [] => 0
  | x :: r => uptoBulkEntry x + uptoBulkEntries r
def uptoBulkEntry {H : Type} : Lit × DataW H → Nat
  | (.string bytes, d) => bytes.length + uptoBulk d + 1
  | (_, d) => uptoBulk d + 1
 end
def uptoSmall : (H : Type) → List (DataW H) → Bool := fun _ ds => decide (uptoBulkAll ds ≤ 1048576)
def OpenSpec.upto (s : _root_.Go.ChangeSpec) : _root_.Go.OpenSpec := { _root_.Go.OpenSpec.ofChange s with cond := some uptoSmall }

/-- 'laws.FnExactNextMove', WHERE WHAT IT READS IS OF BULK AT MOST 1048576: true; the input reads as it did. -/
def fnExactNextMoveUptoRow : OpenClaim := { program := "ytppkppmkjjbbgaa", sum := "f5cd22ee18ed8e6f4ce5d420428873cfa20575d7ad40b8a547a1162ec8628f0d", func := "loop.example/g01200/laws.FnExactNextMove", spec := "fnExactNextMove", apart := false, narrowed := true }
def FnExactNextMoveUptoSaid : Prop := fnExactNextMoveUptoRow.holds Try.pinned (OpenSpec.upto fnExactNextMoveSpec)

/-- 'laws.FnExactMoveFraction', WHERE WHAT IT READS IS OF BULK AT MOST 1048576: true; the input reads as it did. -/
def fnExactMoveFractionUptoRow : OpenClaim := { program := "ytppkppmkjjbbgaa", sum := "f5cd22ee18ed8e6f4ce5d420428873cfa20575d7ad40b8a547a1162ec8628f0d", func := "loop.example/g01200/laws.FnExactMoveFraction", spec := "fnExactMoveFraction", apart := false, narrowed := true }
def FnExactMoveFractionUptoSaid : Prop := fnExactMoveFractionUptoRow.holds Try.pinned (OpenSpec.upto fnExactMoveFractionSpec)

/-- 'laws.FnExactRunMoves', WHERE WHAT IT READS IS OF BULK AT MOST 1048576: true; the input reads as it did. -/
def fnExactRunMovesUptoRow : OpenClaim := { program := "ytppkppmkjjbbgaa", sum := "f5cd22ee18ed8e6f4ce5d420428873cfa20575d7ad40b8a547a1162ec8628f0d", func := "loop.example/g01200/laws.FnExactRunMoves", spec := "fnExactRunMoves", apart := false, narrowed := true }
def FnExactRunMovesUptoSaid : Prop := fnExactRunMovesUptoRow.holds Try.pinned (OpenSpec.upto fnExactRunMovesSpec)

/-- 'laws.FnExactPassportOfMove', WHERE WHAT IT READS IS OF BULK AT MOST 1048576: true; the input reads as it did. -/
def fnExactPassportOfMoveUptoRow : OpenClaim := { program := "ytppkppmkjjbbgaa", sum := "f5cd22ee18ed8e6f4ce5d420428873cfa20575d7ad40b8a547a1162ec8628f0d", func := "loop.example/g01200/laws.FnExactPassportOfMove", spec := "fnExactPassportOfMove", recurses := true, apart := false, narrowed := true }
def FnExactPassportOfMoveUptoSaid : Prop := fnExactPassportOfMoveUptoRow.holds Try.pinned (OpenSpec.upto fnExactPassportOfMoveSpec)

/-- 'laws.FnExactImageOfSet', WHERE WHAT IT READS IS OF BULK AT MOST 1048576: true; the input reads as it did. -/
def fnExactImageOfSetUptoRow : OpenClaim := { program := "ytppkppmkjjbbgaa", sum := "f5cd22ee18ed8e6f4ce5d420428873cfa20575d7ad40b8a547a1162ec8628f0d", func := "loop.example/g01200/laws.FnExactImageOfSet", spec := "fnExactImageOfSet", unfollowed := true, recurses := true, apart := false, narrowed := true }
def FnExactImageOfSetUptoSaid : Prop := fnExactImageOfSetUptoRow.holds Try.pinned (OpenSpec.upto fnExactImageOfSetSpec)

/-- 'laws.FnExactChainOfSet', WHERE WHAT IT READS IS OF BULK AT MOST 1048576: true; the input reads as it did. -/
def fnExactChainOfSetUptoRow : OpenClaim := { program := "ytppkppmkjjbbgaa", sum := "f5cd22ee18ed8e6f4ce5d420428873cfa20575d7ad40b8a547a1162ec8628f0d", func := "loop.example/g01200/laws.FnExactChainOfSet", spec := "fnExactChainOfSet", unfollowed := true, recurses := true, apart := false, narrowed := true }
def FnExactChainOfSetUptoSaid : Prop := fnExactChainOfSetUptoRow.holds Try.pinned (OpenSpec.upto fnExactChainOfSetSpec)

end Rows
end Go.Proofs.Ytppkppmkjjbbgaa
