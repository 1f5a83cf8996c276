/-
  No cell of these rows narrows 'for every input' (looked for: loops, veiled, ifaces, maps, wideKeys, modest, calm, conditions, laid).
  DERIVED. THE GIVEN ROWS OF THIS SEAT. 6 by the template 'for every input the law returns true; each argument reads behind the call as it read before'; 0 by the template 'total and deterministic' (their statements: YtbjmdjnopgojdaaTotals.lean).
  GIVEN WITH THE SEED: the statements are not yours to turn. If you find one false, say at which input.
  Laid BY PROGRAM, IN A SANDBOX (cutbox-rows.mjs): the forced cells as the released guide's own fill.sh prints them over the translation aaa867c5e324fe5a… (all of the seat's roots in one cut). By AI agents, Wed Nov 11 2026. No macro, syntax, notation, axiom, sorry.
-/
import Derived.Test.YtbjmdjnopgojdaaChecked
import GoSem.Claim
import GoSem.ClaimJoined
import GoSem.ClaimMapViews
import Derived.JoinedTies
import Derived.KernelRfl
namespace Go.Proofs.Ytbjmdjnopgojdaa
/- THE CELL 'sum', in the pinned program and in every row, IS THE sha256 OF THE DUMP (.gsa) THAT YtbjmdjnopgojdaaProg.lean LOADS. Nothing in Lean hashes anything: it is a label: what it is worth is what the hold of that sum in a sandbox is worth. -/
noncomputable def Try.pinned : Pinned := { name := "ytbjmdjnopgojdaa", sum := "aaa867c5e324fe5a88aae73efc426c464a60859c0dfd192525617b5c04262aaa", checked := Try.checked }
namespace Rows
def none {H : Type} : Left H := { results := [], args := [] }

/-- 'laws.FnExactIsMove': WHATEVER THE INPUT: true; the input reads as it did. -/
def fnExactIsMoveSpec : ChangeSpec := { name := "fnExactIsMove", fn := fun _ => fun
  | [d] => { results := [.lit (.bool true)], args := [d] }
  | _ => none }
def fnExactIsMoveRow : OpenClaim := { program := "ytbjmdjnopgojdaa", sum := "aaa867c5e324fe5a88aae73efc426c464a60859c0dfd192525617b5c04262aaa", func := "loop.example/g01200/laws.FnExactIsMove", spec := "fnExactIsMove", apart := false }
def FnExactIsMoveSaid : Prop := fnExactIsMoveRow.holds Try.pinned (OpenSpec.ofChange fnExactIsMoveSpec)

/-- ITS FALSE NEIGHBOUR: 'it returns false'. Refute it at one input. -/
def fnExactIsMoveWrong : ChangeSpec := { name := "fnExactIsMove", fn := fun _ => fun
  | [d] => { results := [.lit (.bool false)], args := [d] }
  | _ => none }
def FnExactIsMoveWrongFalsely : Prop := fnExactIsMoveRow.holds Try.pinned (OpenSpec.ofChange fnExactIsMoveWrong)

/-- 'laws.FnExactIsFraction': WHATEVER THE INPUT: true; the input reads as it did. -/
def fnExactIsFractionSpec : ChangeSpec := { name := "fnExactIsFraction", fn := fun _ => fun
  | [d] => { results := [.lit (.bool true)], args := [d] }
  | _ => none }
def fnExactIsFractionRow : OpenClaim := { program := "ytbjmdjnopgojdaa", sum := "aaa867c5e324fe5a88aae73efc426c464a60859c0dfd192525617b5c04262aaa", func := "loop.example/g01200/laws.FnExactIsFraction", spec := "fnExactIsFraction", apart := false }
def FnExactIsFractionSaid : Prop := fnExactIsFractionRow.holds Try.pinned (OpenSpec.ofChange fnExactIsFractionSpec)

/-- ITS FALSE NEIGHBOUR: 'it returns false'. Refute it at one input. -/
def fnExactIsFractionWrong : ChangeSpec := { name := "fnExactIsFraction", fn := fun _ => fun
  | [d] => { results := [.lit (.bool false)], args := [d] }
  | _ => none }
def FnExactIsFractionWrongFalsely : Prop := fnExactIsFractionRow.holds Try.pinned (OpenSpec.ofChange fnExactIsFractionWrong)

/-- 'laws.FnExactFractionOf': WHATEVER THE INPUT: true; the input reads as it did. -/
def fnExactFractionOfSpec : ChangeSpec := { name := "fnExactFractionOf", fn := fun _ => fun
  | [d1, d2] => { results := [.lit (.bool true)], args := [d1, d2] }
  | _ => none }
def fnExactFractionOfRow : OpenClaim := { program := "ytbjmdjnopgojdaa", sum := "aaa867c5e324fe5a88aae73efc426c464a60859c0dfd192525617b5c04262aaa", func := "loop.example/g01200/laws.FnExactFractionOf", spec := "fnExactFractionOf", apart := false }
def FnExactFractionOfSaid : Prop := fnExactFractionOfRow.holds Try.pinned (OpenSpec.ofChange fnExactFractionOfSpec)

/-- ITS FALSE NEIGHBOUR: 'it returns false'. Refute it at one input. -/
def fnExactFractionOfWrong : ChangeSpec := { name := "fnExactFractionOf", fn := fun _ => fun
  | [d1, d2] => { results := [.lit (.bool false)], args := [d1, d2] }
  | _ => none }
def FnExactFractionOfWrongFalsely : Prop := fnExactFractionOfRow.holds Try.pinned (OpenSpec.ofChange fnExactFractionOfWrong)

/-- 'laws.FnExactCompareFractions': WHATEVER THE INPUT: true; the input reads as it did. -/
def fnExactCompareFractionsSpec : ChangeSpec := { name := "fnExactCompareFractions", fn := fun _ => fun
  | [d1, d2] => { results := [.lit (.bool true)], args := [d1, d2] }
  | _ => none }
def fnExactCompareFractionsRow : OpenClaim := { program := "ytbjmdjnopgojdaa", sum := "aaa867c5e324fe5a88aae73efc426c464a60859c0dfd192525617b5c04262aaa", func := "loop.example/g01200/laws.FnExactCompareFractions", spec := "fnExactCompareFractions", apart := false }
def FnExactCompareFractionsSaid : Prop := fnExactCompareFractionsRow.holds Try.pinned (OpenSpec.ofChange fnExactCompareFractionsSpec)

/-- ITS FALSE NEIGHBOUR: 'it returns false'. Refute it at one input. -/
def fnExactCompareFractionsWrong : ChangeSpec := { name := "fnExactCompareFractions", fn := fun _ => fun
  | [d1, d2] => { results := [.lit (.bool false)], args := [d1, d2] }
  | _ => none }
def FnExactCompareFractionsWrongFalsely : Prop := fnExactCompareFractionsRow.holds Try.pinned (OpenSpec.ofChange fnExactCompareFractionsWrong)

/-- 'laws.FnExactDegreeOfMoves': WHATEVER THE INPUT: true; the input reads as it did. -/
def fnExactDegreeOfMovesSpec : ChangeSpec := { name := "fnExactDegreeOfMoves", fn := fun _ => fun
  | [d] => { results := [.lit (.bool true)], args := [d] }
  | _ => none }
def fnExactDegreeOfMovesRow : OpenClaim := { program := "ytbjmdjnopgojdaa", sum := "aaa867c5e324fe5a88aae73efc426c464a60859c0dfd192525617b5c04262aaa", func := "loop.example/g01200/laws.FnExactDegreeOfMoves", spec := "fnExactDegreeOfMoves", apart := false }
def FnExactDegreeOfMovesSaid : Prop := fnExactDegreeOfMovesRow.holds Try.pinned (OpenSpec.ofChange fnExactDegreeOfMovesSpec)

/-- ITS FALSE NEIGHBOUR: 'it returns false'. Refute it at one input. -/
def fnExactDegreeOfMovesWrong : ChangeSpec := { name := "fnExactDegreeOfMoves", fn := fun _ => fun
  | [d] => { results := [.lit (.bool false)], args := [d] }
  | _ => none }
def FnExactDegreeOfMovesWrongFalsely : Prop := fnExactDegreeOfMovesRow.holds Try.pinned (OpenSpec.ofChange fnExactDegreeOfMovesWrong)

/-- 'laws.FnExactIsSet': WHATEVER THE INPUT: true; the input reads as it did. -/
def fnExactIsSetSpec : ChangeSpec := { name := "fnExactIsSet", fn := fun _ => fun
  | [d] => { results := [.lit (.bool true)], args := [d] }
  | _ => none }
def fnExactIsSetRow : OpenClaim := { program := "ytbjmdjnopgojdaa", sum := "aaa867c5e324fe5a88aae73efc426c464a60859c0dfd192525617b5c04262aaa", func := "loop.example/g01200/laws.FnExactIsSet", spec := "fnExactIsSet", apart := false }
def FnExactIsSetSaid : Prop := fnExactIsSetRow.holds Try.pinned (OpenSpec.ofChange fnExactIsSetSpec)

/-- ITS FALSE NEIGHBOUR: 'it returns false'. Refute it at one input. -/
def fnExactIsSetWrong : ChangeSpec := { name := "fnExactIsSet", fn := fun _ => fun
  | [d] => { results := [.lit (.bool false)], args := [d] }
  | _ => none }
def FnExactIsSetWrongFalsely : Prop := fnExactIsSetRow.holds Try.pinned (OpenSpec.ofChange fnExactIsSetWrong)

/- THE SECOND FORM. 'bulk': how many values and letters a reading holds, each counted each time it is reached (what is shared counts as often as it is met; a slice's spare places count too). A statement '..UptoSaid' is the law's where the arguments, and the package variables that the reading takes, are together of bulk at most 1048576: NARROWER than '..Said'. Prove '..Said' where nothing that the law and all that it calls make is longer than what came in: it says more and counts as full. Else prove '..UptoSaid'. A law counts once. -/
mutual
def uptoBulk {H : Type} : DataW H → Nat
  | .lit (.string bytes) => bytes.length + 1
  | .lit _ => 1
  | .nil => 1
  | .ptr d => uptoBulk d + 1
  | .slice elems spare => uptoBulkAll elems + uptoBulkAll spare + 1
  | .agg parts => uptoBulkAll parts + 1
  | .iface _ d => uptoBulk d + 1
  | .map entries => uptoBulkEntries entries + 1
  | .held _ => 1
def uptoBulkAll {H : Type} : List (DataW H) → Nat
  | [] => 0
  | d :: r => uptoBulk d + uptoBulkAll r
def uptoBulkEntries {H : Type} : List (Lit × DataW H) → Nat
  | [] => 0
  | x :: r => uptoBulkEntry x + uptoBulkEntries r
def uptoBulkEntry {H : Type} : Lit × DataW H → Nat
  | (.string bytes, d) => bytes.length + uptoBulk d + 1
  | (_, d) => uptoBulk d + 1
 end
def uptoSmall : (H : Type) → List (DataW H) → Bool := fun _ ds => decide (uptoBulkAll ds ≤ 1048576)
def OpenSpec.upto (s : _root_.Go.ChangeSpec) : _root_.Go.OpenSpec := { _root_.Go.OpenSpec.ofChange s with cond := some uptoSmall }

/-- 'laws.FnExactIsMove', WHERE WHAT IT READS IS OF BULK AT MOST 1048576: true; the input reads as it did. -/
def fnExactIsMoveUptoRow : OpenClaim := { program := "ytbjmdjnopgojdaa", sum := "aaa867c5e324fe5a88aae73efc426c464a60859c0dfd192525617b5c04262aaa", func := "loop.example/g01200/laws.FnExactIsMove", spec := "fnExactIsMove", apart := false, narrowed := true }
def FnExactIsMoveUptoSaid : Prop := fnExactIsMoveUptoRow.holds Try.pinned (OpenSpec.upto fnExactIsMoveSpec)

/-- 'laws.FnExactIsFraction', WHERE WHAT IT READS IS OF BULK AT MOST 1048576: true; the input reads as it did. -/
def fnExactIsFractionUptoRow : OpenClaim := { program := "ytbjmdjnopgojdaa", sum := "aaa867c5e324fe5a88aae73efc426c464a60859c0dfd192525617b5c04262aaa", func := "loop.example/g01200/laws.FnExactIsFraction", spec := "fnExactIsFraction", apart := false, narrowed := true }
def FnExactIsFractionUptoSaid : Prop := fnExactIsFractionUptoRow.holds Try.pinned (OpenSpec.upto fnExactIsFractionSpec)

/-- 'laws.FnExactFractionOf', WHERE WHAT IT READS IS OF BULK AT MOST 1048576: true; the input reads as it did. -/
def fnExactFractionOfUptoRow : OpenClaim := { program := "ytbjmdjnopgojdaa", sum := "aaa867c5e324fe5a88aae73efc426c464a60859c0dfd192525617b5c04262aaa", func := "loop.example/g01200/laws.FnExactFractionOf", spec := "fnExactFractionOf", apart := false, narrowed := true }
def FnExactFractionOfUptoSaid : Prop := fnExactFractionOfUptoRow.holds Try.pinned (OpenSpec.upto fnExactFractionOfSpec)

/-- 'laws.FnExactCompareFractions', WHERE WHAT IT READS IS OF BULK AT MOST 1048576: true; the input reads as it did. -/
def fnExactCompareFractionsUptoRow : OpenClaim := { program := "ytbjmdjnopgojdaa", sum := "aaa867c5e324fe5a88aae73efc426c464a60859c0dfd192525617b5c04262aaa", func := "loop.example/g01200/laws.FnExactCompareFractions", spec := "fnExactCompareFractions", apart := false, narrowed := true }
def FnExactCompareFractionsUptoSaid : Prop := fnExactCompareFractionsUptoRow.holds Try.pinned (OpenSpec.upto fnExactCompareFractionsSpec)

/-- 'laws.FnExactDegreeOfMoves', WHERE WHAT IT READS IS OF BULK AT MOST 1048576: true; the input reads as it did. -/
def fnExactDegreeOfMovesUptoRow : OpenClaim := { program := "ytbjmdjnopgojdaa", sum := "aaa867c5e324fe5a88aae73efc426c464a60859c0dfd192525617b5c04262aaa", func := "loop.example/g01200/laws.FnExactDegreeOfMoves", spec := "fnExactDegreeOfMoves", apart := false, narrowed := true }
def FnExactDegreeOfMovesUptoSaid : Prop := fnExactDegreeOfMovesUptoRow.holds Try.pinned (OpenSpec.upto fnExactDegreeOfMovesSpec)

/-- 'laws.FnExactIsSet', WHERE WHAT IT READS IS OF BULK AT MOST 1048576: true; the input reads as it did. -/
def fnExactIsSetUptoRow : OpenClaim := { program := "ytbjmdjnopgojdaa", sum := "aaa867c5e324fe5a88aae73efc426c464a60859c0dfd192525617b5c04262aaa", func := "loop.example/g01200/laws.FnExactIsSet", spec := "fnExactIsSet", apart := false, narrowed := true }
def FnExactIsSetUptoSaid : Prop := fnExactIsSetUptoRow.holds Try.pinned (OpenSpec.upto fnExactIsSetSpec)

end Rows
end Go.Proofs.Ytbjmdjnopgojdaa
