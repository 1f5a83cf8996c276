/-
  No cell of these rows narrows 'for every input' (looked for: loops, veiled, ifaces, maps, wideKeys, modest, calm, conditions, laid).
  DERIVED. THE GIVEN ROWS OF THIS SEAT. 6 by the template 'for every input the law returns true; each argument reads behind the call as it read before'; 0 by the template 'total and deterministic' (their statements: YtjcllfkkjagomaaTotals.lean).
  GIVEN WITH THE SEED: the statements are not yours to turn. If you find one false, say at which input.
  Laid BY PROGRAM, IN A SANDBOX (cutbox-rows.mjs): the forced cells as the released guide's own fill.sh prints them over the translation 3ab5f452e1090ff3… (all of the seat's roots in one cut). By AI agents, Wed Nov 11 2026. No macro, syntax, notation, axiom, sorry.
-/
import Derived.Test.YtjcllfkkjagomaaChecked
import GoSem.Claim
import GoSem.ClaimJoined
import GoSem.ClaimMapViews
import Derived.JoinedTies
import Derived.KernelRfl
namespace Go.Proofs.Ytjcllfkkjagomaa
/- THE CELL 'sum', in the pinned program and in every row, IS THE sha256 OF THE DUMP (.gsa) THAT YtjcllfkkjagomaaProg.lean LOADS. Nothing in Lean hashes anything: it is a label: what it is worth is what the hold of that sum in a sandbox is worth. -/
noncomputable def Try.pinned : Pinned := { name := "ytjcllfkkjagomaa", sum := "3ab5f452e1090ff365a72799ef0e34151c55a4ea120504db90426c8cb5295544", checked := Try.checked }
namespace Rows
def none {H : Type} : Left H := { results := [], args := [] }

/-- 'laws.FnExactSumsOfVoltages': WHATEVER THE INPUT: true; the input reads as it did. -/
def fnExactSumsOfVoltagesSpec : ChangeSpec := { name := "fnExactSumsOfVoltages", fn := fun _ => fun
  | [d1, d2, d3, d4] => { results := [.lit (.bool true)], args := [d1, d2, d3, d4] }
  | _ => none }
def fnExactSumsOfVoltagesRow : OpenClaim := { program := "ytjcllfkkjagomaa", sum := "3ab5f452e1090ff365a72799ef0e34151c55a4ea120504db90426c8cb5295544", func := "loop.example/g01200/laws.FnExactSumsOfVoltages", spec := "fnExactSumsOfVoltages", unfollowed := true, recurses := true, apart := false }
def FnExactSumsOfVoltagesSaid : Prop := fnExactSumsOfVoltagesRow.holds Try.pinned (OpenSpec.ofChange fnExactSumsOfVoltagesSpec)

/-- ITS FALSE NEIGHBOUR: 'it returns false'. Refute it at one input. -/
def fnExactSumsOfVoltagesWrong : ChangeSpec := { name := "fnExactSumsOfVoltages", fn := fun _ => fun
  | [d1, d2, d3, d4] => { results := [.lit (.bool false)], args := [d1, d2, d3, d4] }
  | _ => none }
def FnExactSumsOfVoltagesWrongFalsely : Prop := fnExactSumsOfVoltagesRow.holds Try.pinned (OpenSpec.ofChange fnExactSumsOfVoltagesWrong)

/-- 'laws.FnExactCycleOfEdge': WHATEVER THE INPUT: true; the input reads as it did. -/
def fnExactCycleOfEdgeSpec : ChangeSpec := { name := "fnExactCycleOfEdge", fn := fun _ => fun
  | [d1, d2] => { results := [.lit (.bool true)], args := [d1, d2] }
  | _ => none }
def fnExactCycleOfEdgeRow : OpenClaim := { program := "ytjcllfkkjagomaa", sum := "3ab5f452e1090ff365a72799ef0e34151c55a4ea120504db90426c8cb5295544", func := "loop.example/g01200/laws.FnExactCycleOfEdge", spec := "fnExactCycleOfEdge", apart := false }
def FnExactCycleOfEdgeSaid : Prop := fnExactCycleOfEdgeRow.holds Try.pinned (OpenSpec.ofChange fnExactCycleOfEdgeSpec)

/-- ITS FALSE NEIGHBOUR: 'it returns false'. Refute it at one input. -/
def fnExactCycleOfEdgeWrong : ChangeSpec := { name := "fnExactCycleOfEdge", fn := fun _ => fun
  | [d1, d2] => { results := [.lit (.bool false)], args := [d1, d2] }
  | _ => none }
def FnExactCycleOfEdgeWrongFalsely : Prop := fnExactCycleOfEdgeRow.holds Try.pinned (OpenSpec.ofChange fnExactCycleOfEdgeWrong)

/-- 'laws.FnExactHomologyBasis': WHATEVER THE INPUT: true; the input reads as it did. -/
def fnExactHomologyBasisSpec : ChangeSpec := { name := "fnExactHomologyBasis", fn := fun _ => fun
  | [d] => { results := [.lit (.bool true)], args := [d] }
  | _ => none }
def fnExactHomologyBasisRow : OpenClaim := { program := "ytjcllfkkjagomaa", sum := "3ab5f452e1090ff365a72799ef0e34151c55a4ea120504db90426c8cb5295544", func := "loop.example/g01200/laws.FnExactHomologyBasis", spec := "fnExactHomologyBasis", apart := false }
def FnExactHomologyBasisSaid : Prop := fnExactHomologyBasisRow.holds Try.pinned (OpenSpec.ofChange fnExactHomologyBasisSpec)

/-- ITS FALSE NEIGHBOUR: 'it returns false'. Refute it at one input. -/
def fnExactHomologyBasisWrong : ChangeSpec := { name := "fnExactHomologyBasis", fn := fun _ => fun
  | [d] => { results := [.lit (.bool false)], args := [d] }
  | _ => none }
def FnExactHomologyBasisWrongFalsely : Prop := fnExactHomologyBasisRow.holds Try.pinned (OpenSpec.ofChange fnExactHomologyBasisWrong)

/-- 'laws.FnExactIsBounding': WHATEVER THE INPUT: true; the input reads as it did. -/
def fnExactIsBoundingSpec : ChangeSpec := { name := "fnExactIsBounding", fn := fun _ => fun
  | [d1, d2] => { results := [.lit (.bool true)], args := [d1, d2] }
  | _ => none }
def fnExactIsBoundingRow : OpenClaim := { program := "ytjcllfkkjagomaa", sum := "3ab5f452e1090ff365a72799ef0e34151c55a4ea120504db90426c8cb5295544", func := "loop.example/g01200/laws.FnExactIsBounding", spec := "fnExactIsBounding", apart := false }
def FnExactIsBoundingSaid : Prop := fnExactIsBoundingRow.holds Try.pinned (OpenSpec.ofChange fnExactIsBoundingSpec)

/-- ITS FALSE NEIGHBOUR: 'it returns false'. Refute it at one input. -/
def fnExactIsBoundingWrong : ChangeSpec := { name := "fnExactIsBounding", fn := fun _ => fun
  | [d1, d2] => { results := [.lit (.bool false)], args := [d1, d2] }
  | _ => none }
def FnExactIsBoundingWrongFalsely : Prop := fnExactIsBoundingRow.holds Try.pinned (OpenSpec.ofChange fnExactIsBoundingWrong)

/-- 'laws.FnExactIntersectionTable': WHATEVER THE INPUT: true; the input reads as it did. -/
def fnExactIntersectionTableSpec : ChangeSpec := { name := "fnExactIntersectionTable", fn := fun _ => fun
  | [d] => { results := [.lit (.bool true)], args := [d] }
  | _ => none }
def fnExactIntersectionTableRow : OpenClaim := { program := "ytjcllfkkjagomaa", sum := "3ab5f452e1090ff365a72799ef0e34151c55a4ea120504db90426c8cb5295544", func := "loop.example/g01200/laws.FnExactIntersectionTable", spec := "fnExactIntersectionTable", apart := false }
def FnExactIntersectionTableSaid : Prop := fnExactIntersectionTableRow.holds Try.pinned (OpenSpec.ofChange fnExactIntersectionTableSpec)

/-- ITS FALSE NEIGHBOUR: 'it returns false'. Refute it at one input. -/
def fnExactIntersectionTableWrong : ChangeSpec := { name := "fnExactIntersectionTable", fn := fun _ => fun
  | [d] => { results := [.lit (.bool false)], args := [d] }
  | _ => none }
def FnExactIntersectionTableWrongFalsely : Prop := fnExactIntersectionTableRow.holds Try.pinned (OpenSpec.ofChange fnExactIntersectionTableWrong)

/-- 'laws.FnExactTriangleRelations': WHATEVER THE INPUT: true; the input reads as it did. -/
def fnExactTriangleRelationsSpec : ChangeSpec := { name := "fnExactTriangleRelations", fn := fun _ => fun
  | [d1, d2, d3] => { results := [.lit (.bool true)], args := [d1, d2, d3] }
  | _ => none }
def fnExactTriangleRelationsRow : OpenClaim := { program := "ytjcllfkkjagomaa", sum := "3ab5f452e1090ff365a72799ef0e34151c55a4ea120504db90426c8cb5295544", func := "loop.example/g01200/laws.FnExactTriangleRelations", spec := "fnExactTriangleRelations", inPlace := ["internal/abi.NoEscape", "internal/bytealg.MakeNoZero"], apart := false }
def FnExactTriangleRelationsSaid : Prop := fnExactTriangleRelationsRow.holds Try.pinned (OpenSpec.ofChange fnExactTriangleRelationsSpec)

/-- ITS FALSE NEIGHBOUR: 'it returns false'. Refute it at one input. -/
def fnExactTriangleRelationsWrong : ChangeSpec := { name := "fnExactTriangleRelations", fn := fun _ => fun
  | [d1, d2, d3] => { results := [.lit (.bool false)], args := [d1, d2, d3] }
  | _ => none }
def FnExactTriangleRelationsWrongFalsely : Prop := fnExactTriangleRelationsRow.holds Try.pinned (OpenSpec.ofChange fnExactTriangleRelationsWrong)

/- THE SECOND FORM. 'bulk': how many values and letters a reading holds, each counted each time it is reached (what is shared counts as often as it is met; a slice's spare places count too). A statement '..UptoSaid' is the law's where the arguments, and the package variables that the reading takes, are together of bulk at most 1048576: NARROWER than '..Said'. Prove '..Said' where nothing that the law and all that it calls make is longer than what came in: it says more and counts as full. Else prove '..UptoSaid'. A law counts once. -/
mutual
def uptoBulk {H : Type} : DataW H → Nat
  | .lit (.string bytes) => bytes.length + 1
  | .lit _ => 1
  | .nil => 1
  | .ptr d => uptoBulk d + 1
  | .slice elems spare => uptoBulkAll elems + uptoBulkAll spare + 1
  | .agg parts => uptoBulkAll parts + 1
  | .iface _ d => uptoBulk d + 1
  | .map entries => uptoBulkEntries entries + 1
  | .held _ => 1
def uptoBulkAll {H : Type} : List (DataW H) → Nat
  | [] => 0
  | d :: r => uptoBulk d + uptoBulkAll r
def uptoBulkEntries {H : Type} : List (Lit × DataW H) → Nat
  | [] => 0
  | x :: r => uptoBulkEntry x + uptoBulkEntries r
def uptoBulkEntry {H : Type} : Lit × DataW H → Nat
  | (.string bytes, d) => bytes.length + uptoBulk d + 1
  | (_, d) => uptoBulk d + 1
 end
def uptoSmall : (H : Type) → List (DataW H) → Bool := fun _ ds => decide (uptoBulkAll ds ≤ 1048576)
def OpenSpec.upto (s : _root_.Go.ChangeSpec) : _root_.Go.OpenSpec := { _root_.Go.OpenSpec.ofChange s with cond := some uptoSmall }

/-- 'laws.FnExactSumsOfVoltages', WHERE WHAT IT READS IS OF BULK AT MOST 1048576: true; the input reads as it did. -/
def fnExactSumsOfVoltagesUptoRow : OpenClaim := { program := "ytjcllfkkjagomaa", sum := "3ab5f452e1090ff365a72799ef0e34151c55a4ea120504db90426c8cb5295544", func := "loop.example/g01200/laws.FnExactSumsOfVoltages", spec := "fnExactSumsOfVoltages", unfollowed := true, recurses := true, apart := false, narrowed := true }
def FnExactSumsOfVoltagesUptoSaid : Prop := fnExactSumsOfVoltagesUptoRow.holds Try.pinned (OpenSpec.upto fnExactSumsOfVoltagesSpec)

/-- 'laws.FnExactCycleOfEdge', WHERE WHAT IT READS IS OF BULK AT MOST 1048576: true; the input reads as it did. -/
def fnExactCycleOfEdgeUptoRow : OpenClaim := { program := "ytjcllfkkjagomaa", sum := "3ab5f452e1090ff365a72799ef0e34151c55a4ea120504db90426c8cb5295544", func := "loop.example/g01200/laws.FnExactCycleOfEdge", spec := "fnExactCycleOfEdge", apart := false, narrowed := true }
def FnExactCycleOfEdgeUptoSaid : Prop := fnExactCycleOfEdgeUptoRow.holds Try.pinned (OpenSpec.upto fnExactCycleOfEdgeSpec)

/-- 'laws.FnExactHomologyBasis', WHERE WHAT IT READS IS OF BULK AT MOST 1048576: true; the input reads as it did. -/
def fnExactHomologyBasisUptoRow : OpenClaim := { program := "ytjcllfkkjagomaa", sum := "3ab5f452e1090ff365a72799ef0e34151c55a4ea120504db90426c8cb5295544", func := "loop.example/g01200/laws.FnExactHomologyBasis", spec := "fnExactHomologyBasis", apart := false, narrowed := true }
def FnExactHomologyBasisUptoSaid : Prop := fnExactHomologyBasisUptoRow.holds Try.pinned (OpenSpec.upto fnExactHomologyBasisSpec)

/-- 'laws.FnExactIsBounding', WHERE WHAT IT READS IS OF BULK AT MOST 1048576: true; the input reads as it did. -/
def fnExactIsBoundingUptoRow : OpenClaim := { program := "ytjcllfkkjagomaa", sum := "3ab5f452e1090ff365a72799ef0e34151c55a4ea120504db90426c8cb5295544", func := "loop.example/g01200/laws.FnExactIsBounding", spec := "fnExactIsBounding", apart := false, narrowed := true }
def FnExactIsBoundingUptoSaid : Prop := fnExactIsBoundingUptoRow.holds Try.pinned (OpenSpec.upto fnExactIsBoundingSpec)

/-- 'laws.FnExactIntersectionTable', WHERE WHAT IT READS IS OF BULK AT MOST 1048576: true; the input reads as it did. -/
def fnExactIntersectionTableUptoRow : OpenClaim := { program := "ytjcllfkkjagomaa", sum := "3ab5f452e1090ff365a72799ef0e34151c55a4ea120504db90426c8cb5295544", func := "loop.example/g01200/laws.FnExactIntersectionTable", spec := "fnExactIntersectionTable", apart := false, narrowed := true }
def FnExactIntersectionTableUptoSaid : Prop := fnExactIntersectionTableUptoRow.holds Try.pinned (OpenSpec.upto fnExactIntersectionTableSpec)

/-- 'laws.FnExactTriangleRelations', WHERE WHAT IT READS IS OF BULK AT MOST 1048576: true; the input reads as it did. -/
def fnExactTriangleRelationsUptoRow : OpenClaim := { program := "ytjcllfkkjagomaa", sum := "3ab5f452e1090ff365a72799ef0e34151c55a4ea120504db90426c8cb5295544", func := "loop.example/g01200/laws.FnExactTriangleRelations", spec := "fnExactTriangleRelations", inPlace := ["internal/abi.NoEscape", "internal/bytealg.MakeNoZero"], apart := false, narrowed := true }
def FnExactTriangleRelationsUptoSaid : Prop := fnExactTriangleRelationsUptoRow.holds Try.pinned (OpenSpec.upto fnExactTriangleRelationsSpec)

end Rows
end Go.Proofs.Ytjcllfkkjagomaa
