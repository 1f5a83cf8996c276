/-
  No cell of these rows narrows 'for every input' (looked for: loops, veiled, ifaces, maps, wideKeys, modest, calm, conditions, laid).
  DERIVED. THE GIVEN ROWS OF THIS SEAT. 4 by the template 'for every input the law returns true; each argument reads behind the call as it read before'; 0 by the template 'total and deterministic' (their statements: YtcleiehdddjicaaTotals.lean).
  GIVEN WITH THE SEED: the statements are not yours to turn. If you find one false, say at which input.
  Laid BY PROGRAM, IN A SANDBOX (cutbox-rows.mjs): the forced cells as the released guide's own fill.sh prints them over the translation 83dbbc237a05a913… (all of the seat's roots in one cut). By AI agents, Wed Nov 11 2026. No macro, syntax, notation, axiom, sorry.
-/
import Derived.Test.YtcleiehdddjicaaChecked
import GoSem.Claim
import GoSem.ClaimJoined
import GoSem.ClaimMapViews
import Derived.JoinedTies
import Derived.KernelRfl
namespace Go.Proofs.Ytcleiehdddjicaa
/- THE CELL 'sum', in the pinned program and in every row, IS THE sha256 OF THE DUMP (.gsa) THAT YtcleiehdddjicaaProg.lean LOADS. Nothing in Lean hashes anything: it is a label: what it is worth is what the hold of that sum in a sandbox is worth. -/
noncomputable def Try.pinned : Pinned := { name := "ytcleiehdddjicaa", sum := "83dbbc237a05a913df68deacf038910a12db9a264676890a3512b1a01279db2b", checked := Try.checked }
namespace Rows
def none {H : Type} : Left H := { results := [], args := [] }

/-- 'laws.FnExactCycleOfEdge': WHATEVER THE INPUT: true; the input reads as it did. -/
def fnExactCycleOfEdgeSpec : ChangeSpec := { name := "fnExactCycleOfEdge", fn := fun _ => fun
  | [d1, d2] => { results := [.lit (.bool true)], args := [d1, d2] }
  | _ => none }
def fnExactCycleOfEdgeRow : OpenClaim := { program := "ytcleiehdddjicaa", sum := "83dbbc237a05a913df68deacf038910a12db9a264676890a3512b1a01279db2b", func := "loop.example/g01200/laws.FnExactCycleOfEdge", spec := "fnExactCycleOfEdge", apart := false }
def FnExactCycleOfEdgeSaid : Prop := fnExactCycleOfEdgeRow.holds Try.pinned (OpenSpec.ofChange fnExactCycleOfEdgeSpec)

/-- ITS FALSE NEIGHBOUR: 'it returns false'. Refute it at one input. -/
def fnExactCycleOfEdgeWrong : ChangeSpec := { name := "fnExactCycleOfEdge", fn := fun _ => fun
  | [d1, d2] => { results := [.lit (.bool false)], args := [d1, d2] }
  | _ => none }
def FnExactCycleOfEdgeWrongFalsely : Prop := fnExactCycleOfEdgeRow.holds Try.pinned (OpenSpec.ofChange fnExactCycleOfEdgeWrong)

/-- 'laws.FnExactHomologyBasis': WHATEVER THE INPUT: true; the input reads as it did. -/
def fnExactHomologyBasisSpec : ChangeSpec := { name := "fnExactHomologyBasis", fn := fun _ => fun
  | [d] => { results := [.lit (.bool true)], args := [d] }
  | _ => none }
def fnExactHomologyBasisRow : OpenClaim := { program := "ytcleiehdddjicaa", sum := "83dbbc237a05a913df68deacf038910a12db9a264676890a3512b1a01279db2b", func := "loop.example/g01200/laws.FnExactHomologyBasis", spec := "fnExactHomologyBasis", apart := false }
def FnExactHomologyBasisSaid : Prop := fnExactHomologyBasisRow.holds Try.pinned (OpenSpec.ofChange fnExactHomologyBasisSpec)

/-- ITS FALSE NEIGHBOUR: 'it returns false'. Refute it at one input. -/
def fnExactHomologyBasisWrong : ChangeSpec := { name := "fnExactHomologyBasis", fn := fun _ => fun
  | [d] => { results := [.lit (.bool false)], args := [d] }
  | _ => none }
def FnExactHomologyBasisWrongFalsely : Prop := fnExactHomologyBasisRow.holds Try.pinned (OpenSpec.ofChange fnExactHomologyBasisWrong)

/-- 'laws.FnExactIsBounding': WHATEVER THE INPUT: true; the input reads as it did. -/
def fnExactIsBoundingSpec : ChangeSpec := { name := "fnExactIsBounding", fn := fun _ => fun
  | [d1, d2] => { results := [.lit (.bool true)], args := [d1, d2] }
  | _ => none }
def fnExactIsBoundingRow : OpenClaim := { program := "ytcleiehdddjicaa", sum := "83dbbc237a05a913df68deacf038910a12db9a264676890a3512b1a01279db2b", func := "loop.example/g01200/laws.FnExactIsBounding", spec := "fnExactIsBounding", apart := false }
def FnExactIsBoundingSaid : Prop := fnExactIsBoundingRow.holds Try.pinned (OpenSpec.ofChange fnExactIsBoundingSpec)

/-- ITS FALSE NEIGHBOUR: 'it returns false'. Refute it at one input. -/
def fnExactIsBoundingWrong : ChangeSpec := { name := "fnExactIsBounding", fn := fun _ => fun
  | [d1, d2] => { results := [.lit (.bool false)], args := [d1, d2] }
  | _ => none }
def FnExactIsBoundingWrongFalsely : Prop := fnExactIsBoundingRow.holds Try.pinned (OpenSpec.ofChange fnExactIsBoundingWrong)

/-- 'laws.FnExactIntersectionTable': WHATEVER THE INPUT: true; the input reads as it did. -/
def fnExactIntersectionTableSpec : ChangeSpec := { name := "fnExactIntersectionTable", fn := fun _ => fun
  | [d] => { results := [.lit (.bool true)], args := [d] }
  | _ => none }
def fnExactIntersectionTableRow : OpenClaim := { program := "ytcleiehdddjicaa", sum := "83dbbc237a05a913df68deacf038910a12db9a264676890a3512b1a01279db2b", func := "loop.example/g01200/laws.FnExactIntersectionTable", spec := "fnExactIntersectionTable", apart := false }
def FnExactIntersectionTableSaid : Prop := fnExactIntersectionTableRow.holds Try.pinned (OpenSpec.ofChange fnExactIntersectionTableSpec)

/-- ITS FALSE NEIGHBOUR: 'it returns false'. Refute it at one input. -/
def fnExactIntersectionTableWrong : ChangeSpec := { name := "fnExactIntersectionTable", fn := fun _ => fun
  | [d] => { results := [.lit (.bool false)], args := [d] }
  | _ => none }
def FnExactIntersectionTableWrongFalsely : Prop := fnExactIntersectionTableRow.holds Try.pinned (OpenSpec.ofChange fnExactIntersectionTableWrong)

/- THE SECOND FORM. 'bulk': how many values and letters a reading holds, each counted each time it is reached (what is shared counts as often as it is met; a slice's spare places count too). A statement '..UptoSaid' is the law's where the arguments, and the package variables that the reading takes, are together of bulk at most 1048576: NARROWER than '..Said'. Prove '..Said' where nothing that the law and all that it calls make is longer than what came in: it says more and counts as full. Else prove '..UptoSaid'. A law counts once. -/
mutual
def uptoBulk {H : Type} : DataW H → Nat
  | .lit (.string bytes) => bytes.length + 1
  | .lit _ => 1
  | .nil => 1
  | .ptr d => uptoBulk d + 1
  | .slice elems spare => uptoBulkAll elems + uptoBulkAll spare + 1
  | .agg parts => uptoBulkAll parts + 1
  | .iface _ d => uptoBulk d + 1
  | .map entries => uptoBulkEntries entries + 1
  | .held _ => 1
def uptoBulkAll {H : Type} : List (DataW H) → Nat
  | [] => 0
  | d :: r => uptoBulk d + uptoBulkAll r
def uptoBulkEntries {H : Type} : List (Lit × DataW H) → Nat
  | [] => 0
  | x :: r => uptoBulkEntry x + uptoBulkEntries r
def uptoBulkEntry {H : Type} : Lit × DataW H → Nat
  | (.string bytes, d) => bytes.length + uptoBulk d + 1
  | (_, d) => uptoBulk d + 1
 end
def uptoSmall : (H : Type) → List (DataW H) → Bool := fun _ ds => decide (uptoBulkAll ds ≤ 1048576)
def OpenSpec.upto (s : _root_.Go.ChangeSpec) : _root_.Go.OpenSpec := { _root_.Go.OpenSpec.ofChange s with cond := some uptoSmall }

/-- 'laws.FnExactCycleOfEdge', WHERE WHAT IT READS IS OF BULK AT MOST 1048576: true; the input reads as it did. -/
def fnExactCycleOfEdgeUptoRow : OpenClaim := { program := "ytcleiehdddjicaa", sum := "83dbbc237a05a913df68deacf038910a12db9a264676890a3512b1a01279db2b", func := "loop.example/g01200/laws.FnExactCycleOfEdge", spec := "fnExactCycleOfEdge", apart := false, narrowed := true }
def FnExactCycleOfEdgeUptoSaid : Prop := fnExactCycleOfEdgeUptoRow.holds Try.pinned (OpenSpec.upto fnExactCycleOfEdgeSpec)

/-- 'laws.FnExactHomologyBasis', WHERE WHAT IT READS IS OF BULK AT MOST 1048576: true; the input reads as it did. -/
def fnExactHomologyBasisUptoRow : OpenClaim := { program := "ytcleiehdddjicaa", sum := "83dbbc237a05a913df68deacf038910a12db9a264676890a3512b1a01279db2b", func := "loop.example/g01200/laws.FnExactHomologyBasis", spec := "fnExactHomologyBasis", apart := false, narrowed := true }
def FnExactHomologyBasisUptoSaid : Prop := fnExactHomologyBasisUptoRow.holds Try.pinned (OpenSpec.upto fnExactHomologyBasisSpec)

/-- 'laws.FnExactIsBounding', WHERE WHAT IT READS IS OF BULK AT MOST 1048576: true; the input reads as it did. -/
def fnExactIsBoundingUptoRow : OpenClaim := { program := "ytcleiehdddjicaa", sum := "83dbbc237a05a913df68deacf038910a12db9a264676890a3512b1a01279db2b", func := "loop.example/g01200/laws.FnExactIsBounding", spec := "fnExactIsBounding", apart := false, narrowed := true }
def FnExactIsBoundingUptoSaid : Prop := fnExactIsBoundingUptoRow.holds Try.pinned (OpenSpec.upto fnExactIsBoundingSpec)

/-- 'laws.FnExactIntersectionTable', WHERE WHAT IT READS IS OF BULK AT MOST 1048576: true; the input reads as it did. -/
def fnExactIntersectionTableUptoRow : OpenClaim := { program := "ytcleiehdddjicaa", sum := "83dbbc237a05a913df68deacf038910a12db9a264676890a3512b1a01279db2b", func := "loop.example/g01200/laws.FnExactIntersectionTable", spec := "fnExactIntersectionTable", apart := false, narrowed := true }
def FnExactIntersectionTableUptoSaid : Prop := fnExactIntersectionTableUptoRow.holds Try.pinned (OpenSpec.upto fnExactIntersectionTableSpec)

end Rows
end Go.Proofs.Ytcleiehdddjicaa
