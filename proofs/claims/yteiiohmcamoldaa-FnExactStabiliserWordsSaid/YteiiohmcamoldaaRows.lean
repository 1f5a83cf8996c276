/-
  No cell of these rows narrows 'for every input' (looked for: loops, veiled, ifaces, maps, wideKeys, modest, calm, conditions, laid).
  DERIVED. THE GIVEN ROWS OF THIS SEAT. 12 by the template 'for every input the law returns true; each argument reads behind the call as it read before'; 0 by the template 'total and deterministic' (their statements: YteiiohmcamoldaaTotals.lean).
  GIVEN WITH THE SEED: the statements are not yours to turn. If you find one false, say at which input.
  Laid BY PROGRAM, IN A SANDBOX (cutbox-rows.mjs): the forced cells as the released guide's own fill.sh prints them over the translation 73549cde5334cab5… (all of the seat's roots in one cut). By AI agents, Wed Nov 11 2026. No macro, syntax, notation, axiom, sorry.
-/
import Derived.Test.YteiiohmcamoldaaChecked
import GoSem.Claim
import GoSem.ClaimJoined
import GoSem.ClaimMapViews
import Derived.JoinedTies
import Derived.KernelRfl
namespace Go.Proofs.Yteiiohmcamoldaa
/- THE CELL 'sum', in the pinned program and in every row, IS THE sha256 OF THE DUMP (.gsa) THAT YteiiohmcamoldaaProg.lean LOADS. Nothing in Lean hashes anything: it is a label: what it is worth is what the hold of that sum in a sandbox is worth. -/
noncomputable def Try.pinned : Pinned := { name := "yteiiohmcamoldaa", sum := "73549cde5334cab5b708e43e2cc2a982839a74f9493f59c07bbcb80800a422b2", checked := Try.checked }
namespace Rows
def none {H : Type} : Left H := { results := [], args := [] }

/-- 'laws.FnExactNewDesk': WHATEVER THE INPUT: true; the input reads as it did. -/
def fnExactNewDeskSpec : ChangeSpec := { name := "fnExactNewDesk", fn := fun _ => fun
  | [] => { results := [.lit (.bool true)], args := [] }
  | _ => none }
def fnExactNewDeskRow : OpenClaim := { program := "yteiiohmcamoldaa", sum := "73549cde5334cab5b708e43e2cc2a982839a74f9493f59c07bbcb80800a422b2", func := "loop.example/g01200/laws.FnExactNewDesk", spec := "fnExactNewDesk", apart := false }
def FnExactNewDeskSaid : Prop := fnExactNewDeskRow.holds Try.pinned (OpenSpec.ofChange fnExactNewDeskSpec)

/-- ITS FALSE NEIGHBOUR: 'it returns false'. Refute it at one input. -/
def fnExactNewDeskWrong : ChangeSpec := { name := "fnExactNewDesk", fn := fun _ => fun
  | [] => { results := [.lit (.bool false)], args := [] }
  | _ => none }
def FnExactNewDeskWrongFalsely : Prop := fnExactNewDeskRow.holds Try.pinned (OpenSpec.ofChange fnExactNewDeskWrong)

/-- 'laws.FnExactIsTable': WHATEVER THE INPUT: true; the input reads as it did. -/
def fnExactIsTableSpec : ChangeSpec := { name := "fnExactIsTable", fn := fun _ => fun
  | [d] => { results := [.lit (.bool true)], args := [d] }
  | _ => none }
def fnExactIsTableRow : OpenClaim := { program := "yteiiohmcamoldaa", sum := "73549cde5334cab5b708e43e2cc2a982839a74f9493f59c07bbcb80800a422b2", func := "loop.example/g01200/laws.FnExactIsTable", spec := "fnExactIsTable", apart := false }
def FnExactIsTableSaid : Prop := fnExactIsTableRow.holds Try.pinned (OpenSpec.ofChange fnExactIsTableSpec)

/-- ITS FALSE NEIGHBOUR: 'it returns false'. Refute it at one input. -/
def fnExactIsTableWrong : ChangeSpec := { name := "fnExactIsTable", fn := fun _ => fun
  | [d] => { results := [.lit (.bool false)], args := [d] }
  | _ => none }
def FnExactIsTableWrongFalsely : Prop := fnExactIsTableRow.holds Try.pinned (OpenSpec.ofChange fnExactIsTableWrong)

/-- 'laws.FnExactDessinOfTable': WHATEVER THE INPUT: true; the input reads as it did. -/
def fnExactDessinOfTableSpec : ChangeSpec := { name := "fnExactDessinOfTable", fn := fun _ => fun
  | [d] => { results := [.lit (.bool true)], args := [d] }
  | _ => none }
def fnExactDessinOfTableRow : OpenClaim := { program := "yteiiohmcamoldaa", sum := "73549cde5334cab5b708e43e2cc2a982839a74f9493f59c07bbcb80800a422b2", func := "loop.example/g01200/laws.FnExactDessinOfTable", spec := "fnExactDessinOfTable", apart := false }
def FnExactDessinOfTableSaid : Prop := fnExactDessinOfTableRow.holds Try.pinned (OpenSpec.ofChange fnExactDessinOfTableSpec)

/-- ITS FALSE NEIGHBOUR: 'it returns false'. Refute it at one input. -/
def fnExactDessinOfTableWrong : ChangeSpec := { name := "fnExactDessinOfTable", fn := fun _ => fun
  | [d] => { results := [.lit (.bool false)], args := [d] }
  | _ => none }
def FnExactDessinOfTableWrongFalsely : Prop := fnExactDessinOfTableRow.holds Try.pinned (OpenSpec.ofChange fnExactDessinOfTableWrong)

/-- 'laws.FnExactIsDesk': WHATEVER THE INPUT: true; the input reads as it did. -/
def fnExactIsDeskSpec : ChangeSpec := { name := "fnExactIsDesk", fn := fun _ => fun
  | [d] => { results := [.lit (.bool true)], args := [d] }
  | _ => none }
def fnExactIsDeskRow : OpenClaim := { program := "yteiiohmcamoldaa", sum := "73549cde5334cab5b708e43e2cc2a982839a74f9493f59c07bbcb80800a422b2", func := "loop.example/g01200/laws.FnExactIsDesk", spec := "fnExactIsDesk", apart := false }
def FnExactIsDeskSaid : Prop := fnExactIsDeskRow.holds Try.pinned (OpenSpec.ofChange fnExactIsDeskSpec)

/-- ITS FALSE NEIGHBOUR: 'it returns false'. Refute it at one input. -/
def fnExactIsDeskWrong : ChangeSpec := { name := "fnExactIsDesk", fn := fun _ => fun
  | [d] => { results := [.lit (.bool false)], args := [d] }
  | _ => none }
def FnExactIsDeskWrongFalsely : Prop := fnExactIsDeskRow.holds Try.pinned (OpenSpec.ofChange fnExactIsDeskWrong)

/-- 'laws.FnExactCoverOf': WHATEVER THE INPUT: true; the input reads as it did. -/
def fnExactCoverOfSpec : ChangeSpec := { name := "fnExactCoverOf", fn := fun _ => fun
  | [d1, d2, d3, d4] => { results := [.lit (.bool true)], args := [d1, d2, d3, d4] }
  | _ => none }
def fnExactCoverOfRow : OpenClaim := { program := "yteiiohmcamoldaa", sum := "73549cde5334cab5b708e43e2cc2a982839a74f9493f59c07bbcb80800a422b2", func := "loop.example/g01200/laws.FnExactCoverOf", spec := "fnExactCoverOf", apart := false }
def FnExactCoverOfSaid : Prop := fnExactCoverOfRow.holds Try.pinned (OpenSpec.ofChange fnExactCoverOfSpec)

/-- ITS FALSE NEIGHBOUR: 'it returns false'. Refute it at one input. -/
def fnExactCoverOfWrong : ChangeSpec := { name := "fnExactCoverOf", fn := fun _ => fun
  | [d1, d2, d3, d4] => { results := [.lit (.bool false)], args := [d1, d2, d3, d4] }
  | _ => none }
def FnExactCoverOfWrongFalsely : Prop := fnExactCoverOfRow.holds Try.pinned (OpenSpec.ofChange fnExactCoverOfWrong)

/-- 'laws.FnExactIsCycle': WHATEVER THE INPUT: true; the input reads as it did. -/
def fnExactIsCycleSpec : ChangeSpec := { name := "fnExactIsCycle", fn := fun _ => fun
  | [d1, d2] => { results := [.lit (.bool true)], args := [d1, d2] }
  | _ => none }
def fnExactIsCycleRow : OpenClaim := { program := "yteiiohmcamoldaa", sum := "73549cde5334cab5b708e43e2cc2a982839a74f9493f59c07bbcb80800a422b2", func := "loop.example/g01200/laws.FnExactIsCycle", spec := "fnExactIsCycle", apart := false }
def FnExactIsCycleSaid : Prop := fnExactIsCycleRow.holds Try.pinned (OpenSpec.ofChange fnExactIsCycleSpec)

/-- ITS FALSE NEIGHBOUR: 'it returns false'. Refute it at one input. -/
def fnExactIsCycleWrong : ChangeSpec := { name := "fnExactIsCycle", fn := fun _ => fun
  | [d1, d2] => { results := [.lit (.bool false)], args := [d1, d2] }
  | _ => none }
def FnExactIsCycleWrongFalsely : Prop := fnExactIsCycleRow.holds Try.pinned (OpenSpec.ofChange fnExactIsCycleWrong)

/-- 'laws.FnExactTableOfDessin': WHATEVER THE INPUT: true; the input reads as it did. -/
def fnExactTableOfDessinSpec : ChangeSpec := { name := "fnExactTableOfDessin", fn := fun _ => fun
  | [d1, d2] => { results := [.lit (.bool true)], args := [d1, d2] }
  | _ => none }
def fnExactTableOfDessinRow : OpenClaim := { program := "yteiiohmcamoldaa", sum := "73549cde5334cab5b708e43e2cc2a982839a74f9493f59c07bbcb80800a422b2", func := "loop.example/g01200/laws.FnExactTableOfDessin", spec := "fnExactTableOfDessin", apart := false }
def FnExactTableOfDessinSaid : Prop := fnExactTableOfDessinRow.holds Try.pinned (OpenSpec.ofChange fnExactTableOfDessinSpec)

/-- ITS FALSE NEIGHBOUR: 'it returns false'. Refute it at one input. -/
def fnExactTableOfDessinWrong : ChangeSpec := { name := "fnExactTableOfDessin", fn := fun _ => fun
  | [d1, d2] => { results := [.lit (.bool false)], args := [d1, d2] }
  | _ => none }
def FnExactTableOfDessinWrongFalsely : Prop := fnExactTableOfDessinRow.holds Try.pinned (OpenSpec.ofChange fnExactTableOfDessinWrong)

/-- 'laws.FnExactBoundariesOf': WHATEVER THE INPUT: true; the input reads as it did. -/
def fnExactBoundariesOfSpec : ChangeSpec := { name := "fnExactBoundariesOf", fn := fun _ => fun
  | [d] => { results := [.lit (.bool true)], args := [d] }
  | _ => none }
def fnExactBoundariesOfRow : OpenClaim := { program := "yteiiohmcamoldaa", sum := "73549cde5334cab5b708e43e2cc2a982839a74f9493f59c07bbcb80800a422b2", func := "loop.example/g01200/laws.FnExactBoundariesOf", spec := "fnExactBoundariesOf", apart := false }
def FnExactBoundariesOfSaid : Prop := fnExactBoundariesOfRow.holds Try.pinned (OpenSpec.ofChange fnExactBoundariesOfSpec)

/-- ITS FALSE NEIGHBOUR: 'it returns false'. Refute it at one input. -/
def fnExactBoundariesOfWrong : ChangeSpec := { name := "fnExactBoundariesOf", fn := fun _ => fun
  | [d] => { results := [.lit (.bool false)], args := [d] }
  | _ => none }
def FnExactBoundariesOfWrongFalsely : Prop := fnExactBoundariesOfRow.holds Try.pinned (OpenSpec.ofChange fnExactBoundariesOfWrong)

/-- 'laws.FnExactStabiliserWords': WHATEVER THE INPUT: true; the input reads as it did. -/
def fnExactStabiliserWordsSpec : ChangeSpec := { name := "fnExactStabiliserWords", fn := fun _ => fun
  | [d] => { results := [.lit (.bool true)], args := [d] }
  | _ => none }
def fnExactStabiliserWordsRow : OpenClaim := { program := "yteiiohmcamoldaa", sum := "73549cde5334cab5b708e43e2cc2a982839a74f9493f59c07bbcb80800a422b2", func := "loop.example/g01200/laws.FnExactStabiliserWords", spec := "fnExactStabiliserWords", apart := false }
def FnExactStabiliserWordsSaid : Prop := fnExactStabiliserWordsRow.holds Try.pinned (OpenSpec.ofChange fnExactStabiliserWordsSpec)

/-- ITS FALSE NEIGHBOUR: 'it returns false'. Refute it at one input. -/
def fnExactStabiliserWordsWrong : ChangeSpec := { name := "fnExactStabiliserWords", fn := fun _ => fun
  | [d] => { results := [.lit (.bool false)], args := [d] }
  | _ => none }
def FnExactStabiliserWordsWrongFalsely : Prop := fnExactStabiliserWordsRow.holds Try.pinned (OpenSpec.ofChange fnExactStabiliserWordsWrong)

/-- 'laws.FnExactTreeEdges': WHATEVER THE INPUT: true; the input reads as it did. -/
def fnExactTreeEdgesSpec : ChangeSpec := { name := "fnExactTreeEdges", fn := fun _ => fun
  | [d] => { results := [.lit (.bool true)], args := [d] }
  | _ => none }
def fnExactTreeEdgesRow : OpenClaim := { program := "yteiiohmcamoldaa", sum := "73549cde5334cab5b708e43e2cc2a982839a74f9493f59c07bbcb80800a422b2", func := "loop.example/g01200/laws.FnExactTreeEdges", spec := "fnExactTreeEdges", apart := false }
def FnExactTreeEdgesSaid : Prop := fnExactTreeEdgesRow.holds Try.pinned (OpenSpec.ofChange fnExactTreeEdgesSpec)

/-- ITS FALSE NEIGHBOUR: 'it returns false'. Refute it at one input. -/
def fnExactTreeEdgesWrong : ChangeSpec := { name := "fnExactTreeEdges", fn := fun _ => fun
  | [d] => { results := [.lit (.bool false)], args := [d] }
  | _ => none }
def FnExactTreeEdgesWrongFalsely : Prop := fnExactTreeEdgesRow.holds Try.pinned (OpenSpec.ofChange fnExactTreeEdgesWrong)

/-- 'laws.FnExactIntersectionOf': WHATEVER THE INPUT: true; the input reads as it did. -/
def fnExactIntersectionOfSpec : ChangeSpec := { name := "fnExactIntersectionOf", fn := fun _ => fun
  | [d1, d2, d3] => { results := [.lit (.bool true)], args := [d1, d2, d3] }
  | _ => none }
def fnExactIntersectionOfRow : OpenClaim := { program := "yteiiohmcamoldaa", sum := "73549cde5334cab5b708e43e2cc2a982839a74f9493f59c07bbcb80800a422b2", func := "loop.example/g01200/laws.FnExactIntersectionOf", spec := "fnExactIntersectionOf", apart := false }
def FnExactIntersectionOfSaid : Prop := fnExactIntersectionOfRow.holds Try.pinned (OpenSpec.ofChange fnExactIntersectionOfSpec)

/-- ITS FALSE NEIGHBOUR: 'it returns false'. Refute it at one input. -/
def fnExactIntersectionOfWrong : ChangeSpec := { name := "fnExactIntersectionOf", fn := fun _ => fun
  | [d1, d2, d3] => { results := [.lit (.bool false)], args := [d1, d2, d3] }
  | _ => none }
def FnExactIntersectionOfWrongFalsely : Prop := fnExactIntersectionOfRow.holds Try.pinned (OpenSpec.ofChange fnExactIntersectionOfWrong)

/-- 'laws.FnExactIsUnbranched': WHATEVER THE INPUT: true; the input reads as it did. -/
def fnExactIsUnbranchedSpec : ChangeSpec := { name := "fnExactIsUnbranched", fn := fun _ => fun
  | [d1, d2, d3, d4] => { results := [.lit (.bool true)], args := [d1, d2, d3, d4] }
  | _ => none }
def fnExactIsUnbranchedRow : OpenClaim := { program := "yteiiohmcamoldaa", sum := "73549cde5334cab5b708e43e2cc2a982839a74f9493f59c07bbcb80800a422b2", func := "loop.example/g01200/laws.FnExactIsUnbranched", spec := "fnExactIsUnbranched", unfollowed := true, recurses := true, apart := false }
def FnExactIsUnbranchedSaid : Prop := fnExactIsUnbranchedRow.holds Try.pinned (OpenSpec.ofChange fnExactIsUnbranchedSpec)

/-- ITS FALSE NEIGHBOUR: 'it returns false'. Refute it at one input. -/
def fnExactIsUnbranchedWrong : ChangeSpec := { name := "fnExactIsUnbranched", fn := fun _ => fun
  | [d1, d2, d3, d4] => { results := [.lit (.bool false)], args := [d1, d2, d3, d4] }
  | _ => none }
def FnExactIsUnbranchedWrongFalsely : Prop := fnExactIsUnbranchedRow.holds Try.pinned (OpenSpec.ofChange fnExactIsUnbranchedWrong)

/- THE SECOND FORM. 'bulk': how many values and letters a reading holds, each counted each time it is reached (what is shared counts as often as it is met; a slice's spare places count too). A statement '..UptoSaid' is the law's where the arguments, and the package variables that the reading takes, are together of bulk at most 1048576: NARROWER than '..Said'. Prove '..Said' where nothing that the law and all that it calls make is longer than what came in: it says more and counts as full. Else prove '..UptoSaid'. A law counts once. -/
mutual
def uptoBulk {H : Type} : DataW H → Nat
  | .lit (.string bytes) => bytes.length + 1
  | .lit _ => 1
  | .nil => 1
  | .ptr d => uptoBulk d + 1
  | .slice elems spare => uptoBulkAll elems + uptoBulkAll spare + 1
  | .agg parts => uptoBulkAll parts + 1
  | .iface _ d => uptoBulk d + 1
  | .map entries => uptoBulkEntries entries + 1
  | .held _ => 1
def uptoBulkAll {H : Type} : List (DataW H) → Nat
  | [] => 0
  | d :: r => uptoBulk d + uptoBulkAll r
def uptoBulkEntries {H : Type} : List (Lit × DataW H) → Nat
  | [] => 0
  | x :: r => uptoBulkEntry x + uptoBulkEntries r
def uptoBulkEntry {H : Type} : Lit × DataW H → Nat
  | (.string bytes, d) => bytes.length + uptoBulk d + 1
  | (_, d) => uptoBulk d + 1
 end
def uptoSmall : (H : Type) → List (DataW H) → Bool := fun _ ds => decide (uptoBulkAll ds ≤ 1048576)
def OpenSpec.upto (s : _root_.Go.ChangeSpec) : _root_.Go.OpenSpec := { _root_.Go.OpenSpec.ofChange s with cond := some uptoSmall }

/-- 'laws.FnExactNewDesk', WHERE WHAT IT READS IS OF BULK AT MOST 1048576: true; the input reads as it did. -/
def fnExactNewDeskUptoRow : OpenClaim := { program := "yteiiohmcamoldaa", sum := "73549cde5334cab5b708e43e2cc2a982839a74f9493f59c07bbcb80800a422b2", func := "loop.example/g01200/laws.FnExactNewDesk", spec := "fnExactNewDesk", apart := false, narrowed := true }
def FnExactNewDeskUptoSaid : Prop := fnExactNewDeskUptoRow.holds Try.pinned (OpenSpec.upto fnExactNewDeskSpec)

/-- 'laws.FnExactIsTable', WHERE WHAT IT READS IS OF BULK AT MOST 1048576: true; the input reads as it did. -/
def fnExactIsTableUptoRow : OpenClaim := { program := "yteiiohmcamoldaa", sum := "73549cde5334cab5b708e43e2cc2a982839a74f9493f59c07bbcb80800a422b2", func := "loop.example/g01200/laws.FnExactIsTable", spec := "fnExactIsTable", apart := false, narrowed := true }
def FnExactIsTableUptoSaid : Prop := fnExactIsTableUptoRow.holds Try.pinned (OpenSpec.upto fnExactIsTableSpec)

/-- 'laws.FnExactDessinOfTable', WHERE WHAT IT READS IS OF BULK AT MOST 1048576: true; the input reads as it did. -/
def fnExactDessinOfTableUptoRow : OpenClaim := { program := "yteiiohmcamoldaa", sum := "73549cde5334cab5b708e43e2cc2a982839a74f9493f59c07bbcb80800a422b2", func := "loop.example/g01200/laws.FnExactDessinOfTable", spec := "fnExactDessinOfTable", apart := false, narrowed := true }
def FnExactDessinOfTableUptoSaid : Prop := fnExactDessinOfTableUptoRow.holds Try.pinned (OpenSpec.upto fnExactDessinOfTableSpec)

/-- 'laws.FnExactIsDesk', WHERE WHAT IT READS IS OF BULK AT MOST 1048576: true; the input reads as it did. -/
def fnExactIsDeskUptoRow : OpenClaim := { program := "yteiiohmcamoldaa", sum := "73549cde5334cab5b708e43e2cc2a982839a74f9493f59c07bbcb80800a422b2", func := "loop.example/g01200/laws.FnExactIsDesk", spec := "fnExactIsDesk", apart := false, narrowed := true }
def FnExactIsDeskUptoSaid : Prop := fnExactIsDeskUptoRow.holds Try.pinned (OpenSpec.upto fnExactIsDeskSpec)

/-- 'laws.FnExactCoverOf', WHERE WHAT IT READS IS OF BULK AT MOST 1048576: true; the input reads as it did. -/
def fnExactCoverOfUptoRow : OpenClaim := { program := "yteiiohmcamoldaa", sum := "73549cde5334cab5b708e43e2cc2a982839a74f9493f59c07bbcb80800a422b2", func := "loop.example/g01200/laws.FnExactCoverOf", spec := "fnExactCoverOf", apart := false, narrowed := true }
def FnExactCoverOfUptoSaid : Prop := fnExactCoverOfUptoRow.holds Try.pinned (OpenSpec.upto fnExactCoverOfSpec)

/-- 'laws.FnExactIsCycle', WHERE WHAT IT READS IS OF BULK AT MOST 1048576: true; the input reads as it did. -/
def fnExactIsCycleUptoRow : OpenClaim := { program := "yteiiohmcamoldaa", sum := "73549cde5334cab5b708e43e2cc2a982839a74f9493f59c07bbcb80800a422b2", func := "loop.example/g01200/laws.FnExactIsCycle", spec := "fnExactIsCycle", apart := false, narrowed := true }
def FnExactIsCycleUptoSaid : Prop := fnExactIsCycleUptoRow.holds Try.pinned (OpenSpec.upto fnExactIsCycleSpec)

/-- 'laws.FnExactTableOfDessin', WHERE WHAT IT READS IS OF BULK AT MOST 1048576: true; the input reads as it did. -/
def fnExactTableOfDessinUptoRow : OpenClaim := { program := "yteiiohmcamoldaa", sum := "73549cde5334cab5b708e43e2cc2a982839a74f9493f59c07bbcb80800a422b2", func := "loop.example/g01200/laws.FnExactTableOfDessin", spec := "fnExactTableOfDessin", apart := false, narrowed := true }
def FnExactTableOfDessinUptoSaid : Prop := fnExactTableOfDessinUptoRow.holds Try.pinned (OpenSpec.upto fnExactTableOfDessinSpec)

/-- 'laws.FnExactBoundariesOf', WHERE WHAT IT READS IS OF BULK AT MOST 1048576: true; the input reads as it did. -/
def fnExactBoundariesOfUptoRow : OpenClaim := { program := "yteiiohmcamoldaa", sum := "73549cde5334cab5b708e43e2cc2a982839a74f9493f59c07bbcb80800a422b2", func := "loop.example/g01200/laws.FnExactBoundariesOf", spec := "fnExactBoundariesOf", apart := false, narrowed := true }
def FnExactBoundariesOfUptoSaid : Prop := fnExactBoundariesOfUptoRow.holds Try.pinned (OpenSpec.upto fnExactBoundariesOfSpec)

/-- 'laws.FnExactStabiliserWords', WHERE WHAT IT READS IS OF BULK AT MOST 1048576: true; the input reads as it did. -/
def fnExactStabiliserWordsUptoRow : OpenClaim := { program := "yteiiohmcamoldaa", sum := "73549cde5334cab5b708e43e2cc2a982839a74f9493f59c07bbcb80800a422b2", func := "loop.example/g01200/laws.FnExactStabiliserWords", spec := "fnExactStabiliserWords", apart := false, narrowed := true }
def FnExactStabiliserWordsUptoSaid : Prop := fnExactStabiliserWordsUptoRow.holds Try.pinned (OpenSpec.upto fnExactStabiliserWordsSpec)

/-- 'laws.FnExactTreeEdges', WHERE WHAT IT READS IS OF BULK AT MOST 1048576: true; the input reads as it did. -/
def fnExactTreeEdgesUptoRow : OpenClaim := { program := "yteiiohmcamoldaa", sum := "73549cde5334cab5b708e43e2cc2a982839a74f9493f59c07bbcb80800a422b2", func := "loop.example/g01200/laws.FnExactTreeEdges", spec := "fnExactTreeEdges", apart := false, narrowed := true }
def FnExactTreeEdgesUptoSaid : Prop := fnExactTreeEdgesUptoRow.holds Try.pinned (OpenSpec.upto fnExactTreeEdgesSpec)

/-- 'laws.FnExactIntersectionOf', WHERE WHAT IT READS IS OF BULK AT MOST 1048576: true; the input reads as it did. -/
def fnExactIntersectionOfUptoRow : OpenClaim := { program := "yteiiohmcamoldaa", sum := "73549cde5334cab5b708e43e2cc2a982839a74f9493f59c07bbcb80800a422b2", func := "loop.example/g01200/laws.FnExactIntersectionOf", spec := "fnExactIntersectionOf", apart := false, narrowed := true }
def FnExactIntersectionOfUptoSaid : Prop := fnExactIntersectionOfUptoRow.holds Try.pinned (OpenSpec.upto fnExactIntersectionOfSpec)

/-- 'laws.FnExactIsUnbranched', WHERE WHAT IT READS IS OF BULK AT MOST 1048576: true; the input reads as it did. -/
def fnExactIsUnbranchedUptoRow : OpenClaim := { program := "yteiiohmcamoldaa", sum := "73549cde5334cab5b708e43e2cc2a982839a74f9493f59c07bbcb80800a422b2", func := "loop.example/g01200/laws.FnExactIsUnbranched", spec := "fnExactIsUnbranched", unfollowed := true, recurses := true, apart := false, narrowed := true }
def FnExactIsUnbranchedUptoSaid : Prop := fnExactIsUnbranchedUptoRow.holds Try.pinned (OpenSpec.upto fnExactIsUnbranchedSpec)

end Rows
end Go.Proofs.Yteiiohmcamoldaa
