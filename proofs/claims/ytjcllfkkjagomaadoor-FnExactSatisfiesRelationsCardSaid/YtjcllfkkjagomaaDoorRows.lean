/-
  NARROWER THAN 'FOR EVERY INPUT', by the rows' own cells (each row's printed sentence says how): FnExactWalkOf: laid · FnExactIsWord: laid · FnExactInverseWord: laid · FnExactReduceWord: laid · FnExactWordPlaces: laid · FnExactSatisfiesRelations: laid.
  DERIVED. THE GIVEN ROWS OF THIS SEAT. 6 by the template 'for every input the law returns true; each argument reads behind the call as it read before'; 0 by the template 'total and deterministic' (their statements: YtjcllfkkjagomaaDoorTotals.lean).
  GIVEN WITH THE SEED: the statements are not yours to turn. If you find one false, say at which input.
  Laid BY PROGRAM, IN A SANDBOX (cutbox-rows.mjs): the forced cells as the released guide's own fill.sh prints them over the translation 23fbd3c5f7d8dfd0… (all of the seat's roots in one cut). By AI agents, Wed Nov 11 2026. No macro, syntax, notation, axiom, sorry.
-/
import Derived.Test.YtjcllfkkjagomaaDoorChecked
import GoSem.PinnedTables
import GoSem.Claim
import GoSem.ClaimJoined
import GoSem.ClaimMapViews
import Derived.JoinedTies
import Derived.KernelRfl
namespace Go.Proofs.YtjcllfkkjagomaaDoor
/- THE CELL 'sum', in the pinned program and in every row, IS THE sha256 OF THE DUMP (.gsa) THAT YtjcllfkkjagomaaDoorProg.lean LOADS. Nothing in Lean hashes anything: it is a label: what it is worth is what the hold of that sum in a sandbox is worth. -/
noncomputable def Tryd.pinned : Pinned := { name := "ytjcllfkkjagomaadoor", sum := "23fbd3c5f7d8dfd0b2b730fbd243d5e584d9e04388c288bbbe0ed548e09fd48e", checked := Tryd.checked }
namespace Rows
def none {H : Type} : Left H := { results := [], args := [] }

/- WHAT THE LISTED PACKAGE-LEVEL VARIABLES READ AS WHEN THE CALL BEGINS. Each datum BY PROGRAM (the guide's laid-datum.mjs) off the statement by which the dump's own 'gosem.cut.vars' lays the variable. In a bare row this is a premise. The card (YtjcllfkkjagomaaDoorCards.lean) ties it to the program's text. -/
def laid_unicode_utf8_acceptRanges {H : Type} : DataW H := .agg [.agg [.lit (.int .u8 128), .lit (.int .u8 191)], .agg [.lit (.int .u8 160), .lit (.int .u8 191)], .agg [.lit (.int .u8 128), .lit (.int .u8 159)], .agg [.lit (.int .u8 144), .lit (.int .u8 191)], .agg [.lit (.int .u8 128), .lit (.int .u8 143)], .agg [.lit (.int .u8 0), .lit (.int .u8 0)], .agg [.lit (.int .u8 0), .lit (.int .u8 0)], .agg [.lit (.int .u8 0), .lit (.int .u8 0)], .agg [.lit (.int .u8 0), .lit (.int .u8 0)], .agg [.lit (.int .u8 0), .lit (.int .u8 0)], .agg [.lit (.int .u8 0), .lit (.int .u8 0)], .agg [.lit (.int .u8 0), .lit (.int .u8 0)], .agg [.lit (.int .u8 0), .lit (.int .u8 0)], .agg [.lit (.int .u8 0), .lit (.int .u8 0)], .agg [.lit (.int .u8 0), .lit (.int .u8 0)], .agg [.lit (.int .u8 0), .lit (.int .u8 0)]]
/-- One of Go's own tables, pinned by name: the form's constant. -/
def laid_unicode_utf8_first : DataW Unit := Go.Pinned.utf8First

/-- 'laws.FnExactWalkOf': WHATEVER THE INPUT: true; the input reads as it did. -/
def fnExactWalkOfSpec : ChangeSpec := { name := "fnExactWalkOf", fn := fun _ => fun
  | [d1, d2, d3, d4, d5, d6, d7] => { results := [.lit (.bool true)], args := [d1, d2, d3, d4, d5, d6, d7] }
  | _ => none }
def fnExactWalkOfRow : OpenClaim := { program := "ytjcllfkkjagomaadoor", sum := "23fbd3c5f7d8dfd0b2b730fbd243d5e584d9e04388c288bbbe0ed548e09fd48e", func := "loop.example/g01200/laws.FnExactWalkOf", spec := "fnExactWalkOf", inPlace := ["internal/bytealg.IndexByteString", "internal/bytealg.IndexString"], unfollowed := true, recurses := true, named := ["unicode/utf8.first", "unicode/utf8.acceptRanges", "internal/bytealg.MaxLen"], apart := false, laid := [("unicode/utf8.acceptRanges", laid_unicode_utf8_acceptRanges), ("unicode/utf8.first", laid_unicode_utf8_first)] }
def FnExactWalkOfSaid : Prop := fnExactWalkOfRow.holds Tryd.pinned (OpenSpec.ofChange fnExactWalkOfSpec)

/-- ITS FALSE NEIGHBOUR: 'it returns false'. Refute it at one input. -/
def fnExactWalkOfWrong : ChangeSpec := { name := "fnExactWalkOf", fn := fun _ => fun
  | [d1, d2, d3, d4, d5, d6, d7] => { results := [.lit (.bool false)], args := [d1, d2, d3, d4, d5, d6, d7] }
  | _ => none }
def FnExactWalkOfWrongFalsely : Prop := fnExactWalkOfRow.holds Tryd.pinned (OpenSpec.ofChange fnExactWalkOfWrong)

/-- 'laws.FnExactIsWord': WHATEVER THE INPUT: true; the input reads as it did. -/
def fnExactIsWordSpec : ChangeSpec := { name := "fnExactIsWord", fn := fun _ => fun
  | [d] => { results := [.lit (.bool true)], args := [d] }
  | _ => none }
def fnExactIsWordRow : OpenClaim := { program := "ytjcllfkkjagomaadoor", sum := "23fbd3c5f7d8dfd0b2b730fbd243d5e584d9e04388c288bbbe0ed548e09fd48e", func := "loop.example/g01200/laws.FnExactIsWord", spec := "fnExactIsWord", inPlace := ["internal/bytealg.IndexByteString", "internal/bytealg.IndexString"], named := ["unicode/utf8.first", "unicode/utf8.acceptRanges", "internal/bytealg.MaxLen"], apart := false, laid := [("unicode/utf8.acceptRanges", laid_unicode_utf8_acceptRanges), ("unicode/utf8.first", laid_unicode_utf8_first)] }
def FnExactIsWordSaid : Prop := fnExactIsWordRow.holds Tryd.pinned (OpenSpec.ofChange fnExactIsWordSpec)

/-- ITS FALSE NEIGHBOUR: 'it returns false'. Refute it at one input. -/
def fnExactIsWordWrong : ChangeSpec := { name := "fnExactIsWord", fn := fun _ => fun
  | [d] => { results := [.lit (.bool false)], args := [d] }
  | _ => none }
def FnExactIsWordWrongFalsely : Prop := fnExactIsWordRow.holds Tryd.pinned (OpenSpec.ofChange fnExactIsWordWrong)

/-- 'laws.FnExactInverseWord': WHATEVER THE INPUT: true; the input reads as it did. -/
def fnExactInverseWordSpec : ChangeSpec := { name := "fnExactInverseWord", fn := fun _ => fun
  | [d] => { results := [.lit (.bool true)], args := [d] }
  | _ => none }
def fnExactInverseWordRow : OpenClaim := { program := "ytjcllfkkjagomaadoor", sum := "23fbd3c5f7d8dfd0b2b730fbd243d5e584d9e04388c288bbbe0ed548e09fd48e", func := "loop.example/g01200/laws.FnExactInverseWord", spec := "fnExactInverseWord", inPlace := ["internal/bytealg.IndexByteString", "internal/bytealg.IndexString"], named := ["unicode/utf8.first", "unicode/utf8.acceptRanges", "internal/bytealg.MaxLen"], apart := false, laid := [("unicode/utf8.acceptRanges", laid_unicode_utf8_acceptRanges), ("unicode/utf8.first", laid_unicode_utf8_first)] }
def FnExactInverseWordSaid : Prop := fnExactInverseWordRow.holds Tryd.pinned (OpenSpec.ofChange fnExactInverseWordSpec)

/-- ITS FALSE NEIGHBOUR: 'it returns false'. Refute it at one input. -/
def fnExactInverseWordWrong : ChangeSpec := { name := "fnExactInverseWord", fn := fun _ => fun
  | [d] => { results := [.lit (.bool false)], args := [d] }
  | _ => none }
def FnExactInverseWordWrongFalsely : Prop := fnExactInverseWordRow.holds Tryd.pinned (OpenSpec.ofChange fnExactInverseWordWrong)

/-- 'laws.FnExactReduceWord': WHATEVER THE INPUT: true; the input reads as it did. -/
def fnExactReduceWordSpec : ChangeSpec := { name := "fnExactReduceWord", fn := fun _ => fun
  | [d] => { results := [.lit (.bool true)], args := [d] }
  | _ => none }
def fnExactReduceWordRow : OpenClaim := { program := "ytjcllfkkjagomaadoor", sum := "23fbd3c5f7d8dfd0b2b730fbd243d5e584d9e04388c288bbbe0ed548e09fd48e", func := "loop.example/g01200/laws.FnExactReduceWord", spec := "fnExactReduceWord", inPlace := ["internal/bytealg.IndexByteString", "internal/bytealg.IndexString"], named := ["unicode/utf8.first", "unicode/utf8.acceptRanges", "internal/bytealg.MaxLen"], apart := false, laid := [("unicode/utf8.acceptRanges", laid_unicode_utf8_acceptRanges), ("unicode/utf8.first", laid_unicode_utf8_first)] }
def FnExactReduceWordSaid : Prop := fnExactReduceWordRow.holds Tryd.pinned (OpenSpec.ofChange fnExactReduceWordSpec)

/-- ITS FALSE NEIGHBOUR: 'it returns false'. Refute it at one input. -/
def fnExactReduceWordWrong : ChangeSpec := { name := "fnExactReduceWord", fn := fun _ => fun
  | [d] => { results := [.lit (.bool false)], args := [d] }
  | _ => none }
def FnExactReduceWordWrongFalsely : Prop := fnExactReduceWordRow.holds Tryd.pinned (OpenSpec.ofChange fnExactReduceWordWrong)

/-- 'laws.FnExactWordPlaces': WHATEVER THE INPUT: true; the input reads as it did. -/
def fnExactWordPlacesSpec : ChangeSpec := { name := "fnExactWordPlaces", fn := fun _ => fun
  | [d1, d2] => { results := [.lit (.bool true)], args := [d1, d2] }
  | _ => none }
def fnExactWordPlacesRow : OpenClaim := { program := "ytjcllfkkjagomaadoor", sum := "23fbd3c5f7d8dfd0b2b730fbd243d5e584d9e04388c288bbbe0ed548e09fd48e", func := "loop.example/g01200/laws.FnExactWordPlaces", spec := "fnExactWordPlaces", inPlace := ["internal/bytealg.IndexByteString", "internal/bytealg.IndexString"], named := ["unicode/utf8.first", "unicode/utf8.acceptRanges", "internal/bytealg.MaxLen"], apart := false, laid := [("unicode/utf8.acceptRanges", laid_unicode_utf8_acceptRanges), ("unicode/utf8.first", laid_unicode_utf8_first)] }
def FnExactWordPlacesSaid : Prop := fnExactWordPlacesRow.holds Tryd.pinned (OpenSpec.ofChange fnExactWordPlacesSpec)

/-- ITS FALSE NEIGHBOUR: 'it returns false'. Refute it at one input. -/
def fnExactWordPlacesWrong : ChangeSpec := { name := "fnExactWordPlaces", fn := fun _ => fun
  | [d1, d2] => { results := [.lit (.bool false)], args := [d1, d2] }
  | _ => none }
def FnExactWordPlacesWrongFalsely : Prop := fnExactWordPlacesRow.holds Tryd.pinned (OpenSpec.ofChange fnExactWordPlacesWrong)

/-- 'laws.FnExactSatisfiesRelations': WHATEVER THE INPUT: true; the input reads as it did. -/
def fnExactSatisfiesRelationsSpec : ChangeSpec := { name := "fnExactSatisfiesRelations", fn := fun _ => fun
  | [d1, d2] => { results := [.lit (.bool true)], args := [d1, d2] }
  | _ => none }
def fnExactSatisfiesRelationsRow : OpenClaim := { program := "ytjcllfkkjagomaadoor", sum := "23fbd3c5f7d8dfd0b2b730fbd243d5e584d9e04388c288bbbe0ed548e09fd48e", func := "loop.example/g01200/laws.FnExactSatisfiesRelations", spec := "fnExactSatisfiesRelations", inPlace := ["internal/bytealg.IndexByteString", "internal/bytealg.IndexString"], named := ["unicode/utf8.first", "unicode/utf8.acceptRanges", "internal/bytealg.MaxLen"], apart := false, laid := [("unicode/utf8.acceptRanges", laid_unicode_utf8_acceptRanges), ("unicode/utf8.first", laid_unicode_utf8_first)] }
def FnExactSatisfiesRelationsSaid : Prop := fnExactSatisfiesRelationsRow.holds Tryd.pinned (OpenSpec.ofChange fnExactSatisfiesRelationsSpec)

/-- ITS FALSE NEIGHBOUR: 'it returns false'. Refute it at one input. -/
def fnExactSatisfiesRelationsWrong : ChangeSpec := { name := "fnExactSatisfiesRelations", fn := fun _ => fun
  | [d1, d2] => { results := [.lit (.bool false)], args := [d1, d2] }
  | _ => none }
def FnExactSatisfiesRelationsWrongFalsely : Prop := fnExactSatisfiesRelationsRow.holds Tryd.pinned (OpenSpec.ofChange fnExactSatisfiesRelationsWrong)

/- THE SECOND FORM. 'bulk': how many values and letters a reading holds, each counted each time it is reached (what is shared counts as often as it is met; a slice's spare places count too). A statement '..UptoSaid' is the law's where the arguments, and the package variables that the reading takes, are together of bulk at most 1048576: NARROWER than '..Said'. Prove '..Said' where nothing that the law and all that it calls make is longer than what came in: it says more and counts as full. Else prove '..UptoSaid'. A law counts once. -/
mutual
def uptoBulk {H : Type} : DataW H → Nat
  | .lit (.string bytes) => bytes.length + 1
  | .lit _ => 1
  | .nil => 1
  | .ptr d => uptoBulk d + 1
  | .slice elems spare => uptoBulkAll elems + uptoBulkAll spare + 1
  | .agg parts => uptoBulkAll parts + 1
  | .iface _ d => uptoBulk d + 1
  | .map entries => uptoBulkEntries entries + 1
  | .held _ => 1
def uptoBulkAll {H : Type} : List (DataW H) → Nat
  | [] => 0
  | d :: r => uptoBulk d + uptoBulkAll r
def uptoBulkEntries {H : Type} : List (Lit × DataW H) → Nat
  | [] => 0
  | x :: r => uptoBulkEntry x + uptoBulkEntries r
def uptoBulkEntry {H : Type} : Lit × DataW H → Nat
  | (.string bytes, d) => bytes.length + uptoBulk d + 1
  | (_, d) => uptoBulk d + 1
 end
def uptoSmall : (H : Type) → List (DataW H) → Bool := fun _ ds => decide (uptoBulkAll ds ≤ 1048576)
def OpenSpec.upto (s : _root_.Go.ChangeSpec) : _root_.Go.OpenSpec := { _root_.Go.OpenSpec.ofChange s with cond := some uptoSmall }

/-- 'laws.FnExactWalkOf', WHERE WHAT IT READS IS OF BULK AT MOST 1048576: true; the input reads as it did. -/
def fnExactWalkOfUptoRow : OpenClaim := { program := "ytjcllfkkjagomaadoor", sum := "23fbd3c5f7d8dfd0b2b730fbd243d5e584d9e04388c288bbbe0ed548e09fd48e", func := "loop.example/g01200/laws.FnExactWalkOf", spec := "fnExactWalkOf", inPlace := ["internal/bytealg.IndexByteString", "internal/bytealg.IndexString"], unfollowed := true, recurses := true, named := ["unicode/utf8.first", "unicode/utf8.acceptRanges", "internal/bytealg.MaxLen"], apart := false, laid := [("unicode/utf8.acceptRanges", laid_unicode_utf8_acceptRanges), ("unicode/utf8.first", laid_unicode_utf8_first)], narrowed := true }
def FnExactWalkOfUptoSaid : Prop := fnExactWalkOfUptoRow.holds Tryd.pinned (OpenSpec.upto fnExactWalkOfSpec)

/-- 'laws.FnExactIsWord', WHERE WHAT IT READS IS OF BULK AT MOST 1048576: true; the input reads as it did. -/
def fnExactIsWordUptoRow : OpenClaim := { program := "ytjcllfkkjagomaadoor", sum := "23fbd3c5f7d8dfd0b2b730fbd243d5e584d9e04388c288bbbe0ed548e09fd48e", func := "loop.example/g01200/laws.FnExactIsWord", spec := "fnExactIsWord", inPlace := ["internal/bytealg.IndexByteString", "internal/bytealg.IndexString"], named := ["unicode/utf8.first", "unicode/utf8.acceptRanges", "internal/bytealg.MaxLen"], apart := false, laid := [("unicode/utf8.acceptRanges", laid_unicode_utf8_acceptRanges), ("unicode/utf8.first", laid_unicode_utf8_first)], narrowed := true }
def FnExactIsWordUptoSaid : Prop := fnExactIsWordUptoRow.holds Tryd.pinned (OpenSpec.upto fnExactIsWordSpec)

/-- 'laws.FnExactInverseWord', WHERE WHAT IT READS IS OF BULK AT MOST 1048576: true; the input reads as it did. -/
def fnExactInverseWordUptoRow : OpenClaim := { program := "ytjcllfkkjagomaadoor", sum := "23fbd3c5f7d8dfd0b2b730fbd243d5e584d9e04388c288bbbe0ed548e09fd48e", func := "loop.example/g01200/laws.FnExactInverseWord", spec := "fnExactInverseWord", inPlace := ["internal/bytealg.IndexByteString", "internal/bytealg.IndexString"], named := ["unicode/utf8.first", "unicode/utf8.acceptRanges", "internal/bytealg.MaxLen"], apart := false, laid := [("unicode/utf8.acceptRanges", laid_unicode_utf8_acceptRanges), ("unicode/utf8.first", laid_unicode_utf8_first)], narrowed := true }
def FnExactInverseWordUptoSaid : Prop := fnExactInverseWordUptoRow.holds Tryd.pinned (OpenSpec.upto fnExactInverseWordSpec)

/-- 'laws.FnExactReduceWord', WHERE WHAT IT READS IS OF BULK AT MOST 1048576: true; the input reads as it did. -/
def fnExactReduceWordUptoRow : OpenClaim := { program := "ytjcllfkkjagomaadoor", sum := "23fbd3c5f7d8dfd0b2b730fbd243d5e584d9e04388c288bbbe0ed548e09fd48e", func := "loop.example/g01200/laws.FnExactReduceWord", spec := "fnExactReduceWord", inPlace := ["internal/bytealg.IndexByteString", "internal/bytealg.IndexString"], named := ["unicode/utf8.first", "unicode/utf8.acceptRanges", "internal/bytealg.MaxLen"], apart := false, laid := [("unicode/utf8.acceptRanges", laid_unicode_utf8_acceptRanges), ("unicode/utf8.first", laid_unicode_utf8_first)], narrowed := true }
def FnExactReduceWordUptoSaid : Prop := fnExactReduceWordUptoRow.holds Tryd.pinned (OpenSpec.upto fnExactReduceWordSpec)

/-- 'laws.FnExactWordPlaces', WHERE WHAT IT READS IS OF BULK AT MOST 1048576: true; the input reads as it did. -/
def fnExactWordPlacesUptoRow : OpenClaim := { program := "ytjcllfkkjagomaadoor", sum := "23fbd3c5f7d8dfd0b2b730fbd243d5e584d9e04388c288bbbe0ed548e09fd48e", func := "loop.example/g01200/laws.FnExactWordPlaces", spec := "fnExactWordPlaces", inPlace := ["internal/bytealg.IndexByteString", "internal/bytealg.IndexString"], named := ["unicode/utf8.first", "unicode/utf8.acceptRanges", "internal/bytealg.MaxLen"], apart := false, laid := [("unicode/utf8.acceptRanges", laid_unicode_utf8_acceptRanges), ("unicode/utf8.first", laid_unicode_utf8_first)], narrowed := true }
def FnExactWordPlacesUptoSaid : Prop := fnExactWordPlacesUptoRow.holds Tryd.pinned (OpenSpec.upto fnExactWordPlacesSpec)

/-- 'laws.FnExactSatisfiesRelations', WHERE WHAT IT READS IS OF BULK AT MOST 1048576: true; the input reads as it did. -/
def fnExactSatisfiesRelationsUptoRow : OpenClaim := { program := "ytjcllfkkjagomaadoor", sum := "23fbd3c5f7d8dfd0b2b730fbd243d5e584d9e04388c288bbbe0ed548e09fd48e", func := "loop.example/g01200/laws.FnExactSatisfiesRelations", spec := "fnExactSatisfiesRelations", inPlace := ["internal/bytealg.IndexByteString", "internal/bytealg.IndexString"], named := ["unicode/utf8.first", "unicode/utf8.acceptRanges", "internal/bytealg.MaxLen"], apart := false, laid := [("unicode/utf8.acceptRanges", laid_unicode_utf8_acceptRanges), ("unicode/utf8.first", laid_unicode_utf8_first)], narrowed := true }
def FnExactSatisfiesRelationsUptoSaid : Prop := fnExactSatisfiesRelationsUptoRow.holds Tryd.pinned (OpenSpec.upto fnExactSatisfiesRelationsSpec)

end Rows
end Go.Proofs.YtjcllfkkjagomaaDoor
