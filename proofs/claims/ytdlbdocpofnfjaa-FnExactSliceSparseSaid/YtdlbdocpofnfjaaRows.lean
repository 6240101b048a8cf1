/-
  No cell of these rows narrows 'for every input' (looked for: loops, veiled, ifaces, maps, wideKeys, modest, calm, conditions, laid).
  DERIVED. THE GIVEN ROWS OF THIS SEAT. 13 by the template 'for every input the law returns true; each argument reads behind the call as it read before'; 0 by the template 'total and deterministic' (their statements: YtdlbdocpofnfjaaTotals.lean).
  GIVEN WITH THE SEED: the statements are not yours to turn. If you find one false, say at which input.
  Laid BY PROGRAM, IN A SANDBOX (cutbox-rows.mjs): the forced cells as the released guide's own fill.sh prints them over the translation eebf8bc329e19f22… (all of the seat's roots in one cut). By AI agents, Wed Nov 11 2026. No macro, syntax, notation, axiom, sorry.
-/
import Derived.Test.YtdlbdocpofnfjaaChecked
import GoSem.Claim
import GoSem.ClaimJoined
import GoSem.ClaimMapViews
import Derived.JoinedTies
import Derived.KernelRfl
namespace Go.Proofs.Ytdlbdocpofnfjaa
/- THE CELL 'sum', in the pinned program and in every row, IS THE sha256 OF THE DUMP (.gsa) THAT YtdlbdocpofnfjaaProg.lean LOADS. Nothing in Lean hashes anything: it is a label: what it is worth is what the hold of that sum in a sandbox is worth. -/
noncomputable def Try.pinned : Pinned := { name := "ytdlbdocpofnfjaa", sum := "eebf8bc329e19f229e0fdee4f567b3c7204a7dbbcf7377836ab2c0a3504041a3", checked := Try.checked }
namespace Rows
def none {H : Type} : Left H := { results := [], args := [] }

/-- 'laws.FnExactBuildSparse': WHATEVER THE INPUT: true; the input reads as it did. -/
def fnExactBuildSparseSpec : ChangeSpec := { name := "fnExactBuildSparse", fn := fun _ => fun
  | [d1, d2] => { results := [.lit (.bool true)], args := [d1, d2] }
  | _ => none }
def fnExactBuildSparseRow : OpenClaim := { program := "ytdlbdocpofnfjaa", sum := "eebf8bc329e19f229e0fdee4f567b3c7204a7dbbcf7377836ab2c0a3504041a3", func := "loop.example/g01097/laws.FnExactBuildSparse", spec := "fnExactBuildSparse", apart := false }
def FnExactBuildSparseSaid : Prop := fnExactBuildSparseRow.holds Try.pinned (OpenSpec.ofChange fnExactBuildSparseSpec)

/-- ITS FALSE NEIGHBOUR: 'it returns false'. Refute it at one input. -/
def fnExactBuildSparseWrong : ChangeSpec := { name := "fnExactBuildSparse", fn := fun _ => fun
  | [d1, d2] => { results := [.lit (.bool false)], args := [d1, d2] }
  | _ => none }
def FnExactBuildSparseWrongFalsely : Prop := fnExactBuildSparseRow.holds Try.pinned (OpenSpec.ofChange fnExactBuildSparseWrong)

/-- 'laws.FnExactIsSparse': WHATEVER THE INPUT: true; the input reads as it did. -/
def fnExactIsSparseSpec : ChangeSpec := { name := "fnExactIsSparse", fn := fun _ => fun
  | [d] => { results := [.lit (.bool true)], args := [d] }
  | _ => none }
def fnExactIsSparseRow : OpenClaim := { program := "ytdlbdocpofnfjaa", sum := "eebf8bc329e19f229e0fdee4f567b3c7204a7dbbcf7377836ab2c0a3504041a3", func := "loop.example/g01097/laws.FnExactIsSparse", spec := "fnExactIsSparse", apart := false }
def FnExactIsSparseSaid : Prop := fnExactIsSparseRow.holds Try.pinned (OpenSpec.ofChange fnExactIsSparseSpec)

/-- ITS FALSE NEIGHBOUR: 'it returns false'. Refute it at one input. -/
def fnExactIsSparseWrong : ChangeSpec := { name := "fnExactIsSparse", fn := fun _ => fun
  | [d] => { results := [.lit (.bool false)], args := [d] }
  | _ => none }
def FnExactIsSparseWrongFalsely : Prop := fnExactIsSparseRow.holds Try.pinned (OpenSpec.ofChange fnExactIsSparseWrong)

/-- 'laws.FnExactSparseAt': WHATEVER THE INPUT: true; the input reads as it did. -/
def fnExactSparseAtSpec : ChangeSpec := { name := "fnExactSparseAt", fn := fun _ => fun
  | [d1, d2] => { results := [.lit (.bool true)], args := [d1, d2] }
  | _ => none }
def fnExactSparseAtRow : OpenClaim := { program := "ytdlbdocpofnfjaa", sum := "eebf8bc329e19f229e0fdee4f567b3c7204a7dbbcf7377836ab2c0a3504041a3", func := "loop.example/g01097/laws.FnExactSparseAt", spec := "fnExactSparseAt", apart := false }
def FnExactSparseAtSaid : Prop := fnExactSparseAtRow.holds Try.pinned (OpenSpec.ofChange fnExactSparseAtSpec)

/-- ITS FALSE NEIGHBOUR: 'it returns false'. Refute it at one input. -/
def fnExactSparseAtWrong : ChangeSpec := { name := "fnExactSparseAt", fn := fun _ => fun
  | [d1, d2] => { results := [.lit (.bool false)], args := [d1, d2] }
  | _ => none }
def FnExactSparseAtWrongFalsely : Prop := fnExactSparseAtRow.holds Try.pinned (OpenSpec.ofChange fnExactSparseAtWrong)

/-- 'laws.FnExactSparseBits': WHATEVER THE INPUT: true; the input reads as it did. -/
def fnExactSparseBitsSpec : ChangeSpec := { name := "fnExactSparseBits", fn := fun _ => fun
  | [d] => { results := [.lit (.bool true)], args := [d] }
  | _ => none }
def fnExactSparseBitsRow : OpenClaim := { program := "ytdlbdocpofnfjaa", sum := "eebf8bc329e19f229e0fdee4f567b3c7204a7dbbcf7377836ab2c0a3504041a3", func := "loop.example/g01097/laws.FnExactSparseBits", spec := "fnExactSparseBits", apart := false }
def FnExactSparseBitsSaid : Prop := fnExactSparseBitsRow.holds Try.pinned (OpenSpec.ofChange fnExactSparseBitsSpec)

/-- ITS FALSE NEIGHBOUR: 'it returns false'. Refute it at one input. -/
def fnExactSparseBitsWrong : ChangeSpec := { name := "fnExactSparseBits", fn := fun _ => fun
  | [d] => { results := [.lit (.bool false)], args := [d] }
  | _ => none }
def FnExactSparseBitsWrongFalsely : Prop := fnExactSparseBitsRow.holds Try.pinned (OpenSpec.ofChange fnExactSparseBitsWrong)

/-- 'laws.FnExactSparseList': WHATEVER THE INPUT: true; the input reads as it did. -/
def fnExactSparseListSpec : ChangeSpec := { name := "fnExactSparseList", fn := fun _ => fun
  | [d] => { results := [.lit (.bool true)], args := [d] }
  | _ => none }
def fnExactSparseListRow : OpenClaim := { program := "ytdlbdocpofnfjaa", sum := "eebf8bc329e19f229e0fdee4f567b3c7204a7dbbcf7377836ab2c0a3504041a3", func := "loop.example/g01097/laws.FnExactSparseList", spec := "fnExactSparseList", apart := false }
def FnExactSparseListSaid : Prop := fnExactSparseListRow.holds Try.pinned (OpenSpec.ofChange fnExactSparseListSpec)

/-- ITS FALSE NEIGHBOUR: 'it returns false'. Refute it at one input. -/
def fnExactSparseListWrong : ChangeSpec := { name := "fnExactSparseList", fn := fun _ => fun
  | [d] => { results := [.lit (.bool false)], args := [d] }
  | _ => none }
def FnExactSparseListWrongFalsely : Prop := fnExactSparseListRow.holds Try.pinned (OpenSpec.ofChange fnExactSparseListWrong)

/-- 'laws.FnExactHasNumber': WHATEVER THE INPUT: true; the input reads as it did. -/
def fnExactHasNumberSpec : ChangeSpec := { name := "fnExactHasNumber", fn := fun _ => fun
  | [d1, d2] => { results := [.lit (.bool true)], args := [d1, d2] }
  | _ => none }
def fnExactHasNumberRow : OpenClaim := { program := "ytdlbdocpofnfjaa", sum := "eebf8bc329e19f229e0fdee4f567b3c7204a7dbbcf7377836ab2c0a3504041a3", func := "loop.example/g01097/laws.FnExactHasNumber", spec := "fnExactHasNumber", apart := false }
def FnExactHasNumberSaid : Prop := fnExactHasNumberRow.holds Try.pinned (OpenSpec.ofChange fnExactHasNumberSpec)

/-- ITS FALSE NEIGHBOUR: 'it returns false'. Refute it at one input. -/
def fnExactHasNumberWrong : ChangeSpec := { name := "fnExactHasNumber", fn := fun _ => fun
  | [d1, d2] => { results := [.lit (.bool false)], args := [d1, d2] }
  | _ => none }
def FnExactHasNumberWrongFalsely : Prop := fnExactHasNumberRow.holds Try.pinned (OpenSpec.ofChange fnExactHasNumberWrong)

/-- 'laws.FnExactCountBelow': WHATEVER THE INPUT: true; the input reads as it did. -/
def fnExactCountBelowSpec : ChangeSpec := { name := "fnExactCountBelow", fn := fun _ => fun
  | [d1, d2] => { results := [.lit (.bool true)], args := [d1, d2] }
  | _ => none }
def fnExactCountBelowRow : OpenClaim := { program := "ytdlbdocpofnfjaa", sum := "eebf8bc329e19f229e0fdee4f567b3c7204a7dbbcf7377836ab2c0a3504041a3", func := "loop.example/g01097/laws.FnExactCountBelow", spec := "fnExactCountBelow", apart := false }
def FnExactCountBelowSaid : Prop := fnExactCountBelowRow.holds Try.pinned (OpenSpec.ofChange fnExactCountBelowSpec)

/-- ITS FALSE NEIGHBOUR: 'it returns false'. Refute it at one input. -/
def fnExactCountBelowWrong : ChangeSpec := { name := "fnExactCountBelow", fn := fun _ => fun
  | [d1, d2] => { results := [.lit (.bool false)], args := [d1, d2] }
  | _ => none }
def FnExactCountBelowWrongFalsely : Prop := fnExactCountBelowRow.holds Try.pinned (OpenSpec.ofChange fnExactCountBelowWrong)

/-- 'laws.FnExactFirstAtLeast': WHATEVER THE INPUT: true; the input reads as it did. -/
def fnExactFirstAtLeastSpec : ChangeSpec := { name := "fnExactFirstAtLeast", fn := fun _ => fun
  | [d1, d2] => { results := [.lit (.bool true)], args := [d1, d2] }
  | _ => none }
def fnExactFirstAtLeastRow : OpenClaim := { program := "ytdlbdocpofnfjaa", sum := "eebf8bc329e19f229e0fdee4f567b3c7204a7dbbcf7377836ab2c0a3504041a3", func := "loop.example/g01097/laws.FnExactFirstAtLeast", spec := "fnExactFirstAtLeast", apart := false }
def FnExactFirstAtLeastSaid : Prop := fnExactFirstAtLeastRow.holds Try.pinned (OpenSpec.ofChange fnExactFirstAtLeastSpec)

/-- ITS FALSE NEIGHBOUR: 'it returns false'. Refute it at one input. -/
def fnExactFirstAtLeastWrong : ChangeSpec := { name := "fnExactFirstAtLeast", fn := fun _ => fun
  | [d1, d2] => { results := [.lit (.bool false)], args := [d1, d2] }
  | _ => none }
def FnExactFirstAtLeastWrongFalsely : Prop := fnExactFirstAtLeastRow.holds Try.pinned (OpenSpec.ofChange fnExactFirstAtLeastWrong)

/-- 'laws.FnExactLastAtMost': WHATEVER THE INPUT: true; the input reads as it did. -/
def fnExactLastAtMostSpec : ChangeSpec := { name := "fnExactLastAtMost", fn := fun _ => fun
  | [d1, d2] => { results := [.lit (.bool true)], args := [d1, d2] }
  | _ => none }
def fnExactLastAtMostRow : OpenClaim := { program := "ytdlbdocpofnfjaa", sum := "eebf8bc329e19f229e0fdee4f567b3c7204a7dbbcf7377836ab2c0a3504041a3", func := "loop.example/g01097/laws.FnExactLastAtMost", spec := "fnExactLastAtMost", apart := false }
def FnExactLastAtMostSaid : Prop := fnExactLastAtMostRow.holds Try.pinned (OpenSpec.ofChange fnExactLastAtMostSpec)

/-- ITS FALSE NEIGHBOUR: 'it returns false'. Refute it at one input. -/
def fnExactLastAtMostWrong : ChangeSpec := { name := "fnExactLastAtMost", fn := fun _ => fun
  | [d1, d2] => { results := [.lit (.bool false)], args := [d1, d2] }
  | _ => none }
def FnExactLastAtMostWrongFalsely : Prop := fnExactLastAtMostRow.holds Try.pinned (OpenSpec.ofChange fnExactLastAtMostWrong)

/-- 'laws.FnExactSliceSparse': WHATEVER THE INPUT: true; the input reads as it did. -/
def fnExactSliceSparseSpec : ChangeSpec := { name := "fnExactSliceSparse", fn := fun _ => fun
  | [d1, d2, d3] => { results := [.lit (.bool true)], args := [d1, d2, d3] }
  | _ => none }
def fnExactSliceSparseRow : OpenClaim := { program := "ytdlbdocpofnfjaa", sum := "eebf8bc329e19f229e0fdee4f567b3c7204a7dbbcf7377836ab2c0a3504041a3", func := "loop.example/g01097/laws.FnExactSliceSparse", spec := "fnExactSliceSparse", apart := false }
def FnExactSliceSparseSaid : Prop := fnExactSliceSparseRow.holds Try.pinned (OpenSpec.ofChange fnExactSliceSparseSpec)

/-- ITS FALSE NEIGHBOUR: 'it returns false'. Refute it at one input. -/
def fnExactSliceSparseWrong : ChangeSpec := { name := "fnExactSliceSparse", fn := fun _ => fun
  | [d1, d2, d3] => { results := [.lit (.bool false)], args := [d1, d2, d3] }
  | _ => none }
def FnExactSliceSparseWrongFalsely : Prop := fnExactSliceSparseRow.holds Try.pinned (OpenSpec.ofChange fnExactSliceSparseWrong)

/-- 'laws.FnExactMeetSparse': WHATEVER THE INPUT: true; the input reads as it did. -/
def fnExactMeetSparseSpec : ChangeSpec := { name := "fnExactMeetSparse", fn := fun _ => fun
  | [d1, d2] => { results := [.lit (.bool true)], args := [d1, d2] }
  | _ => none }
def fnExactMeetSparseRow : OpenClaim := { program := "ytdlbdocpofnfjaa", sum := "eebf8bc329e19f229e0fdee4f567b3c7204a7dbbcf7377836ab2c0a3504041a3", func := "loop.example/g01097/laws.FnExactMeetSparse", spec := "fnExactMeetSparse", unfollowed := true, recurses := true, apart := false }
def FnExactMeetSparseSaid : Prop := fnExactMeetSparseRow.holds Try.pinned (OpenSpec.ofChange fnExactMeetSparseSpec)

/-- ITS FALSE NEIGHBOUR: 'it returns false'. Refute it at one input. -/
def fnExactMeetSparseWrong : ChangeSpec := { name := "fnExactMeetSparse", fn := fun _ => fun
  | [d1, d2] => { results := [.lit (.bool false)], args := [d1, d2] }
  | _ => none }
def FnExactMeetSparseWrongFalsely : Prop := fnExactMeetSparseRow.holds Try.pinned (OpenSpec.ofChange fnExactMeetSparseWrong)

/-- 'laws.FnExactMergeSparse': WHATEVER THE INPUT: true; the input reads as it did. -/
def fnExactMergeSparseSpec : ChangeSpec := { name := "fnExactMergeSparse", fn := fun _ => fun
  | [d1, d2] => { results := [.lit (.bool true)], args := [d1, d2] }
  | _ => none }
def fnExactMergeSparseRow : OpenClaim := { program := "ytdlbdocpofnfjaa", sum := "eebf8bc329e19f229e0fdee4f567b3c7204a7dbbcf7377836ab2c0a3504041a3", func := "loop.example/g01097/laws.FnExactMergeSparse", spec := "fnExactMergeSparse", recurses := true, apart := false }
def FnExactMergeSparseSaid : Prop := fnExactMergeSparseRow.holds Try.pinned (OpenSpec.ofChange fnExactMergeSparseSpec)

/-- ITS FALSE NEIGHBOUR: 'it returns false'. Refute it at one input. -/
def fnExactMergeSparseWrong : ChangeSpec := { name := "fnExactMergeSparse", fn := fun _ => fun
  | [d1, d2] => { results := [.lit (.bool false)], args := [d1, d2] }
  | _ => none }
def FnExactMergeSparseWrongFalsely : Prop := fnExactMergeSparseRow.holds Try.pinned (OpenSpec.ofChange fnExactMergeSparseWrong)

/-- 'laws.FnSparseIsItsList': WHATEVER THE INPUT: true; the input reads as it did. -/
def fnSparseIsItsListSpec : ChangeSpec := { name := "fnSparseIsItsList", fn := fun _ => fun
  | [d1, d2] => { results := [.lit (.bool true)], args := [d1, d2] }
  | _ => none }
def fnSparseIsItsListRow : OpenClaim := { program := "ytdlbdocpofnfjaa", sum := "eebf8bc329e19f229e0fdee4f567b3c7204a7dbbcf7377836ab2c0a3504041a3", func := "loop.example/g01097/laws.FnSparseIsItsList", spec := "fnSparseIsItsList", apart := false }
def FnSparseIsItsListSaid : Prop := fnSparseIsItsListRow.holds Try.pinned (OpenSpec.ofChange fnSparseIsItsListSpec)

/-- ITS FALSE NEIGHBOUR: 'it returns false'. Refute it at one input. -/
def fnSparseIsItsListWrong : ChangeSpec := { name := "fnSparseIsItsList", fn := fun _ => fun
  | [d1, d2] => { results := [.lit (.bool false)], args := [d1, d2] }
  | _ => none }
def FnSparseIsItsListWrongFalsely : Prop := fnSparseIsItsListRow.holds Try.pinned (OpenSpec.ofChange fnSparseIsItsListWrong)

/- THE SECOND FORM. 'bulk': how many values and letters a reading holds, each counted each time it is reached (what is shared counts as often as it is met; a slice's spare places count too). A statement '..UptoSaid' is the law's where the arguments, and the package variables that the reading takes, are together of bulk at most 1048576: NARROWER than '..Said'. Prove '..Said' where nothing that the law and all that it calls make is longer than what came in: it says more and counts as full. Else prove '..UptoSaid'. A law counts once. -/
mutual
def uptoBulk {H : Type} : DataW H → Nat
  | .lit (.string bytes) => bytes.length + 1
  | .lit _ => 1
  | .nil => 1
  | .ptr d => uptoBulk d + 1
  | .slice elems spare => uptoBulkAll elems + uptoBulkAll spare + 1
  | .agg parts => uptoBulkAll parts + 1
  | .iface _ d => uptoBulk d + 1
  | .map entries => uptoBulkEntries entries + 1
  | .held _ => 1
def uptoBulkAll {H : Type} : List (DataW H) → Nat
  | [] => 0
  | d :: r => uptoBulk d + uptoBulkAll r
def uptoBulkEntries {H : Type} : List (Lit × DataW H) → Nat
  | [] => 0
  | x :: r => uptoBulkEntry x + uptoBulkEntries r
def uptoBulkEntry {H : Type} : Lit × DataW H → Nat
  | (.string bytes, d) => bytes.length + uptoBulk d + 1
  | (_, d) => uptoBulk d + 1
 end
def uptoSmall : (H : Type) → List (DataW H) → Bool := fun _ ds => decide (uptoBulkAll ds ≤ 1048576)
def OpenSpec.upto (s : _root_.Go.ChangeSpec) : _root_.Go.OpenSpec := { _root_.Go.OpenSpec.ofChange s with cond := some uptoSmall }

/-- 'laws.FnExactBuildSparse', WHERE WHAT IT READS IS OF BULK AT MOST 1048576: true; the input reads as it did. -/
def fnExactBuildSparseUptoRow : OpenClaim := { program := "ytdlbdocpofnfjaa", sum := "eebf8bc329e19f229e0fdee4f567b3c7204a7dbbcf7377836ab2c0a3504041a3", func := "loop.example/g01097/laws.FnExactBuildSparse", spec := "fnExactBuildSparse", apart := false, narrowed := true }
def FnExactBuildSparseUptoSaid : Prop := fnExactBuildSparseUptoRow.holds Try.pinned (OpenSpec.upto fnExactBuildSparseSpec)

/-- 'laws.FnExactIsSparse', WHERE WHAT IT READS IS OF BULK AT MOST 1048576: true; the input reads as it did. -/
def fnExactIsSparseUptoRow : OpenClaim := { program := "ytdlbdocpofnfjaa", sum := "eebf8bc329e19f229e0fdee4f567b3c7204a7dbbcf7377836ab2c0a3504041a3", func := "loop.example/g01097/laws.FnExactIsSparse", spec := "fnExactIsSparse", apart := false, narrowed := true }
def FnExactIsSparseUptoSaid : Prop := fnExactIsSparseUptoRow.holds Try.pinned (OpenSpec.upto fnExactIsSparseSpec)

/-- 'laws.FnExactSparseAt', WHERE WHAT IT READS IS OF BULK AT MOST 1048576: true; the input reads as it did. -/
def fnExactSparseAtUptoRow : OpenClaim := { program := "ytdlbdocpofnfjaa", sum := "eebf8bc329e19f229e0fdee4f567b3c7204a7dbbcf7377836ab2c0a3504041a3", func := "loop.example/g01097/laws.FnExactSparseAt", spec := "fnExactSparseAt", apart := false, narrowed := true }
def FnExactSparseAtUptoSaid : Prop := fnExactSparseAtUptoRow.holds Try.pinned (OpenSpec.upto fnExactSparseAtSpec)

/-- 'laws.FnExactSparseBits', WHERE WHAT IT READS IS OF BULK AT MOST 1048576: true; the input reads as it did. -/
def fnExactSparseBitsUptoRow : OpenClaim := { program := "ytdlbdocpofnfjaa", sum := "eebf8bc329e19f229e0fdee4f567b3c7204a7dbbcf7377836ab2c0a3504041a3", func := "loop.example/g01097/laws.FnExactSparseBits", spec := "fnExactSparseBits", apart := false, narrowed := true }
def FnExactSparseBitsUptoSaid : Prop := fnExactSparseBitsUptoRow.holds Try.pinned (OpenSpec.upto fnExactSparseBitsSpec)

/-- 'laws.FnExactSparseList', WHERE WHAT IT READS IS OF BULK AT MOST 1048576: true; the input reads as it did. -/
def fnExactSparseListUptoRow : OpenClaim := { program := "ytdlbdocpofnfjaa", sum := "eebf8bc329e19f229e0fdee4f567b3c7204a7dbbcf7377836ab2c0a3504041a3", func := "loop.example/g01097/laws.FnExactSparseList", spec := "fnExactSparseList", apart := false, narrowed := true }
def FnExactSparseListUptoSaid : Prop := fnExactSparseListUptoRow.holds Try.pinned (OpenSpec.upto fnExactSparseListSpec)

/-- 'laws.FnExactHasNumber', WHERE WHAT IT READS IS OF BULK AT MOST 1048576: true; the input reads as it did. -/
def fnExactHasNumberUptoRow : OpenClaim := { program := "ytdlbdocpofnfjaa", sum := "eebf8bc329e19f229e0fdee4f567b3c7204a7dbbcf7377836ab2c0a3504041a3", func := "loop.example/g01097/laws.FnExactHasNumber", spec := "fnExactHasNumber", apart := false, narrowed := true }
def FnExactHasNumberUptoSaid : Prop := fnExactHasNumberUptoRow.holds Try.pinned (OpenSpec.upto fnExactHasNumberSpec)

/-- 'laws.FnExactCountBelow', WHERE WHAT IT READS IS OF BULK AT MOST 1048576: true; the input reads as it did. -/
def fnExactCountBelowUptoRow : OpenClaim := { program := "ytdlbdocpofnfjaa", sum := "eebf8bc329e19f229e0fdee4f567b3c7204a7dbbcf7377836ab2c0a3504041a3", func := "loop.example/g01097/laws.FnExactCountBelow", spec := "fnExactCountBelow", apart := false, narrowed := true }
def FnExactCountBelowUptoSaid : Prop := fnExactCountBelowUptoRow.holds Try.pinned (OpenSpec.upto fnExactCountBelowSpec)

/-- 'laws.FnExactFirstAtLeast', WHERE WHAT IT READS IS OF BULK AT MOST 1048576: true; the input reads as it did. -/
def fnExactFirstAtLeastUptoRow : OpenClaim := { program := "ytdlbdocpofnfjaa", sum := "eebf8bc329e19f229e0fdee4f567b3c7204a7dbbcf7377836ab2c0a3504041a3", func := "loop.example/g01097/laws.FnExactFirstAtLeast", spec := "fnExactFirstAtLeast", apart := false, narrowed := true }
def FnExactFirstAtLeastUptoSaid : Prop := fnExactFirstAtLeastUptoRow.holds Try.pinned (OpenSpec.upto fnExactFirstAtLeastSpec)

/-- 'laws.FnExactLastAtMost', WHERE WHAT IT READS IS OF BULK AT MOST 1048576: true; the input reads as it did. -/
def fnExactLastAtMostUptoRow : OpenClaim := { program := "ytdlbdocpofnfjaa", sum := "eebf8bc329e19f229e0fdee4f567b3c7204a7dbbcf7377836ab2c0a3504041a3", func := "loop.example/g01097/laws.FnExactLastAtMost", spec := "fnExactLastAtMost", apart := false, narrowed := true }
def FnExactLastAtMostUptoSaid : Prop := fnExactLastAtMostUptoRow.holds Try.pinned (OpenSpec.upto fnExactLastAtMostSpec)

/-- 'laws.FnExactSliceSparse', WHERE WHAT IT READS IS OF BULK AT MOST 1048576: true; the input reads as it did. -/
def fnExactSliceSparseUptoRow : OpenClaim := { program := "ytdlbdocpofnfjaa", sum := "eebf8bc329e19f229e0fdee4f567b3c7204a7dbbcf7377836ab2c0a3504041a3", func := "loop.example/g01097/laws.FnExactSliceSparse", spec := "fnExactSliceSparse", apart := false, narrowed := true }
def FnExactSliceSparseUptoSaid : Prop := fnExactSliceSparseUptoRow.holds Try.pinned (OpenSpec.upto fnExactSliceSparseSpec)

/-- 'laws.FnExactMeetSparse', WHERE WHAT IT READS IS OF BULK AT MOST 1048576: true; the input reads as it did. -/
def fnExactMeetSparseUptoRow : OpenClaim := { program := "ytdlbdocpofnfjaa", sum := "eebf8bc329e19f229e0fdee4f567b3c7204a7dbbcf7377836ab2c0a3504041a3", func := "loop.example/g01097/laws.FnExactMeetSparse", spec := "fnExactMeetSparse", unfollowed := true, recurses := true, apart := false, narrowed := true }
def FnExactMeetSparseUptoSaid : Prop := fnExactMeetSparseUptoRow.holds Try.pinned (OpenSpec.upto fnExactMeetSparseSpec)

/-- 'laws.FnExactMergeSparse', WHERE WHAT IT READS IS OF BULK AT MOST 1048576: true; the input reads as it did. -/
def fnExactMergeSparseUptoRow : OpenClaim := { program := "ytdlbdocpofnfjaa", sum := "eebf8bc329e19f229e0fdee4f567b3c7204a7dbbcf7377836ab2c0a3504041a3", func := "loop.example/g01097/laws.FnExactMergeSparse", spec := "fnExactMergeSparse", recurses := true, apart := false, narrowed := true }
def FnExactMergeSparseUptoSaid : Prop := fnExactMergeSparseUptoRow.holds Try.pinned (OpenSpec.upto fnExactMergeSparseSpec)

/-- 'laws.FnSparseIsItsList', WHERE WHAT IT READS IS OF BULK AT MOST 1048576: true; the input reads as it did. -/
def fnSparseIsItsListUptoRow : OpenClaim := { program := "ytdlbdocpofnfjaa", sum := "eebf8bc329e19f229e0fdee4f567b3c7204a7dbbcf7377836ab2c0a3504041a3", func := "loop.example/g01097/laws.FnSparseIsItsList", spec := "fnSparseIsItsList", apart := false, narrowed := true }
def FnSparseIsItsListUptoSaid : Prop := fnSparseIsItsListUptoRow.holds Try.pinned (OpenSpec.upto fnSparseIsItsListSpec)

end Rows
end Go.Proofs.Ytdlbdocpofnfjaa
