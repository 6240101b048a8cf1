/-
  No cell of these rows narrows 'for every input' (looked for: loops, veiled, ifaces, maps, wideKeys, modest, calm, conditions, laid).
  DERIVED. THE GIVEN ROWS OF THIS SEAT. 12 by the template 'for every input the law returns true; each argument reads behind the call as it read before'; 0 by the template 'total and deterministic' (their statements: YtioncjcmfbndmaaTotals.lean).
  GIVEN WITH THE SEED: the statements are not yours to turn. If you find one false, say at which input.
  Laid BY PROGRAM, IN A SANDBOX (cutbox-rows.mjs): the forced cells as the released guide's own fill.sh prints them over the translation d9da7c8d345d454f… (all of the seat's roots in one cut). By AI agents, Wed Nov 11 2026. No macro, syntax, notation, axiom, sorry.
-/
import Derived.Test.YtioncjcmfbndmaaChecked
import GoSem.Claim
import GoSem.ClaimJoined
import GoSem.ClaimMapViews
import Derived.JoinedTies
import Derived.KernelRfl
namespace Go.Proofs.Ytioncjcmfbndmaa
/- THE CELL 'sum', in the pinned program and in every row, IS THE sha256 OF THE DUMP (.gsa) THAT YtioncjcmfbndmaaProg.lean LOADS. Nothing in Lean hashes anything: it is a label: what it is worth is what the hold of that sum in a sandbox is worth. -/
noncomputable def Try.pinned : Pinned := { name := "ytioncjcmfbndmaa", sum := "d9da7c8d345d454f6adfaf1f19fbe6b84426985c7ebe5f6c8a3e3753c4a111fb", checked := Try.checked }
namespace Rows
def none {H : Type} : Left H := { results := [], args := [] }

/-- 'laws.FnExactSlotOf': WHATEVER THE INPUT: true; the input reads as it did. -/
def fnExactSlotOfSpec : ChangeSpec := { name := "fnExactSlotOf", fn := fun _ => fun
  | [d1, d2] => { results := [.lit (.bool true)], args := [d1, d2] }
  | _ => none }
def fnExactSlotOfRow : OpenClaim := { program := "ytioncjcmfbndmaa", sum := "d9da7c8d345d454f6adfaf1f19fbe6b84426985c7ebe5f6c8a3e3753c4a111fb", func := "loop.example/g01097/laws.FnExactSlotOf", spec := "fnExactSlotOf", unfollowed := true, recurses := true, apart := false }
def FnExactSlotOfSaid : Prop := fnExactSlotOfRow.holds Try.pinned (OpenSpec.ofChange fnExactSlotOfSpec)

/-- ITS FALSE NEIGHBOUR: 'it returns false'. Refute it at one input. -/
def fnExactSlotOfWrong : ChangeSpec := { name := "fnExactSlotOf", fn := fun _ => fun
  | [d1, d2] => { results := [.lit (.bool false)], args := [d1, d2] }
  | _ => none }
def FnExactSlotOfWrongFalsely : Prop := fnExactSlotOfRow.holds Try.pinned (OpenSpec.ofChange fnExactSlotOfWrong)

/-- 'laws.FnExactUnpackMarks': WHATEVER THE INPUT: true; the input reads as it did. -/
def fnExactUnpackMarksSpec : ChangeSpec := { name := "fnExactUnpackMarks", fn := fun _ => fun
  | [d1, d2, d3] => { results := [.lit (.bool true)], args := [d1, d2, d3] }
  | _ => none }
def fnExactUnpackMarksRow : OpenClaim := { program := "ytioncjcmfbndmaa", sum := "d9da7c8d345d454f6adfaf1f19fbe6b84426985c7ebe5f6c8a3e3753c4a111fb", func := "loop.example/g01097/laws.FnExactUnpackMarks", spec := "fnExactUnpackMarks", apart := false }
def FnExactUnpackMarksSaid : Prop := fnExactUnpackMarksRow.holds Try.pinned (OpenSpec.ofChange fnExactUnpackMarksSpec)

/-- ITS FALSE NEIGHBOUR: 'it returns false'. Refute it at one input. -/
def fnExactUnpackMarksWrong : ChangeSpec := { name := "fnExactUnpackMarks", fn := fun _ => fun
  | [d1, d2, d3] => { results := [.lit (.bool false)], args := [d1, d2, d3] }
  | _ => none }
def FnExactUnpackMarksWrongFalsely : Prop := fnExactUnpackMarksRow.holds Try.pinned (OpenSpec.ofChange fnExactUnpackMarksWrong)

/-- 'laws.FnExactPlainSeed': WHATEVER THE INPUT: true; the input reads as it did. -/
def fnExactPlainSeedSpec : ChangeSpec := { name := "fnExactPlainSeed", fn := fun _ => fun
  | [d1, d2, d3, d4] => { results := [.lit (.bool true)], args := [d1, d2, d3, d4] }
  | _ => none }
def fnExactPlainSeedRow : OpenClaim := { program := "ytioncjcmfbndmaa", sum := "d9da7c8d345d454f6adfaf1f19fbe6b84426985c7ebe5f6c8a3e3753c4a111fb", func := "loop.example/g01097/laws.FnExactPlainSeed", spec := "fnExactPlainSeed", unfollowed := true, recurses := true, apart := false }
def FnExactPlainSeedSaid : Prop := fnExactPlainSeedRow.holds Try.pinned (OpenSpec.ofChange fnExactPlainSeedSpec)

/-- ITS FALSE NEIGHBOUR: 'it returns false'. Refute it at one input. -/
def fnExactPlainSeedWrong : ChangeSpec := { name := "fnExactPlainSeed", fn := fun _ => fun
  | [d1, d2, d3, d4] => { results := [.lit (.bool false)], args := [d1, d2, d3, d4] }
  | _ => none }
def FnExactPlainSeedWrongFalsely : Prop := fnExactPlainSeedRow.holds Try.pinned (OpenSpec.ofChange fnExactPlainSeedWrong)

/-- 'laws.FnExactPeeledPlace': WHATEVER THE INPUT: true; the input reads as it did. -/
def fnExactPeeledPlaceSpec : ChangeSpec := { name := "fnExactPeeledPlace", fn := fun _ => fun
  | [d1, d2] => { results := [.lit (.bool true)], args := [d1, d2] }
  | _ => none }
def fnExactPeeledPlaceRow : OpenClaim := { program := "ytioncjcmfbndmaa", sum := "d9da7c8d345d454f6adfaf1f19fbe6b84426985c7ebe5f6c8a3e3753c4a111fb", func := "loop.example/g01097/laws.FnExactPeeledPlace", spec := "fnExactPeeledPlace", unfollowed := true, recurses := true, apart := false }
def FnExactPeeledPlaceSaid : Prop := fnExactPeeledPlaceRow.holds Try.pinned (OpenSpec.ofChange fnExactPeeledPlaceSpec)

/-- ITS FALSE NEIGHBOUR: 'it returns false'. Refute it at one input. -/
def fnExactPeeledPlaceWrong : ChangeSpec := { name := "fnExactPeeledPlace", fn := fun _ => fun
  | [d1, d2] => { results := [.lit (.bool false)], args := [d1, d2] }
  | _ => none }
def FnExactPeeledPlaceWrongFalsely : Prop := fnExactPeeledPlaceRow.holds Try.pinned (OpenSpec.ofChange fnExactPeeledPlaceWrong)

/-- 'laws.FnExactLoadsOf': WHATEVER THE INPUT: true; the input reads as it did. -/
def fnExactLoadsOfSpec : ChangeSpec := { name := "fnExactLoadsOf", fn := fun _ => fun
  | [d1, d2, d3, d4] => { results := [.lit (.bool true)], args := [d1, d2, d3, d4] }
  | _ => none }
def fnExactLoadsOfRow : OpenClaim := { program := "ytioncjcmfbndmaa", sum := "d9da7c8d345d454f6adfaf1f19fbe6b84426985c7ebe5f6c8a3e3753c4a111fb", func := "loop.example/g01097/laws.FnExactLoadsOf", spec := "fnExactLoadsOf", apart := false }
def FnExactLoadsOfSaid : Prop := fnExactLoadsOfRow.holds Try.pinned (OpenSpec.ofChange fnExactLoadsOfSpec)

/-- ITS FALSE NEIGHBOUR: 'it returns false'. Refute it at one input. -/
def fnExactLoadsOfWrong : ChangeSpec := { name := "fnExactLoadsOf", fn := fun _ => fun
  | [d1, d2, d3, d4] => { results := [.lit (.bool false)], args := [d1, d2, d3, d4] }
  | _ => none }
def FnExactLoadsOfWrongFalsely : Prop := fnExactLoadsOfRow.holds Try.pinned (OpenSpec.ofChange fnExactLoadsOfWrong)

/-- 'laws.FnExactOrdinalOf': WHATEVER THE INPUT: true; the input reads as it did. -/
def fnExactOrdinalOfSpec : ChangeSpec := { name := "fnExactOrdinalOf", fn := fun _ => fun
  | [d1, d2] => { results := [.lit (.bool true)], args := [d1, d2] }
  | _ => none }
def fnExactOrdinalOfRow : OpenClaim := { program := "ytioncjcmfbndmaa", sum := "d9da7c8d345d454f6adfaf1f19fbe6b84426985c7ebe5f6c8a3e3753c4a111fb", func := "loop.example/g01097/laws.FnExactOrdinalOf", spec := "fnExactOrdinalOf", unfollowed := true, recurses := true, apart := false }
def FnExactOrdinalOfSaid : Prop := fnExactOrdinalOfRow.holds Try.pinned (OpenSpec.ofChange fnExactOrdinalOfSpec)

/-- ITS FALSE NEIGHBOUR: 'it returns false'. Refute it at one input. -/
def fnExactOrdinalOfWrong : ChangeSpec := { name := "fnExactOrdinalOf", fn := fun _ => fun
  | [d1, d2] => { results := [.lit (.bool false)], args := [d1, d2] }
  | _ => none }
def FnExactOrdinalOfWrongFalsely : Prop := fnExactOrdinalOfRow.holds Try.pinned (OpenSpec.ofChange fnExactOrdinalOfWrong)

/-- 'laws.FnExactPackMarks': WHATEVER THE INPUT: true; the input reads as it did. -/
def fnExactPackMarksSpec : ChangeSpec := { name := "fnExactPackMarks", fn := fun _ => fun
  | [d] => { results := [.lit (.bool true)], args := [d] }
  | _ => none }
def fnExactPackMarksRow : OpenClaim := { program := "ytioncjcmfbndmaa", sum := "d9da7c8d345d454f6adfaf1f19fbe6b84426985c7ebe5f6c8a3e3753c4a111fb", func := "loop.example/g01097/laws.FnExactPackMarks", spec := "fnExactPackMarks", unfollowed := true, recurses := true, apart := false }
def FnExactPackMarksSaid : Prop := fnExactPackMarksRow.holds Try.pinned (OpenSpec.ofChange fnExactPackMarksSpec)

/-- ITS FALSE NEIGHBOUR: 'it returns false'. Refute it at one input. -/
def fnExactPackMarksWrong : ChangeSpec := { name := "fnExactPackMarks", fn := fun _ => fun
  | [d] => { results := [.lit (.bool false)], args := [d] }
  | _ => none }
def FnExactPackMarksWrongFalsely : Prop := fnExactPackMarksRow.holds Try.pinned (OpenSpec.ofChange fnExactPackMarksWrong)

/-- 'laws.FnExactPeeledIndex': WHATEVER THE INPUT: true; the input reads as it did. -/
def fnExactPeeledIndexSpec : ChangeSpec := { name := "fnExactPeeledIndex", fn := fun _ => fun
  | [d1, d2] => { results := [.lit (.bool true)], args := [d1, d2] }
  | _ => none }
def fnExactPeeledIndexRow : OpenClaim := { program := "ytioncjcmfbndmaa", sum := "d9da7c8d345d454f6adfaf1f19fbe6b84426985c7ebe5f6c8a3e3753c4a111fb", func := "loop.example/g01097/laws.FnExactPeeledIndex", spec := "fnExactPeeledIndex", unfollowed := true, recurses := true, apart := false }
def FnExactPeeledIndexSaid : Prop := fnExactPeeledIndexRow.holds Try.pinned (OpenSpec.ofChange fnExactPeeledIndexSpec)

/-- ITS FALSE NEIGHBOUR: 'it returns false'. Refute it at one input. -/
def fnExactPeeledIndexWrong : ChangeSpec := { name := "fnExactPeeledIndex", fn := fun _ => fun
  | [d1, d2] => { results := [.lit (.bool false)], args := [d1, d2] }
  | _ => none }
def FnExactPeeledIndexWrongFalsely : Prop := fnExactPeeledIndexRow.holds Try.pinned (OpenSpec.ofChange fnExactPeeledIndexWrong)

/-- 'laws.FnExactBucketsOf': WHATEVER THE INPUT: true; the input reads as it did. -/
def fnExactBucketsOfSpec : ChangeSpec := { name := "fnExactBucketsOf", fn := fun _ => fun
  | [d1, d2, d3] => { results := [.lit (.bool true)], args := [d1, d2, d3] }
  | _ => none }
def fnExactBucketsOfRow : OpenClaim := { program := "ytioncjcmfbndmaa", sum := "d9da7c8d345d454f6adfaf1f19fbe6b84426985c7ebe5f6c8a3e3753c4a111fb", func := "loop.example/g01097/laws.FnExactBucketsOf", spec := "fnExactBucketsOf", apart := false }
def FnExactBucketsOfSaid : Prop := fnExactBucketsOfRow.holds Try.pinned (OpenSpec.ofChange fnExactBucketsOfSpec)

/-- ITS FALSE NEIGHBOUR: 'it returns false'. Refute it at one input. -/
def fnExactBucketsOfWrong : ChangeSpec := { name := "fnExactBucketsOf", fn := fun _ => fun
  | [d1, d2, d3] => { results := [.lit (.bool false)], args := [d1, d2, d3] }
  | _ => none }
def FnExactBucketsOfWrongFalsely : Prop := fnExactBucketsOfRow.holds Try.pinned (OpenSpec.ofChange fnExactBucketsOfWrong)

/-- 'laws.FnExactIsOrderedFor': WHATEVER THE INPUT: true; the input reads as it did. -/
def fnExactIsOrderedForSpec : ChangeSpec := { name := "fnExactIsOrderedFor", fn := fun _ => fun
  | [d1, d2] => { results := [.lit (.bool true)], args := [d1, d2] }
  | _ => none }
def fnExactIsOrderedForRow : OpenClaim := { program := "ytioncjcmfbndmaa", sum := "d9da7c8d345d454f6adfaf1f19fbe6b84426985c7ebe5f6c8a3e3753c4a111fb", func := "loop.example/g01097/laws.FnExactIsOrderedFor", spec := "fnExactIsOrderedFor", unfollowed := true, recurses := true, apart := false }
def FnExactIsOrderedForSaid : Prop := fnExactIsOrderedForRow.holds Try.pinned (OpenSpec.ofChange fnExactIsOrderedForSpec)

/-- ITS FALSE NEIGHBOUR: 'it returns false'. Refute it at one input. -/
def fnExactIsOrderedForWrong : ChangeSpec := { name := "fnExactIsOrderedFor", fn := fun _ => fun
  | [d1, d2] => { results := [.lit (.bool false)], args := [d1, d2] }
  | _ => none }
def FnExactIsOrderedForWrongFalsely : Prop := fnExactIsOrderedForRow.holds Try.pinned (OpenSpec.ofChange fnExactIsOrderedForWrong)

/-- 'laws.FnExactIsDisplacedFor': WHATEVER THE INPUT: true; the input reads as it did. -/
def fnExactIsDisplacedForSpec : ChangeSpec := { name := "fnExactIsDisplacedFor", fn := fun _ => fun
  | [d1, d2] => { results := [.lit (.bool true)], args := [d1, d2] }
  | _ => none }
def fnExactIsDisplacedForRow : OpenClaim := { program := "ytioncjcmfbndmaa", sum := "d9da7c8d345d454f6adfaf1f19fbe6b84426985c7ebe5f6c8a3e3753c4a111fb", func := "loop.example/g01097/laws.FnExactIsDisplacedFor", spec := "fnExactIsDisplacedFor", unfollowed := true, recurses := true, apart := false }
def FnExactIsDisplacedForSaid : Prop := fnExactIsDisplacedForRow.holds Try.pinned (OpenSpec.ofChange fnExactIsDisplacedForSpec)

/-- ITS FALSE NEIGHBOUR: 'it returns false'. Refute it at one input. -/
def fnExactIsDisplacedForWrong : ChangeSpec := { name := "fnExactIsDisplacedFor", fn := fun _ => fun
  | [d1, d2] => { results := [.lit (.bool false)], args := [d1, d2] }
  | _ => none }
def FnExactIsDisplacedForWrongFalsely : Prop := fnExactIsDisplacedForRow.holds Try.pinned (OpenSpec.ofChange fnExactIsDisplacedForWrong)

/-- 'laws.FnExactUsedOf': WHATEVER THE INPUT: true; the input reads as it did. -/
def fnExactUsedOfSpec : ChangeSpec := { name := "fnExactUsedOf", fn := fun _ => fun
  | [d] => { results := [.lit (.bool true)], args := [d] }
  | _ => none }
def fnExactUsedOfRow : OpenClaim := { program := "ytioncjcmfbndmaa", sum := "d9da7c8d345d454f6adfaf1f19fbe6b84426985c7ebe5f6c8a3e3753c4a111fb", func := "loop.example/g01097/laws.FnExactUsedOf", spec := "fnExactUsedOf", unfollowed := true, recurses := true, apart := false }
def FnExactUsedOfSaid : Prop := fnExactUsedOfRow.holds Try.pinned (OpenSpec.ofChange fnExactUsedOfSpec)

/-- ITS FALSE NEIGHBOUR: 'it returns false'. Refute it at one input. -/
def fnExactUsedOfWrong : ChangeSpec := { name := "fnExactUsedOf", fn := fun _ => fun
  | [d] => { results := [.lit (.bool false)], args := [d] }
  | _ => none }
def FnExactUsedOfWrongFalsely : Prop := fnExactUsedOfRow.holds Try.pinned (OpenSpec.ofChange fnExactUsedOfWrong)

/- THE SECOND FORM. 'bulk': how many values and letters a reading holds, each counted each time it is reached (what is shared counts as often as it is met; a slice's spare places count too). A statement '..UptoSaid' is the law's where the arguments, and the package variables that the reading takes, are together of bulk at most 1048576: NARROWER than '..Said'. Prove '..Said' where nothing that the law and all that it calls make is longer than what came in: it says more and counts as full. Else prove '..UptoSaid'. A law counts once. -/
mutual
def uptoBulk {H : Type} : DataW H → Nat
  | .lit (.string bytes) => bytes.length + 1
  | .lit _ => 1
  | .nil => 1
  | .ptr d => uptoBulk d + 1
  | .slice elems spare => uptoBulkAll elems + uptoBulkAll spare + 1
  | .agg parts => uptoBulkAll parts + 1
  | .iface _ d => uptoBulk d + 1
  | .map entries => uptoBulkEntries entries + 1
  | .held _ => 1
def uptoBulkAll {H : Type} : List (DataW H) → Nat
  | [] => 0
  | d :: r => uptoBulk d + uptoBulkAll r
def uptoBulkEntries {H : Type} : List (Lit × DataW H) → Nat
  | [] => 0
  | x :: r => uptoBulkEntry x + uptoBulkEntries r
def uptoBulkEntry {H : Type} : Lit × DataW H → Nat
  | (.string bytes, d) => bytes.length + uptoBulk d + 1
  | (_, d) => uptoBulk d + 1
 end
def uptoSmall : (H : Type) → List (DataW H) → Bool := fun _ ds => decide (uptoBulkAll ds ≤ 1048576)
def OpenSpec.upto (s : _root_.Go.ChangeSpec) : _root_.Go.OpenSpec := { _root_.Go.OpenSpec.ofChange s with cond := some uptoSmall }

/-- 'laws.FnExactSlotOf', WHERE WHAT IT READS IS OF BULK AT MOST 1048576: true; the input reads as it did. -/
def fnExactSlotOfUptoRow : OpenClaim := { program := "ytioncjcmfbndmaa", sum := "d9da7c8d345d454f6adfaf1f19fbe6b84426985c7ebe5f6c8a3e3753c4a111fb", func := "loop.example/g01097/laws.FnExactSlotOf", spec := "fnExactSlotOf", unfollowed := true, recurses := true, apart := false, narrowed := true }
def FnExactSlotOfUptoSaid : Prop := fnExactSlotOfUptoRow.holds Try.pinned (OpenSpec.upto fnExactSlotOfSpec)

/-- 'laws.FnExactUnpackMarks', WHERE WHAT IT READS IS OF BULK AT MOST 1048576: true; the input reads as it did. -/
def fnExactUnpackMarksUptoRow : OpenClaim := { program := "ytioncjcmfbndmaa", sum := "d9da7c8d345d454f6adfaf1f19fbe6b84426985c7ebe5f6c8a3e3753c4a111fb", func := "loop.example/g01097/laws.FnExactUnpackMarks", spec := "fnExactUnpackMarks", apart := false, narrowed := true }
def FnExactUnpackMarksUptoSaid : Prop := fnExactUnpackMarksUptoRow.holds Try.pinned (OpenSpec.upto fnExactUnpackMarksSpec)

/-- 'laws.FnExactPlainSeed', WHERE WHAT IT READS IS OF BULK AT MOST 1048576: true; the input reads as it did. -/
def fnExactPlainSeedUptoRow : OpenClaim := { program := "ytioncjcmfbndmaa", sum := "d9da7c8d345d454f6adfaf1f19fbe6b84426985c7ebe5f6c8a3e3753c4a111fb", func := "loop.example/g01097/laws.FnExactPlainSeed", spec := "fnExactPlainSeed", unfollowed := true, recurses := true, apart := false, narrowed := true }
def FnExactPlainSeedUptoSaid : Prop := fnExactPlainSeedUptoRow.holds Try.pinned (OpenSpec.upto fnExactPlainSeedSpec)

/-- 'laws.FnExactPeeledPlace', WHERE WHAT IT READS IS OF BULK AT MOST 1048576: true; the input reads as it did. -/
def fnExactPeeledPlaceUptoRow : OpenClaim := { program := "ytioncjcmfbndmaa", sum := "d9da7c8d345d454f6adfaf1f19fbe6b84426985c7ebe5f6c8a3e3753c4a111fb", func := "loop.example/g01097/laws.FnExactPeeledPlace", spec := "fnExactPeeledPlace", unfollowed := true, recurses := true, apart := false, narrowed := true }
def FnExactPeeledPlaceUptoSaid : Prop := fnExactPeeledPlaceUptoRow.holds Try.pinned (OpenSpec.upto fnExactPeeledPlaceSpec)

/-- 'laws.FnExactLoadsOf', WHERE WHAT IT READS IS OF BULK AT MOST 1048576: true; the input reads as it did. -/
def fnExactLoadsOfUptoRow : OpenClaim := { program := "ytioncjcmfbndmaa", sum := "d9da7c8d345d454f6adfaf1f19fbe6b84426985c7ebe5f6c8a3e3753c4a111fb", func := "loop.example/g01097/laws.FnExactLoadsOf", spec := "fnExactLoadsOf", apart := false, narrowed := true }
def FnExactLoadsOfUptoSaid : Prop := fnExactLoadsOfUptoRow.holds Try.pinned (OpenSpec.upto fnExactLoadsOfSpec)

/-- 'laws.FnExactOrdinalOf', WHERE WHAT IT READS IS OF BULK AT MOST 1048576: true; the input reads as it did. -/
def fnExactOrdinalOfUptoRow : OpenClaim := { program := "ytioncjcmfbndmaa", sum := "d9da7c8d345d454f6adfaf1f19fbe6b84426985c7ebe5f6c8a3e3753c4a111fb", func := "loop.example/g01097/laws.FnExactOrdinalOf", spec := "fnExactOrdinalOf", unfollowed := true, recurses := true, apart := false, narrowed := true }
def FnExactOrdinalOfUptoSaid : Prop := fnExactOrdinalOfUptoRow.holds Try.pinned (OpenSpec.upto fnExactOrdinalOfSpec)

/-- 'laws.FnExactPackMarks', WHERE WHAT IT READS IS OF BULK AT MOST 1048576: true; the input reads as it did. -/
def fnExactPackMarksUptoRow : OpenClaim := { program := "ytioncjcmfbndmaa", sum := "d9da7c8d345d454f6adfaf1f19fbe6b84426985c7ebe5f6c8a3e3753c4a111fb", func := "loop.example/g01097/laws.FnExactPackMarks", spec := "fnExactPackMarks", unfollowed := true, recurses := true, apart := false, narrowed := true }
def FnExactPackMarksUptoSaid : Prop := fnExactPackMarksUptoRow.holds Try.pinned (OpenSpec.upto fnExactPackMarksSpec)

/-- 'laws.FnExactPeeledIndex', WHERE WHAT IT READS IS OF BULK AT MOST 1048576: true; the input reads as it did. -/
def fnExactPeeledIndexUptoRow : OpenClaim := { program := "ytioncjcmfbndmaa", sum := "d9da7c8d345d454f6adfaf1f19fbe6b84426985c7ebe5f6c8a3e3753c4a111fb", func := "loop.example/g01097/laws.FnExactPeeledIndex", spec := "fnExactPeeledIndex", unfollowed := true, recurses := true, apart := false, narrowed := true }
def FnExactPeeledIndexUptoSaid : Prop := fnExactPeeledIndexUptoRow.holds Try.pinned (OpenSpec.upto fnExactPeeledIndexSpec)

/-- 'laws.FnExactBucketsOf', WHERE WHAT IT READS IS OF BULK AT MOST 1048576: true; the input reads as it did. -/
def fnExactBucketsOfUptoRow : OpenClaim := { program := "ytioncjcmfbndmaa", sum := "d9da7c8d345d454f6adfaf1f19fbe6b84426985c7ebe5f6c8a3e3753c4a111fb", func := "loop.example/g01097/laws.FnExactBucketsOf", spec := "fnExactBucketsOf", apart := false, narrowed := true }
def FnExactBucketsOfUptoSaid : Prop := fnExactBucketsOfUptoRow.holds Try.pinned (OpenSpec.upto fnExactBucketsOfSpec)

/-- 'laws.FnExactIsOrderedFor', WHERE WHAT IT READS IS OF BULK AT MOST 1048576: true; the input reads as it did. -/
def fnExactIsOrderedForUptoRow : OpenClaim := { program := "ytioncjcmfbndmaa", sum := "d9da7c8d345d454f6adfaf1f19fbe6b84426985c7ebe5f6c8a3e3753c4a111fb", func := "loop.example/g01097/laws.FnExactIsOrderedFor", spec := "fnExactIsOrderedFor", unfollowed := true, recurses := true, apart := false, narrowed := true }
def FnExactIsOrderedForUptoSaid : Prop := fnExactIsOrderedForUptoRow.holds Try.pinned (OpenSpec.upto fnExactIsOrderedForSpec)

/-- 'laws.FnExactIsDisplacedFor', WHERE WHAT IT READS IS OF BULK AT MOST 1048576: true; the input reads as it did. -/
def fnExactIsDisplacedForUptoRow : OpenClaim := { program := "ytioncjcmfbndmaa", sum := "d9da7c8d345d454f6adfaf1f19fbe6b84426985c7ebe5f6c8a3e3753c4a111fb", func := "loop.example/g01097/laws.FnExactIsDisplacedFor", spec := "fnExactIsDisplacedFor", unfollowed := true, recurses := true, apart := false, narrowed := true }
def FnExactIsDisplacedForUptoSaid : Prop := fnExactIsDisplacedForUptoRow.holds Try.pinned (OpenSpec.upto fnExactIsDisplacedForSpec)

/-- 'laws.FnExactUsedOf', WHERE WHAT IT READS IS OF BULK AT MOST 1048576: true; the input reads as it did. -/
def fnExactUsedOfUptoRow : OpenClaim := { program := "ytioncjcmfbndmaa", sum := "d9da7c8d345d454f6adfaf1f19fbe6b84426985c7ebe5f6c8a3e3753c4a111fb", func := "loop.example/g01097/laws.FnExactUsedOf", spec := "fnExactUsedOf", unfollowed := true, recurses := true, apart := false, narrowed := true }
def FnExactUsedOfUptoSaid : Prop := fnExactUsedOfUptoRow.holds Try.pinned (OpenSpec.upto fnExactUsedOfSpec)

end Rows
end Go.Proofs.Ytioncjcmfbndmaa
