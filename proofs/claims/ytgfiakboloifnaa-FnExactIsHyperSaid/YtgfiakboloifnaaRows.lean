/-
  No cell of these rows narrows 'for every input' (looked for: loops, veiled, ifaces, maps, wideKeys, modest, calm, conditions, laid).
  DERIVED. THE GIVEN ROWS OF THIS SEAT. 6 by the template 'for every input the law returns true; each argument reads behind the call as it read before'; 0 by the template 'total and deterministic' (their statements: YtgfiakboloifnaaTotals.lean).
  GIVEN WITH THE SEED: the statements are not yours to turn. If you find one false, say at which input.
  Laid BY PROGRAM, IN A SANDBOX (cutbox-rows.mjs): the forced cells as the released guide's own fill.sh prints them over the translation 8c621be9a6366fd8… (all of the seat's roots in one cut). By AI agents, Wed Nov 11 2026. No macro, syntax, notation, axiom, sorry.
-/
import Derived.Test.YtgfiakboloifnaaChecked
import GoSem.Claim
import GoSem.ClaimJoined
import GoSem.ClaimMapViews
import Derived.JoinedTies
import Derived.KernelRfl
namespace Go.Proofs.Ytgfiakboloifnaa
/- THE CELL 'sum', in the pinned program and in every row, IS THE sha256 OF THE DUMP (.gsa) THAT YtgfiakboloifnaaProg.lean LOADS. Nothing in Lean hashes anything: it is a label: what it is worth is what the hold of that sum in a sandbox is worth. -/
noncomputable def Try.pinned : Pinned := { name := "ytgfiakboloifnaa", sum := "8c621be9a6366fd844781f8efb45a518b9227a37837345da1895cb2a084a2007", checked := Try.checked }
namespace Rows
def none {H : Type} : Left H := { results := [], args := [] }

/-- 'laws.FnExactPlaceOf': WHATEVER THE INPUT: true; the input reads as it did. -/
def fnExactPlaceOfSpec : ChangeSpec := { name := "fnExactPlaceOf", fn := fun _ => fun
  | [d1, d2, d3, d4] => { results := [.lit (.bool true)], args := [d1, d2, d3, d4] }
  | _ => none }
def fnExactPlaceOfRow : OpenClaim := { program := "ytgfiakboloifnaa", sum := "8c621be9a6366fd844781f8efb45a518b9227a37837345da1895cb2a084a2007", func := "loop.example/g01097/laws.FnExactPlaceOf", spec := "fnExactPlaceOf", apart := false }
def FnExactPlaceOfSaid : Prop := fnExactPlaceOfRow.holds Try.pinned (OpenSpec.ofChange fnExactPlaceOfSpec)

/-- ITS FALSE NEIGHBOUR: 'it returns false'. Refute it at one input. -/
def fnExactPlaceOfWrong : ChangeSpec := { name := "fnExactPlaceOf", fn := fun _ => fun
  | [d1, d2, d3, d4] => { results := [.lit (.bool false)], args := [d1, d2, d3, d4] }
  | _ => none }
def FnExactPlaceOfWrongFalsely : Prop := fnExactPlaceOfRow.holds Try.pinned (OpenSpec.ofChange fnExactPlaceOfWrong)

/-- 'laws.FnExactIsPeeled': WHATEVER THE INPUT: true; the input reads as it did. -/
def fnExactIsPeeledSpec : ChangeSpec := { name := "fnExactIsPeeled", fn := fun _ => fun
  | [d] => { results := [.lit (.bool true)], args := [d] }
  | _ => none }
def fnExactIsPeeledRow : OpenClaim := { program := "ytgfiakboloifnaa", sum := "8c621be9a6366fd844781f8efb45a518b9227a37837345da1895cb2a084a2007", func := "loop.example/g01097/laws.FnExactIsPeeled", spec := "fnExactIsPeeled", unfollowed := true, recurses := true, apart := false }
def FnExactIsPeeledSaid : Prop := fnExactIsPeeledRow.holds Try.pinned (OpenSpec.ofChange fnExactIsPeeledSpec)

/-- ITS FALSE NEIGHBOUR: 'it returns false'. Refute it at one input. -/
def fnExactIsPeeledWrong : ChangeSpec := { name := "fnExactIsPeeled", fn := fun _ => fun
  | [d] => { results := [.lit (.bool false)], args := [d] }
  | _ => none }
def FnExactIsPeeledWrongFalsely : Prop := fnExactIsPeeledRow.holds Try.pinned (OpenSpec.ofChange fnExactIsPeeledWrong)

/-- 'laws.FnExactIsDisplaced': WHATEVER THE INPUT: true; the input reads as it did. -/
def fnExactIsDisplacedSpec : ChangeSpec := { name := "fnExactIsDisplaced", fn := fun _ => fun
  | [d] => { results := [.lit (.bool true)], args := [d] }
  | _ => none }
def fnExactIsDisplacedRow : OpenClaim := { program := "ytgfiakboloifnaa", sum := "8c621be9a6366fd844781f8efb45a518b9227a37837345da1895cb2a084a2007", func := "loop.example/g01097/laws.FnExactIsDisplaced", spec := "fnExactIsDisplaced", unfollowed := true, recurses := true, apart := false }
def FnExactIsDisplacedSaid : Prop := fnExactIsDisplacedRow.holds Try.pinned (OpenSpec.ofChange fnExactIsDisplacedSpec)

/-- ITS FALSE NEIGHBOUR: 'it returns false'. Refute it at one input. -/
def fnExactIsDisplacedWrong : ChangeSpec := { name := "fnExactIsDisplaced", fn := fun _ => fun
  | [d] => { results := [.lit (.bool false)], args := [d] }
  | _ => none }
def FnExactIsDisplacedWrongFalsely : Prop := fnExactIsDisplacedRow.holds Try.pinned (OpenSpec.ofChange fnExactIsDisplacedWrong)

/-- 'laws.FnExactIsOrdered': WHATEVER THE INPUT: true; the input reads as it did. -/
def fnExactIsOrderedSpec : ChangeSpec := { name := "fnExactIsOrdered", fn := fun _ => fun
  | [d] => { results := [.lit (.bool true)], args := [d] }
  | _ => none }
def fnExactIsOrderedRow : OpenClaim := { program := "ytgfiakboloifnaa", sum := "8c621be9a6366fd844781f8efb45a518b9227a37837345da1895cb2a084a2007", func := "loop.example/g01097/laws.FnExactIsOrdered", spec := "fnExactIsOrdered", unfollowed := true, recurses := true, apart := false }
def FnExactIsOrderedSaid : Prop := fnExactIsOrderedRow.holds Try.pinned (OpenSpec.ofChange fnExactIsOrderedSpec)

/-- ITS FALSE NEIGHBOUR: 'it returns false'. Refute it at one input. -/
def fnExactIsOrderedWrong : ChangeSpec := { name := "fnExactIsOrdered", fn := fun _ => fun
  | [d] => { results := [.lit (.bool false)], args := [d] }
  | _ => none }
def FnExactIsOrderedWrongFalsely : Prop := fnExactIsOrderedRow.holds Try.pinned (OpenSpec.ofChange fnExactIsOrderedWrong)

/-- 'laws.FnExactIsHyper': WHATEVER THE INPUT: true; the input reads as it did. -/
def fnExactIsHyperSpec : ChangeSpec := { name := "fnExactIsHyper", fn := fun _ => fun
  | [d] => { results := [.lit (.bool true)], args := [d] }
  | _ => none }
def fnExactIsHyperRow : OpenClaim := { program := "ytgfiakboloifnaa", sum := "8c621be9a6366fd844781f8efb45a518b9227a37837345da1895cb2a084a2007", func := "loop.example/g01097/laws.FnExactIsHyper", spec := "fnExactIsHyper", unfollowed := true, recurses := true, apart := false }
def FnExactIsHyperSaid : Prop := fnExactIsHyperRow.holds Try.pinned (OpenSpec.ofChange fnExactIsHyperSpec)

/-- ITS FALSE NEIGHBOUR: 'it returns false'. Refute it at one input. -/
def fnExactIsHyperWrong : ChangeSpec := { name := "fnExactIsHyper", fn := fun _ => fun
  | [d] => { results := [.lit (.bool false)], args := [d] }
  | _ => none }
def FnExactIsHyperWrongFalsely : Prop := fnExactIsHyperRow.holds Try.pinned (OpenSpec.ofChange fnExactIsHyperWrong)

/-- 'laws.FnExactCollisionOf': WHATEVER THE INPUT: true; the input reads as it did. -/
def fnExactCollisionOfSpec : ChangeSpec := { name := "fnExactCollisionOf", fn := fun _ => fun
  | [d1, d2, d3, d4] => { results := [.lit (.bool true)], args := [d1, d2, d3, d4] }
  | _ => none }
def fnExactCollisionOfRow : OpenClaim := { program := "ytgfiakboloifnaa", sum := "8c621be9a6366fd844781f8efb45a518b9227a37837345da1895cb2a084a2007", func := "loop.example/g01097/laws.FnExactCollisionOf", spec := "fnExactCollisionOf", apart := false }
def FnExactCollisionOfSaid : Prop := fnExactCollisionOfRow.holds Try.pinned (OpenSpec.ofChange fnExactCollisionOfSpec)

/-- ITS FALSE NEIGHBOUR: 'it returns false'. Refute it at one input. -/
def fnExactCollisionOfWrong : ChangeSpec := { name := "fnExactCollisionOf", fn := fun _ => fun
  | [d1, d2, d3, d4] => { results := [.lit (.bool false)], args := [d1, d2, d3, d4] }
  | _ => none }
def FnExactCollisionOfWrongFalsely : Prop := fnExactCollisionOfRow.holds Try.pinned (OpenSpec.ofChange fnExactCollisionOfWrong)

/- THE SECOND FORM. 'bulk': how many values and letters a reading holds, each counted each time it is reached (what is shared counts as often as it is met; a slice's spare places count too). A statement '..UptoSaid' is the law's where the arguments, and the package variables that the reading takes, are together of bulk at most 1048576: NARROWER than '..Said'. Prove '..Said' where nothing that the law and all that it calls make is longer than what came in: it says more and counts as full. Else prove '..UptoSaid'. A law counts once. -/
mutual
def uptoBulk {H : Type} : DataW H → Nat
  | .lit (.string bytes) => bytes.length + 1
  | .lit _ => 1
  | .nil => 1
  | .ptr d => uptoBulk d + 1
  | .slice elems spare => uptoBulkAll elems + uptoBulkAll spare + 1
  | .agg parts => uptoBulkAll parts + 1
  | .iface _ d => uptoBulk d + 1
  | .map entries => uptoBulkEntries entries + 1
  | .held _ => 1
def uptoBulkAll {H : Type} : List (DataW H) → Nat
  | [] => 0
  | d :: r => uptoBulk d + uptoBulkAll r
def uptoBulkEntries {H : Type} : List (Lit × DataW H) → Nat
  | [] => 0
  | x :: r => uptoBulkEntry x + uptoBulkEntries r
def uptoBulkEntry {H : Type} : Lit × DataW H → Nat
  | (.string bytes, d) => bytes.length + uptoBulk d + 1
  | (_, d) => uptoBulk d + 1
 end
def uptoSmall : (H : Type) → List (DataW H) → Bool := fun _ ds => decide (uptoBulkAll ds ≤ 1048576)
def OpenSpec.upto (s : _root_.Go.ChangeSpec) : _root_.Go.OpenSpec := { _root_.Go.OpenSpec.ofChange s with cond := some uptoSmall }

/-- 'laws.FnExactPlaceOf', WHERE WHAT IT READS IS OF BULK AT MOST 1048576: true; the input reads as it did. -/
def fnExactPlaceOfUptoRow : OpenClaim := { program := "ytgfiakboloifnaa", sum := "8c621be9a6366fd844781f8efb45a518b9227a37837345da1895cb2a084a2007", func := "loop.example/g01097/laws.FnExactPlaceOf", spec := "fnExactPlaceOf", apart := false, narrowed := true }
def FnExactPlaceOfUptoSaid : Prop := fnExactPlaceOfUptoRow.holds Try.pinned (OpenSpec.upto fnExactPlaceOfSpec)

/-- 'laws.FnExactIsPeeled', WHERE WHAT IT READS IS OF BULK AT MOST 1048576: true; the input reads as it did. -/
def fnExactIsPeeledUptoRow : OpenClaim := { program := "ytgfiakboloifnaa", sum := "8c621be9a6366fd844781f8efb45a518b9227a37837345da1895cb2a084a2007", func := "loop.example/g01097/laws.FnExactIsPeeled", spec := "fnExactIsPeeled", unfollowed := true, recurses := true, apart := false, narrowed := true }
def FnExactIsPeeledUptoSaid : Prop := fnExactIsPeeledUptoRow.holds Try.pinned (OpenSpec.upto fnExactIsPeeledSpec)

/-- 'laws.FnExactIsDisplaced', WHERE WHAT IT READS IS OF BULK AT MOST 1048576: true; the input reads as it did. -/
def fnExactIsDisplacedUptoRow : OpenClaim := { program := "ytgfiakboloifnaa", sum := "8c621be9a6366fd844781f8efb45a518b9227a37837345da1895cb2a084a2007", func := "loop.example/g01097/laws.FnExactIsDisplaced", spec := "fnExactIsDisplaced", unfollowed := true, recurses := true, apart := false, narrowed := true }
def FnExactIsDisplacedUptoSaid : Prop := fnExactIsDisplacedUptoRow.holds Try.pinned (OpenSpec.upto fnExactIsDisplacedSpec)

/-- 'laws.FnExactIsOrdered', WHERE WHAT IT READS IS OF BULK AT MOST 1048576: true; the input reads as it did. -/
def fnExactIsOrderedUptoRow : OpenClaim := { program := "ytgfiakboloifnaa", sum := "8c621be9a6366fd844781f8efb45a518b9227a37837345da1895cb2a084a2007", func := "loop.example/g01097/laws.FnExactIsOrdered", spec := "fnExactIsOrdered", unfollowed := true, recurses := true, apart := false, narrowed := true }
def FnExactIsOrderedUptoSaid : Prop := fnExactIsOrderedUptoRow.holds Try.pinned (OpenSpec.upto fnExactIsOrderedSpec)

/-- 'laws.FnExactIsHyper', WHERE WHAT IT READS IS OF BULK AT MOST 1048576: true; the input reads as it did. -/
def fnExactIsHyperUptoRow : OpenClaim := { program := "ytgfiakboloifnaa", sum := "8c621be9a6366fd844781f8efb45a518b9227a37837345da1895cb2a084a2007", func := "loop.example/g01097/laws.FnExactIsHyper", spec := "fnExactIsHyper", unfollowed := true, recurses := true, apart := false, narrowed := true }
def FnExactIsHyperUptoSaid : Prop := fnExactIsHyperUptoRow.holds Try.pinned (OpenSpec.upto fnExactIsHyperSpec)

/-- 'laws.FnExactCollisionOf', WHERE WHAT IT READS IS OF BULK AT MOST 1048576: true; the input reads as it did. -/
def fnExactCollisionOfUptoRow : OpenClaim := { program := "ytgfiakboloifnaa", sum := "8c621be9a6366fd844781f8efb45a518b9227a37837345da1895cb2a084a2007", func := "loop.example/g01097/laws.FnExactCollisionOf", spec := "fnExactCollisionOf", apart := false, narrowed := true }
def FnExactCollisionOfUptoSaid : Prop := fnExactCollisionOfUptoRow.holds Try.pinned (OpenSpec.upto fnExactCollisionOfSpec)

end Rows
end Go.Proofs.Ytgfiakboloifnaa
