/-
  No cell of these rows narrows 'for every input' (looked for: loops, veiled, ifaces, maps, wideKeys, modest, calm, conditions, laid).
  DERIVED. THE GIVEN ROWS OF THIS SEAT. 7 by the template 'for every input the law returns true; each argument reads behind the call as it read before'; 0 by the template 'total and deterministic' (their statements: YtkechjheiakibaaTotals.lean).
  GIVEN WITH THE SEED: the statements are not yours to turn. If you find one false, say at which input.
  Laid BY PROGRAM, IN A SANDBOX (cutbox-rows.mjs): the forced cells as the released guide's own fill.sh prints them over the translation eea324ebb1ef5a90… (all of the seat's roots in one cut). By AI agents, Wed Nov 11 2026. No macro, syntax, notation, axiom, sorry.
-/
import Derived.Test.YtkechjheiakibaaChecked
import GoSem.Claim
import GoSem.ClaimJoined
import GoSem.ClaimMapViews
import Derived.JoinedTies
import Derived.KernelRfl
namespace Go.Proofs.Ytkechjheiakibaa
/- THE CELL 'sum', in the pinned program and in every row, IS THE sha256 OF THE DUMP (.gsa) THAT YtkechjheiakibaaProg.lean LOADS. Nothing in Lean hashes anything: it is a label: what it is worth is what the hold of that sum in a sandbox is worth. -/
noncomputable def Try.pinned : Pinned := { name := "ytkechjheiakibaa", sum := "eea324ebb1ef5a90d2756cd2ecc4a7910d924f39dc30d622aa30eff23fd6456b", checked := Try.checked }
namespace Rows
def none {H : Type} : Left H := { results := [], args := [] }

/-- 'laws.FnExactEncodeGamma': WHATEVER THE INPUT: true; the input reads as it did. -/
def fnExactEncodeGammaSpec : ChangeSpec := { name := "fnExactEncodeGamma", fn := fun _ => fun
  | [d] => { results := [.lit (.bool true)], args := [d] }
  | _ => none }
def fnExactEncodeGammaRow : OpenClaim := { program := "ytkechjheiakibaa", sum := "eea324ebb1ef5a90d2756cd2ecc4a7910d924f39dc30d622aa30eff23fd6456b", func := "loop.example/g01097/laws.FnExactEncodeGamma", spec := "fnExactEncodeGamma", unfollowed := true, recurses := true, apart := false }
def FnExactEncodeGammaSaid : Prop := fnExactEncodeGammaRow.holds Try.pinned (OpenSpec.ofChange fnExactEncodeGammaSpec)

/-- ITS FALSE NEIGHBOUR: 'it returns false'. Refute it at one input. -/
def fnExactEncodeGammaWrong : ChangeSpec := { name := "fnExactEncodeGamma", fn := fun _ => fun
  | [d] => { results := [.lit (.bool false)], args := [d] }
  | _ => none }
def FnExactEncodeGammaWrongFalsely : Prop := fnExactEncodeGammaRow.holds Try.pinned (OpenSpec.ofChange fnExactEncodeGammaWrong)

/-- 'laws.FnExactEncodeDelta': WHATEVER THE INPUT: true; the input reads as it did. -/
def fnExactEncodeDeltaSpec : ChangeSpec := { name := "fnExactEncodeDelta", fn := fun _ => fun
  | [d] => { results := [.lit (.bool true)], args := [d] }
  | _ => none }
def fnExactEncodeDeltaRow : OpenClaim := { program := "ytkechjheiakibaa", sum := "eea324ebb1ef5a90d2756cd2ecc4a7910d924f39dc30d622aa30eff23fd6456b", func := "loop.example/g01097/laws.FnExactEncodeDelta", spec := "fnExactEncodeDelta", unfollowed := true, recurses := true, apart := false }
def FnExactEncodeDeltaSaid : Prop := fnExactEncodeDeltaRow.holds Try.pinned (OpenSpec.ofChange fnExactEncodeDeltaSpec)

/-- ITS FALSE NEIGHBOUR: 'it returns false'. Refute it at one input. -/
def fnExactEncodeDeltaWrong : ChangeSpec := { name := "fnExactEncodeDelta", fn := fun _ => fun
  | [d] => { results := [.lit (.bool false)], args := [d] }
  | _ => none }
def FnExactEncodeDeltaWrongFalsely : Prop := fnExactEncodeDeltaRow.holds Try.pinned (OpenSpec.ofChange fnExactEncodeDeltaWrong)

/-- 'laws.FnExactDecodeGamma': WHATEVER THE INPUT: true; the input reads as it did. -/
def fnExactDecodeGammaSpec : ChangeSpec := { name := "fnExactDecodeGamma", fn := fun _ => fun
  | [d1, d2] => { results := [.lit (.bool true)], args := [d1, d2] }
  | _ => none }
def fnExactDecodeGammaRow : OpenClaim := { program := "ytkechjheiakibaa", sum := "eea324ebb1ef5a90d2756cd2ecc4a7910d924f39dc30d622aa30eff23fd6456b", func := "loop.example/g01097/laws.FnExactDecodeGamma", spec := "fnExactDecodeGamma", unfollowed := true, recurses := true, apart := false }
def FnExactDecodeGammaSaid : Prop := fnExactDecodeGammaRow.holds Try.pinned (OpenSpec.ofChange fnExactDecodeGammaSpec)

/-- ITS FALSE NEIGHBOUR: 'it returns false'. Refute it at one input. -/
def fnExactDecodeGammaWrong : ChangeSpec := { name := "fnExactDecodeGamma", fn := fun _ => fun
  | [d1, d2] => { results := [.lit (.bool false)], args := [d1, d2] }
  | _ => none }
def FnExactDecodeGammaWrongFalsely : Prop := fnExactDecodeGammaRow.holds Try.pinned (OpenSpec.ofChange fnExactDecodeGammaWrong)

/-- 'laws.FnExactDecodeDelta': WHATEVER THE INPUT: true; the input reads as it did. -/
def fnExactDecodeDeltaSpec : ChangeSpec := { name := "fnExactDecodeDelta", fn := fun _ => fun
  | [d1, d2] => { results := [.lit (.bool true)], args := [d1, d2] }
  | _ => none }
def fnExactDecodeDeltaRow : OpenClaim := { program := "ytkechjheiakibaa", sum := "eea324ebb1ef5a90d2756cd2ecc4a7910d924f39dc30d622aa30eff23fd6456b", func := "loop.example/g01097/laws.FnExactDecodeDelta", spec := "fnExactDecodeDelta", unfollowed := true, recurses := true, apart := false }
def FnExactDecodeDeltaSaid : Prop := fnExactDecodeDeltaRow.holds Try.pinned (OpenSpec.ofChange fnExactDecodeDeltaSpec)

/-- ITS FALSE NEIGHBOUR: 'it returns false'. Refute it at one input. -/
def fnExactDecodeDeltaWrong : ChangeSpec := { name := "fnExactDecodeDelta", fn := fun _ => fun
  | [d1, d2] => { results := [.lit (.bool false)], args := [d1, d2] }
  | _ => none }
def FnExactDecodeDeltaWrongFalsely : Prop := fnExactDecodeDeltaRow.holds Try.pinned (OpenSpec.ofChange fnExactDecodeDeltaWrong)

/-- 'laws.FnGapsAreCoded': WHATEVER THE INPUT: true; the input reads as it did. -/
def fnGapsAreCodedSpec : ChangeSpec := { name := "fnGapsAreCoded", fn := fun _ => fun
  | [d1, d2] => { results := [.lit (.bool true)], args := [d1, d2] }
  | _ => none }
def fnGapsAreCodedRow : OpenClaim := { program := "ytkechjheiakibaa", sum := "eea324ebb1ef5a90d2756cd2ecc4a7910d924f39dc30d622aa30eff23fd6456b", func := "loop.example/g01097/laws.FnGapsAreCoded", spec := "fnGapsAreCoded", unfollowed := true, recurses := true, apart := false }
def FnGapsAreCodedSaid : Prop := fnGapsAreCodedRow.holds Try.pinned (OpenSpec.ofChange fnGapsAreCodedSpec)

/-- ITS FALSE NEIGHBOUR: 'it returns false'. Refute it at one input. -/
def fnGapsAreCodedWrong : ChangeSpec := { name := "fnGapsAreCoded", fn := fun _ => fun
  | [d1, d2] => { results := [.lit (.bool false)], args := [d1, d2] }
  | _ => none }
def FnGapsAreCodedWrongFalsely : Prop := fnGapsAreCodedRow.holds Try.pinned (OpenSpec.ofChange fnGapsAreCodedWrong)

/-- 'laws.FnCodesAreRead': WHATEVER THE INPUT: true; the input reads as it did. -/
def fnCodesAreReadSpec : ChangeSpec := { name := "fnCodesAreRead", fn := fun _ => fun
  | [d1, d2] => { results := [.lit (.bool true)], args := [d1, d2] }
  | _ => none }
def fnCodesAreReadRow : OpenClaim := { program := "ytkechjheiakibaa", sum := "eea324ebb1ef5a90d2756cd2ecc4a7910d924f39dc30d622aa30eff23fd6456b", func := "loop.example/g01097/laws.FnCodesAreRead", spec := "fnCodesAreRead", unfollowed := true, recurses := true, apart := false }
def FnCodesAreReadSaid : Prop := fnCodesAreReadRow.holds Try.pinned (OpenSpec.ofChange fnCodesAreReadSpec)

/-- ITS FALSE NEIGHBOUR: 'it returns false'. Refute it at one input. -/
def fnCodesAreReadWrong : ChangeSpec := { name := "fnCodesAreRead", fn := fun _ => fun
  | [d1, d2] => { results := [.lit (.bool false)], args := [d1, d2] }
  | _ => none }
def FnCodesAreReadWrongFalsely : Prop := fnCodesAreReadRow.holds Try.pinned (OpenSpec.ofChange fnCodesAreReadWrong)

/-- 'laws.FnFieldsStay': WHATEVER THE INPUT: true; the input reads as it did. -/
def fnFieldsStaySpec : ChangeSpec := { name := "fnFieldsStay", fn := fun _ => fun
  | [d1, d2] => { results := [.lit (.bool true)], args := [d1, d2] }
  | _ => none }
def fnFieldsStayRow : OpenClaim := { program := "ytkechjheiakibaa", sum := "eea324ebb1ef5a90d2756cd2ecc4a7910d924f39dc30d622aa30eff23fd6456b", func := "loop.example/g01097/laws.FnFieldsStay", spec := "fnFieldsStay", apart := false }
def FnFieldsStaySaid : Prop := fnFieldsStayRow.holds Try.pinned (OpenSpec.ofChange fnFieldsStaySpec)

/-- ITS FALSE NEIGHBOUR: 'it returns false'. Refute it at one input. -/
def fnFieldsStayWrong : ChangeSpec := { name := "fnFieldsStay", fn := fun _ => fun
  | [d1, d2] => { results := [.lit (.bool false)], args := [d1, d2] }
  | _ => none }
def FnFieldsStayWrongFalsely : Prop := fnFieldsStayRow.holds Try.pinned (OpenSpec.ofChange fnFieldsStayWrong)

/- THE SECOND FORM. 'bulk': how many values and letters a reading holds, each counted each time it is reached (what is shared counts as often as it is met; a slice's spare places count too). A statement '..UptoSaid' is the law's where the arguments, and the package variables that the reading takes, are together of bulk at most 1048576: NARROWER than '..Said'. Prove '..Said' where nothing that the law and all that it calls make is longer than what came in: it says more and counts as full. Else prove '..UptoSaid'. A law counts once. -/
mutual
def uptoBulk {H : Type} : DataW H → Nat
  | .lit (.string bytes) => bytes.length + 1
  | .lit _ => 1
  | .nil => 1
  | .ptr d => uptoBulk d + 1
  | .slice elems spare => uptoBulkAll elems + uptoBulkAll spare + 1
  | .agg parts => uptoBulkAll parts + 1
  | .iface _ d => uptoBulk d + 1
  | .map entries => uptoBulkEntries entries + 1
  | .held _ => 1
def uptoBulkAll {H : Type} : List (DataW H) → Nat
  | [] => 0
  | d :: r => uptoBulk d + uptoBulkAll r
def uptoBulkEntries {H : Type} : List (Lit × DataW H) → Nat
  | [] => 0
  | x :: r => uptoBulkEntry x + uptoBulkEntries r
def uptoBulkEntry {H : Type} : Lit × DataW H → Nat
  | (.string bytes, d) => bytes.length + uptoBulk d + 1
  | (_, d) => uptoBulk d + 1
 end
def uptoSmall : (H : Type) → List (DataW H) → Bool := fun _ ds => decide (uptoBulkAll ds ≤ 1048576)
def OpenSpec.upto (s : _root_.Go.ChangeSpec) : _root_.Go.OpenSpec := { _root_.Go.OpenSpec.ofChange s with cond := some uptoSmall }

/-- 'laws.FnExactEncodeGamma', WHERE WHAT IT READS IS OF BULK AT MOST 1048576: true; the input reads as it did. -/
def fnExactEncodeGammaUptoRow : OpenClaim := { program := "ytkechjheiakibaa", sum := "eea324ebb1ef5a90d2756cd2ecc4a7910d924f39dc30d622aa30eff23fd6456b", func := "loop.example/g01097/laws.FnExactEncodeGamma", spec := "fnExactEncodeGamma", unfollowed := true, recurses := true, apart := false, narrowed := true }
def FnExactEncodeGammaUptoSaid : Prop := fnExactEncodeGammaUptoRow.holds Try.pinned (OpenSpec.upto fnExactEncodeGammaSpec)

/-- 'laws.FnExactEncodeDelta', WHERE WHAT IT READS IS OF BULK AT MOST 1048576: true; the input reads as it did. -/
def fnExactEncodeDeltaUptoRow : OpenClaim := { program := "ytkechjheiakibaa", sum := "eea324ebb1ef5a90d2756cd2ecc4a7910d924f39dc30d622aa30eff23fd6456b", func := "loop.example/g01097/laws.FnExactEncodeDelta", spec := "fnExactEncodeDelta", unfollowed := true, recurses := true, apart := false, narrowed := true }
def FnExactEncodeDeltaUptoSaid : Prop := fnExactEncodeDeltaUptoRow.holds Try.pinned (OpenSpec.upto fnExactEncodeDeltaSpec)

/-- 'laws.FnExactDecodeGamma', WHERE WHAT IT READS IS OF BULK AT MOST 1048576: true; the input reads as it did. -/
def fnExactDecodeGammaUptoRow : OpenClaim := { program := "ytkechjheiakibaa", sum := "eea324ebb1ef5a90d2756cd2ecc4a7910d924f39dc30d622aa30eff23fd6456b", func := "loop.example/g01097/laws.FnExactDecodeGamma", spec := "fnExactDecodeGamma", unfollowed := true, recurses := true, apart := false, narrowed := true }
def FnExactDecodeGammaUptoSaid : Prop := fnExactDecodeGammaUptoRow.holds Try.pinned (OpenSpec.upto fnExactDecodeGammaSpec)

/-- 'laws.FnExactDecodeDelta', WHERE WHAT IT READS IS OF BULK AT MOST 1048576: true; the input reads as it did. -/
def fnExactDecodeDeltaUptoRow : OpenClaim := { program := "ytkechjheiakibaa", sum := "eea324ebb1ef5a90d2756cd2ecc4a7910d924f39dc30d622aa30eff23fd6456b", func := "loop.example/g01097/laws.FnExactDecodeDelta", spec := "fnExactDecodeDelta", unfollowed := true, recurses := true, apart := false, narrowed := true }
def FnExactDecodeDeltaUptoSaid : Prop := fnExactDecodeDeltaUptoRow.holds Try.pinned (OpenSpec.upto fnExactDecodeDeltaSpec)

/-- 'laws.FnGapsAreCoded', WHERE WHAT IT READS IS OF BULK AT MOST 1048576: true; the input reads as it did. -/
def fnGapsAreCodedUptoRow : OpenClaim := { program := "ytkechjheiakibaa", sum := "eea324ebb1ef5a90d2756cd2ecc4a7910d924f39dc30d622aa30eff23fd6456b", func := "loop.example/g01097/laws.FnGapsAreCoded", spec := "fnGapsAreCoded", unfollowed := true, recurses := true, apart := false, narrowed := true }
def FnGapsAreCodedUptoSaid : Prop := fnGapsAreCodedUptoRow.holds Try.pinned (OpenSpec.upto fnGapsAreCodedSpec)

/-- 'laws.FnCodesAreRead', WHERE WHAT IT READS IS OF BULK AT MOST 1048576: true; the input reads as it did. -/
def fnCodesAreReadUptoRow : OpenClaim := { program := "ytkechjheiakibaa", sum := "eea324ebb1ef5a90d2756cd2ecc4a7910d924f39dc30d622aa30eff23fd6456b", func := "loop.example/g01097/laws.FnCodesAreRead", spec := "fnCodesAreRead", unfollowed := true, recurses := true, apart := false, narrowed := true }
def FnCodesAreReadUptoSaid : Prop := fnCodesAreReadUptoRow.holds Try.pinned (OpenSpec.upto fnCodesAreReadSpec)

/-- 'laws.FnFieldsStay', WHERE WHAT IT READS IS OF BULK AT MOST 1048576: true; the input reads as it did. -/
def fnFieldsStayUptoRow : OpenClaim := { program := "ytkechjheiakibaa", sum := "eea324ebb1ef5a90d2756cd2ecc4a7910d924f39dc30d622aa30eff23fd6456b", func := "loop.example/g01097/laws.FnFieldsStay", spec := "fnFieldsStay", apart := false, narrowed := true }
def FnFieldsStayUptoSaid : Prop := fnFieldsStayUptoRow.holds Try.pinned (OpenSpec.upto fnFieldsStaySpec)

end Rows
end Go.Proofs.Ytkechjheiakibaa
