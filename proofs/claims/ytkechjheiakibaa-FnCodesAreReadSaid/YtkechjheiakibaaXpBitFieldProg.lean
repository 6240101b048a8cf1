/- A number of some digits out of a list of words, as the program reads it. -/
import Derived.Test.YtkechjheiakibaaXg7ca
import Derived.Test.YtkechjheiakibaaXpBase
import Derived.Test.YtkechjheiakibaaXpBitAt
import Derived.Test.YtkechjheiakibaaXpBitAtProg
import Derived.Test.YtkechjheiakibaaXpBitNat
import Derived.Test.YtkechjheiakibaaXpFld
namespace Go.Proofs.Ytkechjheiakibaa.X
open Go.RowKit Go.Proofs.YtkechjheiakibaaW.PrintWords Go.Proofs.YtkechjheiakibaaW.PrintLast
set_option linter.unusedVariables false
set_option linter.unusedSimpArgs false
theorem bitsField_L (n : Int) (ws : List Int) (p w : Nat) (hW : Words ws) (hp : ∀ j, j < w → (p + j) / 16 < ws.length) (hb : p + w < 4611686018427387904) (hw : w ≤ 60) :
    ∀ d i : Nat, i + d = w → impl_Bits_field.L0 p ((fld (fun j => bitAt ws (p + j)) i : Nat) : Int) w i n ws = some ((fld (fun j => bitAt ws (p + j)) w : Nat) : Int)
  | 0, i, h => by
    rw [impl_Bits_field.L0_eq, if_neg (by omega), show i = w from by omega]
  | d + 1, i, h => by
    have hl := fld_lt (fun j => bitAt ws (p + j)) i
    have e : wrap64 ((p : Int) + (i : Int)) = ((p + i : Nat) : Int) := by rw [w64 (by omega) (by omega)]; omega
    have ih := bitsField_L n ws p w hW hp hb hw d (i + 1) (by omega)
    rw [impl_Bits_field.L0_eq, if_pos (by omega), e, bitsAt_F n ws _ hW (hp i (by omega)) (by omega), bsome, wn (by omega)]
    rw [fld] at ih
    cases hv : bitAt ws (p + i) with
    | true =>
      have h62 : 2 ^ i < 2 ^ 62 := Nat.pow_lt_pow_right (by omega) (by omega)
      rw [if_pos rfl, if_pos (by omega), shl1 i (by omega), orN _ _ (by omega) h62, or_top hl]
      simpa only [hv, if_true] using ih
    | false =>
      rw [if_neg (by decide)]
      simpa only [hv, Bool.false_eq_true, if_false, Nat.add_zero] using ih
theorem bitsField_F (n : Int) (ws : List Int) (p w : Nat) (hW : Words ws) (hp : ∀ j, j < w → (p + j) / 16 < ws.length) (hb : p + w < 4611686018427387904) (hw : w ≤ 60) :
    impl_Bits_field.F n ws p w = some ((fld (fun j => bitAt ws (p + j)) w : Nat) : Int) := by
  rw [impl_Bits_field.F_eq]
  exact bitsField_L n ws p w hW hp hb hw w 0 (by omega)
end Go.Proofs.Ytkechjheiakibaa.X
