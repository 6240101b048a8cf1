/- A number of some digits out of a list of words: the reference reads from the highest digit down, the program from the lowest up. -/
import Derived.Test.YtknofkpmeobhbaaXg1a
import Derived.Test.YtknofkpmeobhbaaXpBase
import Derived.Test.YtknofkpmeobhbaaXpBitAt
import Derived.Test.YtknofkpmeobhbaaXpBitAtSpec
import Derived.Test.YtknofkpmeobhbaaXpFld
set_option linter.unusedVariables false
set_option linter.unusedSimpArgs false
namespace Go.Proofs.Ytknofkpmeobhbaa.X
open Go.RowKit Go.Proofs.YtknofkpmeobhbaaW.PrintWords Go.Proofs.YtknofkpmeobhbaaW.PrintLast
theorem biField_L (n : Int) (ws : List Int) (p w : Nat) (hW : Words ws) (hp : ∀ j, j < w → (p + j) / 16 < ws.length) (hb : p + w < 4611686018427387904) (hw : w ≤ 60) :
    ∀ c acc : Nat, c ≤ w → acc * 2 ^ c + fld (fun j => bitAt ws (p + j)) c = fld (fun j => bitAt ws (p + j)) w → spec_biField.L0 p acc ((c : Int) - 1) n ws = some ((fld (fun j => bitAt ws (p + j)) w : Nat) : Int)
  | 0, acc, hc, h => by
    rw [spec_biField.L0_eq, if_neg (by omega)]
    simp only [fld, Nat.pow_zero, Nat.mul_one, Nat.add_zero] at h
    rw [h]
  | c + 1, acc, hc, h => by
    have hl := fld_lt (fun j => bitAt ws (p + j)) w
    have h60 := pow60 hw
    have hpos : 1 ≤ 2 ^ c := Nat.one_le_two_pow
    have hacc : acc * 2 ≤ acc * 2 ^ (c + 1) := Nat.mul_le_mul_left _ (by rw [Nat.pow_succ]; omega)
    have e : wrap64 ((p : Int) + (((c + 1 : Nat) : Int) - 1)) = ((p + c : Nat) : Int) := by rw [w64 (by omega) (by omega)]; omega
    have e2 : wrap64 ((((c + 1 : Nat) : Int) - 1) - 1) = (c : Int) - 1 := by rw [w64 (by omega) (by omega)]; omega
    have e3 : wrap64 ((acc : Int) * 2) = ((acc * 2 : Nat) : Int) := by rw [w64 (by omega) (by omega)]; omega
    rw [spec_biField.L0_eq, if_pos (by omega), e, biAt_F n ws _ hW (hp c (by omega)) (by omega), bsome, e2, e3]
    rw [fld] at h
    have h4 : acc * 2 ^ (c + 1) = acc * 2 * 2 ^ c := by rw [Nat.pow_succ, Nat.mul_comm (2 ^ c) 2, Nat.mul_assoc]
    cases hv : bitAt ws (p + c) with
    | true =>
      have e4 : wrap64 (((acc * 2 : Nat) : Int) + 1) = ((acc * 2 + 1 : Nat) : Int) := by rw [w64 (by omega) (by omega)]; omega
      rw [if_pos rfl, e4]
      refine biField_L n ws p w hW hp hb hw c (acc * 2 + 1) (by omega) ?_
      simp only [hv, if_true] at h
      rw [Nat.add_mul, Nat.one_mul]
      omega
    | false =>
      rw [if_neg (by decide)]
      refine biField_L n ws p w hW hp hb hw c (acc * 2) (by omega) ?_
      simp only [hv, Bool.false_eq_true, if_false] at h
      omega
theorem biField_F (n : Int) (ws : List Int) (p w : Nat) (hW : Words ws) (hp : ∀ j, j < w → (p + j) / 16 < ws.length) (hb : p + w < 4611686018427387904) (hw : w ≤ 60) :
    spec_biField.F n ws p w = some ((fld (fun j => bitAt ws (p + j)) w : Nat) : Int) := by
  rw [spec_biField.F_eq, w64 (by omega) (by omega)]
  exact biField_L n ws p w hW hp hb hw w 0 (by omega) (by omega)
end Go.Proofs.Ytknofkpmeobhbaa.X
