/- A mark and a number out of the two lists of words inside a sparse set, as the program reads them. -/
import Derived.Test.YtknofkpmeobhbaaXg1d
import Derived.Test.YtknofkpmeobhbaaXpBase
import Derived.Test.YtknofkpmeobhbaaXpBitAt
import Derived.Test.YtknofkpmeobhbaaXpBitNat
import Derived.Test.YtknofkpmeobhbaaXpFld
set_option linter.unusedVariables false
set_option linter.unusedSimpArgs false
namespace Go.Proofs.Ytknofkpmeobhbaa.X
open Go.RowKit Go.Proofs.YtknofkpmeobhbaaW.PrintWords Go.Proofs.YtknofkpmeobhbaaW.PrintLast
variable (n m wd nl : Int) (wl : List Int) (nh : Int) (wh : List Int)
theorem bitsAt5_F (i : Nat) (hw : Words wh) (hi : i / 16 < wh.length) (hb : i < 4611686018427387904) : impl_Bits_at_in_30_5.f n m wd nl wl nh wh i = some (bitAt wh i) := by
  obtain ⟨w1, w2⟩ := word_at i hb
  obtain ⟨q, hq⟩ := Int.eq_ofNat_of_zero_le (hw _ hi).1
  have := (hw _ hi).2
  unfold impl_Bits_at_in_30_5.f bitAt
  rw [w1, w2, if_pos (by omega), if_pos (by omega), if_pos (by omega), rdn, hq, Int.toNat_natCast, bit_of q _ (by omega) (by omega)]
theorem bitsAt3_F (i : Nat) (hw : Words wl) (hi : i / 16 < wl.length) (hb : i < 4611686018427387904) : impl_Bits_at_in_30_3.f n m wd nl wl nh wh i = some (bitAt wl i) := by
  obtain ⟨w1, w2⟩ := word_at i hb
  obtain ⟨q, hq⟩ := Int.eq_ofNat_of_zero_le (hw _ hi).1
  have := (hw _ hi).2
  unfold impl_Bits_at_in_30_3.f bitAt
  rw [w1, w2, if_pos (by omega), if_pos (by omega), if_pos (by omega), rdn, hq, Int.toNat_natCast, bit_of q _ (by omega) (by omega)]
theorem bitsField3_L (p w : Nat) (hW : Words wl) (hp : ∀ j, j < w → (p + j) / 16 < wl.length) (hb : p + w < 4611686018427387904) (hw : w ≤ 60) :
    ∀ d i : Nat, i + d = w → impl_Bits_field_in_30_3.L0 p ((fld (fun j => bitAt wl (p + j)) i : Nat) : Int) w i n m wd nl wl nh wh = some ((fld (fun j => bitAt wl (p + j)) w : Nat) : Int)
  | 0, i, h => by
    rw [impl_Bits_field_in_30_3.L0_eq, if_neg (by omega), show i = w from by omega]
  | d + 1, i, h => by
    have hl := fld_lt (fun j => bitAt wl (p + j)) i
    have e : wrap64 ((p : Int) + (i : Int)) = ((p + i : Nat) : Int) := by rw [w64 (by omega) (by omega)]; omega
    have ih := bitsField3_L p w hW hp hb hw d (i + 1) (by omega)
    rw [impl_Bits_field_in_30_3.L0_eq, if_pos (by omega), e, bitsAt3_F n m wd nl wl nh wh _ hW (hp i (by omega)) (by omega), bsome, wn (by omega)]
    rw [fld] at ih
    cases hv : bitAt wl (p + i) with
    | true =>
      have h62 : 2 ^ i < 2 ^ 62 := Nat.pow_lt_pow_right (by omega) (by omega)
      rw [if_pos rfl, if_pos (by omega), shl1 i (by omega), orN _ _ (by omega) h62, or_top hl]
      simpa only [hv, if_true] using ih
    | false =>
      rw [if_neg (by decide)]
      simpa only [hv, Bool.false_eq_true, if_false, Nat.add_zero] using ih
theorem bitsField3_F (p w : Nat) (hW : Words wl) (hp : ∀ j, j < w → (p + j) / 16 < wl.length) (hb : p + w < 4611686018427387904) (hw : w ≤ 60) :
    impl_Bits_field_in_30_3.F n m wd nl wl nh wh p w = some ((fld (fun j => bitAt wl (p + j)) w : Nat) : Int) := by
  rw [impl_Bits_field_in_30_3.F_eq]
  exact bitsField3_L n m wd nl wl nh wh p w hW hp hb hw w 0 (by omega)
end Go.Proofs.Ytknofkpmeobhbaa.X
