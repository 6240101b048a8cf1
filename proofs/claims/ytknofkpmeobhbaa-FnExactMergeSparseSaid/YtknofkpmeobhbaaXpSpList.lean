/- The numbers of a sparse set: the reference's list and the program's are the same. -/
import Derived.Test.YtknofkpmeobhbaaXg1a
import Derived.Test.YtknofkpmeobhbaaXg1e
import Derived.Test.YtknofkpmeobhbaaXpBase
import Derived.Test.YtknofkpmeobhbaaXpBitAt
import Derived.Test.YtknofkpmeobhbaaXpBitAtSpec
import Derived.Test.YtknofkpmeobhbaaXpBitField
import Derived.Test.YtknofkpmeobhbaaXpBitNat
import Derived.Test.YtknofkpmeobhbaaXpFld
import Derived.Test.YtknofkpmeobhbaaXpSpBuild
import Derived.Test.YtknofkpmeobhbaaXpSpRead
import Derived.Test.YtknofkpmeobhbaaXpSpWidth
set_option linter.unusedVariables false
set_option linter.unusedSimpArgs false
namespace Go.Proofs.Ytknofkpmeobhbaa.X
open Go.RowKit Go.Proofs.YtknofkpmeobhbaaW.PrintWords Go.Proofs.YtknofkpmeobhbaaW.PrintLast
theorem val_eq (i len w L : Nat) (h : len ≤ i) (hi : i ≤ 4096) (hw : w ≤ 16) (hL : L < 2 ^ w) :
    wrap64 (shl .i64 (wrap64 ((i : Int) - (len : Int))) (w : Int) + (L : Int)) = (((i - len) * 2 ^ w + L : Nat) : Int) ∧ Go.bits .or .i64 (shl .i64 (wrap64 ((i : Int) - (len : Int))) (w : Int)) (L : Int) = (((i - len) * 2 ^ w + L : Nat) : Int) := by
  have e : wrap64 ((i : Int) - (len : Int)) = ((i - len : Nat) : Int) := by rw [w64 (by omega) (by omega)]; omega
  have h1 : 2 ^ w ≤ 2 ^ 16 := Nat.pow_le_pow_right (by omega) hw
  have h16 : 2 ^ 16 = 65536 := by decide
  have hq : (i - len) * 2 ^ w ≤ 4096 * 65536 := Nat.mul_le_mul (by omega) (by omega)
  have h62 : 2 ^ 62 = 4611686018427387904 := by decide
  have e2 := shlN (i - len) w (by omega) (by omega)
  have e3 := Nat.two_pow_add_eq_or_of_lt hL (i - len)
  rw [e, e2]
  generalize hQ : (i - len) * 2 ^ w = Q at *
  rw [Nat.mul_comm, hQ] at e3
  constructor
  · rw [w64 (by omega) (by omega)]
    omega
  · rw [orN Q L (by omega) (by omega), ← e3]
section
variable (n w NH : Nat) (m nl : Int) (wl wh : List Int) (hn : n ≤ 60) (hw : w ≤ 16) (hN : NH ≤ 4096) (hL : Words wl) (hH : Words wh) (hl : ∀ j, j < n * w → j / 16 < wl.length) (hh : ∀ j, j < NH → j / 16 < wh.length)
include hN hH hh in
theorem skip_L (acc : List Int) (ha : acc.length = n) : ∀ d i : Nat, i + d = NH → impl_Sparse_numbers.L0 w acc NH i n m w nl wl NH wh = impl_Sparse_numbers.L0 w acc NH NH n m w nl wl NH wh
  | 0, i, h => by rw [show i = NH from by omega]
  | d + 1, i, h => by
    rw [← skip_L acc ha d (i + 1) (by omega)]
    rw [impl_Sparse_numbers.L0_eq w acc NH i, if_pos (by omega), bitsAt5_F n m w nl wl NH wh i hH (hh i (by omega)) (by omega), bsome, wn (by omega)]
    cases bitAt wh i with
    | true => rw [if_pos rfl, if_neg (by omega)]
    | false => rw [if_neg (by decide)]
include hn hw hN hL hH hl hh in
theorem list_L : ∀ (d i : Nat) (acc : List Int), i + d = NH → acc.length ≤ i → acc.length ≤ n →
    ∃ l, spec_spList.L0 acc i n m w nl wl NH wh = some l ∧ impl_Sparse_numbers.L0 w acc NH i n m w nl wl NH wh = impl_Sparse_numbers.L0 w l NH NH n m w nl wl NH wh ∧ l.length ≤ n
  | 0, i, acc, h, h1, h2 => by
    rw [spec_spList.L0_eq, if_neg (by omega), spec_spList.J1_eq, if_neg (by decide), show i = NH from by omega]
    exact ⟨acc, rfl, rfl, h2⟩
  | d + 1, i, acc, h, h1, h2 => by
    have hi : i < NH := by omega
    have hiI : (i : Int) < (NH : Int) := by omega
    have e5 := bitsAt5_F n m w nl wl NH wh i hH (hh i hi) (by omega)
    have e6 := biAt_F NH wh i hH (hh i hi) (by omega)
    have hwn : wrap64 ((i : Int) + 1) = ((i + 1 : Nat) : Int) := wn (by omega)
    by_cases hc : acc.length < n
    · have hcI : (acc.length : Int) < (n : Int) := by omega
      have hb : acc.length * w + w ≤ n * w := by
        have : (acc.length + 1) * w ≤ n * w := Nat.mul_le_mul_right w hc
        rwa [Nat.add_mul, Nat.one_mul] at this
      have hb2 : n * w ≤ 60 * 16 := Nat.mul_le_mul hn hw
      have hp : ∀ j, j < w → (acc.length * w + j) / 16 < wl.length := fun j hj => hl _ (Nat.lt_of_lt_of_le (Nat.add_lt_add_left hj _) hb)
      have hpw : acc.length * w + w < 4611686018427387904 := Nat.lt_of_le_of_lt (Nat.le_trans hb hb2) (by decide)
      have f1 := biField_F nl wl (acc.length * w) w hL hp hpw (Nat.le_trans hw (by decide))
      have f2 := bitsField3_F n m w nl wl NH wh (acc.length * w) w hL hp hpw (Nat.le_trans hw (by decide))
      have e1 : wrap64 ((acc.length : Int) * (w : Int)) = ((acc.length * w : Nat) : Int) := by
        rw [(Int.natCast_mul acc.length w).symm]
        exact w64n (Nat.le_trans (Nat.le_trans (Nat.le_add_right _ _) hb) (Nat.le_trans hb2 (by decide)))
      obtain ⟨v1, v2⟩ := val_eq i acc.length w (fld (fun j => bitAt wl (acc.length * w + j)) w) h1 (by omega) hw (fld_lt _ _)
      have hw0 : (0 : Int) ≤ (w : Int) := Int.natCast_nonneg _
      have ha : acc.length < 17592186044416 := Nat.lt_of_lt_of_le hc (Nat.le_trans hn (by decide))
      rw [spec_spList.L0_eq, if_pos hiI, decide_eq_true hcI, spec_spList.J1_eq, if_pos rfl, e6, bsome]
      cases hv : bitAt wh i with
      | true =>
        obtain ⟨l, g1, g2, g3⟩ := list_L d (i + 1) (acc ++ [(((i - acc.length) * 2 ^ w + fld (fun j => bitAt wl (acc.length * w + j)) w : Nat) : Int)]) (by omega) (by simp; omega) (by simp; omega)
        refine ⟨l, ?_, ?_, g3⟩
        · rw [if_pos rfl, if_pos hw0, e1, f1, bsome, if_pos ha, v1, hwn]
          exact g1
        · rw [← g2, impl_Sparse_numbers.L0_eq w acc NH i, if_pos hiI, e5, bsome, hv, if_pos rfl, if_pos hcI, if_pos hw0, e1, f2, bsome, if_pos ha, v2, hwn]
      | false =>
        obtain ⟨l, g1, g2, g3⟩ := list_L d (i + 1) acc (by omega) (by omega) h2
        refine ⟨l, ?_, ?_, g3⟩
        · rw [if_neg (by decide), hwn]
          exact g1
        · rw [← g2, impl_Sparse_numbers.L0_eq w acc NH i, if_pos hiI, e5, bsome, hv, if_neg (by decide), hwn]
    · refine ⟨acc, ?_, skip_L n w NH m nl wl wh hN hH hh acc (by omega) (d + 1) i h, h2⟩
      rw [spec_spList.L0_eq, if_pos hiI, decide_eq_false (by omega), spec_spList.J1_eq, if_neg (by decide)]
include hn hw hN hL hH hl hh in
theorem list_F : ∃ l, spec_spList.F n m w nl wl NH wh = some l ∧ impl_Sparse_numbers.L0 w [] NH 0 n m w nl wl NH wh = impl_Sparse_numbers.L0 w l NH NH n m w nl wl NH wh ∧ l.length ≤ n := by
  rw [spec_spList.F_eq]
  exact list_L n w NH m nl wl wh hn hw hN hL hH hl hh NH 0 [] (by omega) (by simp) (by simp)
end
end Go.Proofs.Ytknofkpmeobhbaa.X
