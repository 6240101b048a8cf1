/- Building a sparse set out of a list that is let in: the reference's way and the program's are the same words. -/
import Derived.Test.YtknofkpmeobhbaaXg1a
import Derived.Test.YtknofkpmeobhbaaXg1d
import Derived.Test.YtknofkpmeobhbaaXpBase
import Derived.Test.YtknofkpmeobhbaaXpBitNat
import Derived.Test.YtknofkpmeobhbaaXpBitPut
import Derived.Test.YtknofkpmeobhbaaXpBlank
import Derived.Test.YtknofkpmeobhbaaXpSpSorted
import Derived.Test.YtknofkpmeobhbaaXpSpWidth
set_option linter.unusedVariables false
set_option linter.unusedSimpArgs false
namespace Go.Proofs.Ytknofkpmeobhbaa.X
open Go.RowKit Go.Proofs.YtknofkpmeobhbaaW.PrintWords Go.Proofs.YtknofkpmeobhbaaW.PrintLast
/-- A number's low digits, as the program takes them. -/
theorem low_eq (v w : Nat) (hw : w ≤ 16) (hv : v < 4611686018427387904) : Go.bits .and .i64 (v : Int) (wrap64 (shl .i64 1 (w : Int) - 1)) = ((v % 2 ^ w : Nat) : Int) ∧ Int.tmod (v : Int) (shl .i64 1 (w : Int)) = ((v % 2 ^ w : Nat) : Int) ∧ ¬ shl .i64 1 (w : Int) = 0 := by
  have h1 : 2 ^ w ≤ 2 ^ 16 := Nat.pow_le_pow_right (by omega) hw
  have h16 : 2 ^ 16 = 65536 := by decide
  have h0 : 1 ≤ 2 ^ w := Nat.one_le_two_pow
  have e1 : wrap64 (shl .i64 1 (w : Int) - 1) = ((2 ^ w - 1 : Nat) : Int) := by
    rw [shl1 w (by omega), w64 (by omega) (by omega)]
    omega
  refine ⟨?_, ?_, ?_⟩
  · rw [e1, andN v _ (by have : 2 ^ 62 = 4611686018427387904 := by decide
                         omega) (by have : 2 ^ 62 = 4611686018427387904 := by decide
                                    omega), Nat.and_two_pow_sub_one_eq_mod]
  · rw [shl1 w (by omega), tmod_nn (by omega)]
    exact (Int.natCast_emod _ _).symm
  · rw [shl1 w (by omega)]
    omega
def lowOf (w : Nat) (v : Int) : Int := ((v.toNat % 2 ^ w : Nat) : Int)
theorem w64n {n : Nat} (h : n ≤ 4194304) : wrap64 (n : Int) = (n : Int) := w64 (by omega) (by omega)
theorem step_facts (l : List Int) (m : Int) (w : Nat) (hw : w ≤ 16) (hf : SortedFacts l m) (NH : Nat) (hNH : (NH : Int) = l.length + (m - 1) / 2 ^ w + 1) (n : Nat) (hn : n < l.length) :
    ∃ v : Nat, l.getD n 0 = (v : Int) ∧ v < 4611686018427387904 ∧ l.length * w ≤ 4194304 ∧ n * w + w ≤ l.length * w ∧ v / 2 ^ w + n < NH ∧ NH ≤ 4194304 ∧ l.length ≤ 60 := by
  obtain ⟨hm, hlen, hr, _⟩ := hf
  obtain ⟨hv0, hv1⟩ := hr n hn
  have hb : l.length * w ≤ 60 * 16 := Nat.mul_le_mul hlen hw
  have hb2 : (n + 1) * w ≤ l.length * w := Nat.mul_le_mul_right w (by omega)
  rw [Nat.add_mul, Nat.one_mul] at hb2
  have hq0 : (m - 1) / 2 ^ w ≤ m - 1 := Int.ediv_le_self (2 ^ w : Int) (by omega)
  obtain ⟨v, hv⟩ := Int.eq_ofNat_of_zero_le hv0
  rw [hv] at hv1
  have h1 : (v : Int) / 2 ^ w ≤ (m - 1) / 2 ^ w := Int.ediv_le_ediv (by exact_mod_cast Nat.two_pow_pos w) (by omega)
  have h2 : (v : Int) / 2 ^ w = ((v / 2 ^ w : Nat) : Int) := by simp
  rw [h2] at h1
  generalize hA : (m - 1) / 2 ^ w = A at *
  generalize hB : v / 2 ^ w = B at *
  generalize hC : l.length * w = C at *
  generalize hD : n * w = D at *
  exact ⟨v, hv, by omega, by omega, by omega, by omega, by omega, by omega⟩
theorem build_L (l : List Int) (m : Int) (w : Nat) (hw : w ≤ 16) (hf : SortedFacts l m) (NH : Nat) (hNH : (NH : Int) = l.length + (m - 1) / 2 ^ w + 1) : ∀ (d n : Nat) (x6 x7 : List Bool) (wl wh : List Int) (acc : List Int), n + d = l.length → x6.length = l.length * w → x7.length = NH → Rep x6 wl → Rep x7 wh → acc = (l.take n).map (lowOf w) →
    impl_fields.F (l.map (lowOf w)) w = impl_fields.L0 w (l.map (lowOf w)) l.length n ((l.length * w : Nat) : Int) wl →
    ∃ ul uh : List Int, spec_spOf.L0 l m w x6 x7 l l.length n = some ((l.length : Int), m, (w : Int), ((l.length * w : Nat) : Int), ul, (NH : Int), uh) ∧
      impl_sparse.L0 l m w acc l l.length n (NH : Int) wh = some ((l.length : Int), m, (w : Int), ((l.length * w : Nat) : Int), ul, (NH : Int), uh) ∧ ul.length ≤ 1000 ∧ uh.length ≤ 262144
  | 0, n, x6, x7, wl, wh, acc, h, h6, h7, r6, r7, ha, hi => by
    have hn : n = l.length := by omega
    subst hn
    have hlen := hf.2.1
    have hb : l.length * w ≤ 60 * 16 := Nat.mul_le_mul hlen hw
    have hq : (m - 1) / 2 ^ w ≤ 100000 := by
      have := Int.ediv_le_self (a := m - 1) (2 ^ w : Int) (by have := hf.1.1; omega)
      have := hf.1.2
      omega
    obtain ⟨ul, e1, q1⟩ := biSome_F x6 (by omega)
    obtain ⟨uh, e2, q2⟩ := biSome_F x7 (by omega)
    have e3 : spec_spOf.L0 l m w x6 x7 l l.length l.length = some ((l.length : Int), m, (w : Int), ((l.length * w : Nat) : Int), ul, (NH : Int), uh) := by
      rw [spec_spOf.L0_eq, if_neg (by omega), e1, bsome, e2, bsome, h6, h7]
    have e4 : impl_fields.L0 w (l.map (lowOf w)) l.length l.length ((l.length * w : Nat) : Int) wl = some (((l.length * w : Nat) : Int), wl) := by
      rw [impl_fields.L0_eq, if_neg (by omega)]
    have e5 : impl_sparse.L0 l m w acc l l.length l.length (NH : Int) wh = some ((l.length : Int), m, (w : Int), ((l.length * w : Nat) : Int), wl, (NH : Int), wh) := by
      rw [impl_sparse.L0_eq, if_neg (by omega), ha, List.take_of_length_le (by omega), hi, e4, bsome]
    rw [e3, e5, q1.unique r6, q2.unique r7]
    exact ⟨wl, wh, rfl, rfl, by rw [r6.1]; omega, by rw [r7.1]; omega⟩
  | d + 1, n, x6, x7, wl, wh, acc, h, h6, h7, r6, r7, ha, hi => by
    obtain ⟨v, hv, hvb, hb, hb2, hp, hN, hl60⟩ := step_facts l m w hw hf NH hNH n (by omega)
    obtain ⟨l1, l2, l3⟩ := low_eq v w hw hvb
    have el : lowOf w (l.getD n 0) = ((v % 2 ^ w : Nat) : Int) := by unfold lowOf; rw [hv, Int.toNat_natCast]
    obtain ⟨y6, yl, p1, p2, p3, p4⟩ := put_F (n * w) w ((v % 2 ^ w : Nat) : Int) x6 wl ((l.length * w : Nat) : Int) (by rw [h6]; exact hb2) (by rw [h6]; exact hb) r6
    obtain ⟨yh, p5, p6⟩ := bitsSet_F r7 (NH : Int) (v / 2 ^ w + n) true (by rw [h7]; exact hp) (by rw [h7]; exact hN)
    have hnw : n * w ≤ 4194304 := Nat.le_trans (Nat.le_trans (Nat.le_add_right _ _) hb2) hb
    have e1 : wrap64 ((n : Int) * (w : Int)) = ((n * w : Nat) : Int) := by
      rw [(Int.natCast_mul n w).symm]
      exact w64n hnw
    have e2 : wrap64 (((v / 2 ^ w : Nat) : Int) + (n : Int)) = ((v / 2 ^ w + n : Nat) : Int) := by
      rw [(Int.natCast_add (v / 2 ^ w) n).symm]
      exact w64n (Nat.le_of_lt (Nat.lt_of_lt_of_le hp hN))
    have hn : (n : Int) < (l.length : Int) := by omega
    have hn0 : (0 : Int) ≤ (n : Int) := Int.natCast_nonneg _
    have hw0 : (0 : Int) ≤ (w : Int) := Int.natCast_nonneg _
    have hn' : n < l.length := Int.ofNat_lt.mp hn
    have hn1 : n < 9223372036854775807 := Nat.lt_trans (Nat.lt_of_lt_of_le hn' hl60) (by decide)
    have hw62 : w < 62 := Nat.lt_of_le_of_lt hw (by decide)
    have hp0 : (0 : Int) ≤ ((v / 2 ^ w + n : Nat) : Int) := Int.natCast_nonneg _
    have hp1 : ((v / 2 ^ w + n : Nat) : Int) < (x7.length : Int) := by rw [h7]; exact_mod_cast hp
    have hacc : acc.length < 17592186044416 := by
      rw [ha, List.length_map]
      exact Nat.lt_of_le_of_lt (Nat.le_trans (List.length_take_le _ _) (Nat.le_trans (Nat.le_of_lt hn') hl60)) (show 60 < 17592186044416 by decide)
    have g1 : spec_spOf.L0 l m w x6 x7 l l.length n = spec_spOf.L0 l m w y6 (x7.set (v / 2 ^ w + n) true) l l.length ((n + 1 : Nat) : Int) := by
      rw [spec_spOf.L0_eq, if_pos hn, if_pos hn0, if_pos hn, if_pos hw0, if_neg l3, rdn, hv, l2, e1, p1, bsome, shrN v w hw62, e2, if_pos hp0, if_pos hp1, Int.toNat_natCast, wn hn1]
    have g2 : impl_sparse.L0 l m w acc l l.length n (NH : Int) wh = impl_sparse.L0 l m w (acc ++ [((v % 2 ^ w : Nat) : Int)]) l l.length ((n + 1 : Nat) : Int) (NH : Int) yh := by
      rw [impl_sparse.L0_eq, if_pos hn, if_pos hn0, if_pos hn, if_pos hw0, if_pos hacc, rdn, hv, l1, shrN v w hw62, e2, p5, bsome, wn hn1]
    have g3 : impl_fields.L0 w (l.map (lowOf w)) l.length n ((l.length * w : Nat) : Int) wl = impl_fields.L0 w (l.map (lowOf w)) l.length ((n + 1 : Nat) : Int) ((l.length * w : Nat) : Int) yl := by
      have : (l.map (lowOf w)).getD n 0 = ((v % 2 ^ w : Nat) : Int) := by
        rw [← el, List.getD_eq_getElem?_getD, List.getElem?_map, List.getD_eq_getElem?_getD, List.getElem?_eq_getElem hn']
        rfl
      rw [impl_fields.L0_eq, if_pos hn, if_pos hn0, if_pos (by rw [List.length_map]; exact hn), rdn, this, e1, p2, bsome, wn hn1]
    rw [g1, g2]
    refine build_L l m w hw hf NH hNH d (n + 1) y6 _ yl yh _ (by rw [← h, Nat.add_assoc, Nat.add_comm 1 d]) (p3.trans h6) (by rw [List.length_set]; exact h7) p4 p6 ?_ (hi.trans g3)
    rw [ha, take_succ_getD l 0 n hn', List.map_append, ← el]
    rfl
theorem build_both (l : List Int) (m : Int) (hf : SortedFacts l m) : ∃ (w : Nat) (ul uh : List Int), w ≤ 16 ∧ spec_spWidth.F (l.length : Int) m = some (w : Int) ∧
    spec_spOf.F l m = some ((l.length : Int), m, (w : Int), ((l.length * w : Nat) : Int), ul, (l.length : Int) + (m - 1) / 2 ^ w + 1, uh) ∧
    impl_sparse.F l m = some ((l.length : Int), m, (w : Int), ((l.length * w : Nat) : Int), ul, (l.length : Int) + (m - 1) / 2 ^ w + 1, uh) ∧ ul.length ≤ 1000 ∧ uh.length ≤ 262144 := by
  have hlen := hf.2.1
  have hm := hf.1
  obtain ⟨w, w1, w2, w3⟩ := width_both (l.length : Int) m (by omega) hm
  have hb : l.length * w ≤ 60 * 16 := Nat.mul_le_mul hlen w3
  have hq0 : (m - 1) / 2 ^ w ≤ 100000 := by
    have := Int.ediv_le_self (a := m - 1) (2 ^ w : Int) (by omega)
    omega
  have hq1 : 0 ≤ (m - 1) / 2 ^ w := Int.ediv_nonneg (by omega) (by exact_mod_cast Nat.zero_le _)
  obtain ⟨NH, hNH⟩ := Int.eq_ofNat_of_zero_le (a := (l.length : Int) + (m - 1) / 2 ^ w + 1) (by omega)
  have e1 : wrap64 ((l.length : Int) * (w : Int)) = ((l.length * w : Nat) : Int) := by
    rw [(Int.natCast_mul l.length w).symm, w64 (by omega) (by omega)]
  have e2 : shr .i64 (wrap64 (m - 1)) (w : Int) = (m - 1) / 2 ^ w := by
    rw [w64 (by omega) (by omega)]
    obtain ⟨q, hq⟩ := Int.eq_ofNat_of_zero_le (a := m - 1) (by omega)
    rw [hq, shrN q w (by omega)]
    simp
  have e3 : wrap64 (wrap64 ((l.length : Int) + (m - 1) / 2 ^ w) + 1) = (NH : Int) := by
    rw [w64 (x := (l.length : Int) + (m - 1) / 2 ^ w) (by omega) (by omega), w64 (by omega) (by omega), hNH]
  have hmap : (l.map (lowOf w)).length = l.length := by simp
  have e4 : impl_fields.F (l.map (lowOf w)) w = impl_fields.L0 w (l.map (lowOf w)) l.length ((0 : Nat) : Int) ((l.length * w : Nat) : Int) (List.replicate ((l.length * w + 15) / 16) 0) := by
    rw [impl_fields.F_eq, hmap, e1, blank_F _ (by omega), bsome]
    rfl
  obtain ⟨ul, uh, g1, g2, g3, g4⟩ := build_L l m w w3 hf NH hNH.symm l.length 0 (List.replicate (l.length * w) false) (List.replicate NH false) _ _ [] (by omega) (by simp) (by simp) (Rep.zeros _) (Rep.zeros _) (by simp) e4
  refine ⟨w, ul, uh, w3, w1, ?_, ?_, g3, g4⟩
  · rw [spec_spOf.F_eq, w1, bsome, e1, if_pos (by omega), if_pos (by omega), if_pos (by omega), e2, e3, if_pos (by omega), if_pos (by omega), Int.toNat_natCast, Int.toNat_natCast, hNH]
    exact g1
  · rw [impl_sparse.F_eq, w2, bsome, if_pos (by omega), e2, e3, blank_F _ (by omega), bsome, hNH]
    exact g2
end Go.Proofs.Ytknofkpmeobhbaa.X
