/- The plain part of the law FnFieldsStay: the program's answer is the reference's, a field keeps what is put into it, and all marks beside it stay, for all arguments. -/
import Derived.Test.YtkechjheiakibaaXg40a
import Derived.Test.YtkechjheiakibaaXg40b
import Derived.Test.YtkechjheiakibaaXg40c
import Derived.Test.YtkechjheiakibaaXg40d
import Derived.Test.YtkechjheiakibaaXpBase
import Derived.Test.YtkechjheiakibaaXpBitAt
import Derived.Test.YtkechjheiakibaaXpBitAtProg
import Derived.Test.YtkechjheiakibaaXpBitFieldProg
import Derived.Test.YtkechjheiakibaaXpBitNat
import Derived.Test.YtkechjheiakibaaXpBitPut
import Derived.Test.YtkechjheiakibaaXpBitsGood
import Derived.Test.YtkechjheiakibaaXpDrawPut
import Derived.Test.YtkechjheiakibaaXpDraws
import Derived.Test.YtkechjheiakibaaXpFld
import Derived.Test.YtkechjheiakibaaXpPuts
import Derived.Test.YtkechjheiakibaaXpWithin
namespace Go.Proofs.Ytkechjheiakibaa.Pure
open Go.RowKit Go.Proofs.Ytkechjheiakibaa.X Go.Proofs.YtkechjheiakibaaW.PrintWords Go.Proofs.YtkechjheiakibaaW.PrintLast
set_option linter.unusedVariables false
set_option linter.unusedSimpArgs false
theorem pow24 {w : Nat} (hw : w ≤ 24) : 2 ^ w ≤ 16777216 := by
  have h1 : 2 ^ w ≤ 2 ^ 24 := Nat.pow_le_pow_right (by omega) hw
  have h2 : 2 ^ 24 = 16777216 := by decide
  omega
theorem fieldOk_F (n : Int) (ws : List Int) (hl : ws.length ≤ 1048576) (a w : Int) : impl_Bits_fieldOk.F n ws a w = some (goodB n ws && (decide (0 ≤ w ∧ w ≤ 24) && decide (0 ≤ a ∧ a ≤ wrap64 (n - w)))) := by
  rw [impl_Bits_fieldOk.F_eq, isBits_F n ws hl, bsome, in_f, bsome, in_f, bsome]
  cases goodB n ws <;> cases decide (0 ≤ w ∧ w ≤ 24) <;> rfl
theorem room_F (n : Int) (ws : List Int) (hl : ws.length ≤ 1048576) (a w : Int) : spec_biRoom.F n ws a w = some (goodB n ws && (decide (0 ≤ w ∧ w ≤ 24) && decide (0 ≤ a ∧ a ≤ wrap64 (n - w)))) := by
  rw [spec_biRoom.F_eq, biGood_F n ws hl, bsome, l1In_f, bsome, l1In_f, bsome]
  cases goodB n ws <;> cases decide (0 ≤ w ∧ w ≤ 24) <;> rfl
theorem put_both (n : Int) (ws : List Int) (hl : ws.length ≤ 1048576) (a w v : Int) :
    (impl_PutField.F n ws a w v = some (0, [], false) ∧ spec_PutField.F n ws a w v = some (0, [], false)) ∨
    ∃ (N p W m : Nat) (bs : List Bool) (us : List Int), n = N ∧ a = p ∧ w = W ∧ v = m ∧ goodB N ws = true ∧ N ≤ 4096 ∧ W ≤ 24 ∧ p + W ≤ N ∧ m < 2 ^ W ∧
      impl_PutField.F n ws a w v = some (n, us, true) ∧ spec_PutField.F n ws a w v = some (n, us, true) ∧ Rep bs us ∧ bs.length = N ∧ ∀ i : Nat, bs.getD i false = if p ≤ i ∧ i < p + W then m.testBit (i - p) else (bl ws N).getD i false := by
  have j1 : impl_PutField.J0 a w v true n ws = some (0, [], false) := by rw [impl_PutField.J0_eq, if_pos rfl]
  have j2 : spec_PutField.J0 a w v true n ws = some (0, [], false) := by rw [spec_PutField.J0_eq, if_pos rfl]
  rw [impl_PutField.F_eq, spec_PutField.F_eq, fieldOk_F n ws hl, room_F n ws hl, bsome, bsome, j1, j2]
  by_cases h : (goodB n ws && (decide (0 ≤ w ∧ w ≤ 24) && decide (0 ≤ a ∧ a ≤ wrap64 (n - w)))) = true
  · rw [if_pos h, if_pos h]
    simp only [Bool.and_eq_true, decide_eq_true_eq] at h
    obtain ⟨h1, h2, h3⟩ := h
    obtain ⟨g1, g2, g3⟩ := goodB_facts h1
    rw [w64 (x := n - w) (by omega) (by omega)] at h3
    obtain ⟨N, rfl⟩ := Int.eq_ofNat_of_zero_le g1.1
    obtain ⟨W, rfl⟩ := Int.eq_ofNat_of_zero_le h2.1
    obtain ⟨p, rfl⟩ := Int.eq_ofNat_of_zero_le h3.1
    have hp := pow24 (w := W) (by omega)
    have hpos := Nat.two_pow_pos W
    rw [if_pos h2.1, if_pos h2.1, in_f, l1In_f, bsome, bsome, shl1 W (by omega), w64 (x := ((2 ^ W : Nat) : Int) - 1) (by omega) (by omega)]
    by_cases h4 : 0 ≤ v ∧ v ≤ ((2 ^ W : Nat) : Int) - 1
    · right
      obtain ⟨m, rfl⟩ := Int.eq_ofNat_of_zero_le h4.1
      have hr := rep_good h1
      have hw : Words ws := words_rep hr
      obtain ⟨b2, w2, e1, e2, e3, r2, g⟩ := put_G p W (m : Int) W 0 (bl ws N) ws (N : Int) (by omega) (by rw [bl_len]; omega) (by rw [bl_len]; omega) hr
      rw [bl_len] at e3
      obtain ⟨w3, e4, r3⟩ := biSome_F b2 (by omega)
      have := r3.unique r2
      subst this
      refine ⟨N, p, W, m, b2, w3, rfl, rfl, rfl, rfl, h1, by omega, by omega, by omega, by omega, ?_, ?_, r2, e3, fun i => ?_⟩
      · rw [decide_eq_true h4, impl_PutField.J0_eq, if_neg (by simp)]
        unfold impl_cloneBits.f slices_Clone_int_int.f
        rw [if_pos (by omega), bsome, bsome, impl_Bits_setField.F_eq]
        have e2' : impl_Bits_setField.L0 (p : Int) (m : Int) (W : Int) 0 (N : Int) ws = some w3 := e2
        rw [e2', bsome]
      · rw [decide_eq_true h4, spec_PutField.J0_eq, if_neg (by simp), list_F ws N hw (by omega) hl, bsome, spec_biPut.F_eq]
        have e1' : spec_biPut.L0 (bl ws N) (p : Int) (W : Int) (m : Int) 0 = some b2 := e1
        rw [e1', bsome, e4, bsome, e3]
      · rw [g i, Nat.add_zero]
        by_cases h5 : p ≤ i ∧ i < p + W
        · rw [if_pos h5, if_pos h5, bit_big m (i - p) (Nat.lt_of_lt_of_le (show m < 16777216 from by omega) (by decide)) (by omega)]
        · rw [if_neg h5, if_neg h5]
    · left
      rw [decide_eq_false h4]
      exact ⟨j1, j2⟩
  · left
    rw [if_neg h, if_neg h]
    exact ⟨rfl, rfl⟩
theorem pSameI_L (l : List Int) (hl : l.length ≤ 1048576) : ∀ d n : Nat, n + d = l.length → laws_pSameInts.L0 l l l.length n = some true
  | 0, n, h => by rw [laws_pSameInts.L0_eq, if_neg (by omega)]
  | d + 1, n, h => by
    rw [laws_pSameInts.L0_eq, if_pos (by omega), if_pos (by omega), if_pos (by omega), if_pos (by omega), if_pos rfl, wn (by omega)]
    exact pSameI_L l hl d (n + 1) (by omega)
theorem pSameB_F (n : Int) (l : List Int) (hl : l.length ≤ 1048576) : laws_pSameBits.F n l n l = some true := by
  rw [laws_pSameBits.F_eq, if_pos rfl, laws_pSameInts.F_eq, if_pos rfl]
  have := pSameI_L l hl l.length 0 (by omega)
  have h : laws_pSameInts.L0 l l l.length 0 = some true := this
  rw [h, bsome]
theorem bitAt_good (N : Nat) (ws : List Int) (hl : ws.length ≤ 1048576) (hg : goodB N ws = true) (i : Nat) (hi : i < N) : impl_BitAt.F N ws i = some (bitAt ws i, true) := by
  obtain ⟨g1, g2, g3⟩ := goodB_facts hg
  have hw : Words ws := words_rep (rep_good hg)
  rw [impl_BitAt.F_eq, isBits_F _ ws hl, bsome, if_pos hg, in_f, bsome, w64 (x := (N : Int) - 1) (by omega) (by omega), if_pos (decide_eq_true (by omega)), bitsAt_F _ ws i hw (by omega) (by omega), bsome]
theorem stay_L (N p W : Nat) (ws us : List Int) (hN : N ≤ 4096) (hp : p + W ≤ N) (hl : ws.length ≤ 1048576) (hu : us.length ≤ 1048576) (hg : goodB N ws = true) (hk : goodB N us = true) (hb : ∀ i, i < N → ¬ (p ≤ i ∧ i < p + W) → bitAt us i = bitAt ws i) :
    ∀ d i : Nat, i + d = N → laws_FnFieldsStay.L0 p W i N ws N us = some true
  | 0, i, h => by rw [laws_FnFieldsStay.L0_eq, if_neg (by omega)]
  | d + 1, i, h => by
    rw [laws_FnFieldsStay.L0_eq, if_pos (by omega), bitAt_good N ws hl hg i (by omega), bsome, bitAt_good N us hu hk i (by omega), bsome, if_pos rfl, if_pos rfl, wn (by omega), w64 (x := (p : Int) + W) (by omega) (by omega), stay_L N p W ws us hN hp hl hu hg hk hb d (i + 1) (by omega)]
    by_cases h1 : p ≤ i ∧ i < p + W
    · split
      · rw [if_neg (by omega), if_neg (by omega)]
      · rfl
    · rw [if_neg (by rw [hb i (by omega) h1]; simp)]
theorem FnFieldsStay : X.laws_FnFieldsStay.Pure := by
  intro l0 l1 w0 w1
  refine Sup.rounds (laws_FnFieldsStay.F_sup l0 l1) ?_
  rw [laws_FnFieldsStay.F_eq]
  unfold laws_big.f
  by_cases h : (l0.length : Int) > 1048576
  · rw [if_pos h, bsome, if_pos rfl]
  · rw [if_neg h, bsome]
    by_cases h2 : (l1.length : Int) > wrap64 (1048576 - (l0.length : Int))
    · rw [if_pos (decide_eq_true h2)]
    · rw [if_neg (by rw [decide_eq_false h2]; simp)]
      have hB : Bytes l0 := ⟨by omega, fun i hi => wfI_u8 (w0.2 _ (getD_mem l0 0 i hi))⟩
      obtain ⟨n, ws, a, w, v, e1, hl⟩ := drawPut_t l0 hB
      rw [e1, bsome]
      dsimp only
      rcases put_both n ws (by omega) a w v with ⟨p1, p2⟩ | ⟨N, p, W, m, bs, us, rfl, rfl, rfl, rfl, hg, hN, hW, hpW, hm, p1, p2, hr, hbl, hbit⟩
      · rw [p1, p2, bsome, bsome]
        dsimp only
        rw [if_neg (by simp), pSameB_F 0 [] (by simp), bsome, if_pos rfl, if_neg (by simp)]
      · have hul := hr.1
        have hk : goodB N us = true := by
          have := good_rep hr (by omega)
          rw [hbl] at this
          exact this
        rw [p1, p2, bsome, bsome]
        dsimp only
        rw [if_neg (by simp), pSameB_F _ us (by omega), bsome, if_pos rfl, if_pos rfl, impl_ReadField.F_eq, fieldOk_F _ us (by omega), bsome, hk, decide_eq_true (show 0 ≤ (W : Int) ∧ (W : Int) ≤ 24 from by omega), w64 (x := (N : Int) - W) (by omega) (by omega), decide_eq_true (show 0 ≤ (p : Int) ∧ (p : Int) ≤ (N : Int) - W from by omega)]
        have hf : fld (fun j => bitAt us (p + j)) W = m := by
          rw [fld_same _ (fun j => m.testBit j) W (fun j hj => by
            rw [bitAt_rep hr (p + j) (by omega), hbit, if_pos (by omega), show p + j - p = j from by omega]), fld_bits, Nat.mod_eq_of_lt hm]
        rw [Bool.true_and, Bool.true_and, if_pos rfl, bitsField_F _ us p W (words_rep hr) (fun j hj => by omega) (by omega) (by omega), bsome, bsome, if_pos rfl, hf, if_pos rfl]
        exact stay_L N p W ws us hN hpW (by omega) (by omega) hg hk (fun i hi h3 => by
          rw [bitAt_rep hr i (by omega), hbit, if_neg h3, bl_getD ws N i hi]) N 0 (by omega)
end Go.Proofs.Ytkechjheiakibaa.Pure
