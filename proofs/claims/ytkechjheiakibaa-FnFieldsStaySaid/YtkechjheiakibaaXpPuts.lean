/- A field that is put into a vector of marks: which marks there are then; and which lists of words tell a vector. -/
import Derived.Test.YtkechjheiakibaaXg40a
import Derived.Test.YtkechjheiakibaaXg40c
import Derived.Test.YtkechjheiakibaaXpBase
import Derived.Test.YtkechjheiakibaaXpBitAt
import Derived.Test.YtkechjheiakibaaXpBitNat
import Derived.Test.YtkechjheiakibaaXpBitPut
import Derived.Test.YtkechjheiakibaaXpBitsGood
import Derived.Test.YtkechjheiakibaaXpFld
import Derived.Test.YtkechjheiakibaaXpWithin
namespace Go.Proofs.Ytkechjheiakibaa.X
open Go.RowKit Go.Proofs.YtkechjheiakibaaW.PrintWords Go.Proofs.YtkechjheiakibaaW.PrintLast
set_option linter.unusedVariables false
set_option linter.unusedSimpArgs false
theorem put_G (p w : Nat) (v : Int) : ∀ (d j : Nat) (bs : List Bool) (ws : List Int) (n : Int), j + d = w → p + w ≤ bs.length → bs.length ≤ 4194304 → Rep bs ws →
    ∃ bs' ws', spec_biPut.L0 bs p w v j = some bs' ∧ impl_Bits_setField.L0 p v w j n ws = some ws' ∧ bs'.length = bs.length ∧ Rep bs' ws' ∧ ∀ i : Nat, bs'.getD i false = if p + j ≤ i ∧ i < p + w then (Go.bits .and .i64 (shr .i64 v ((i - p : Nat) : Int)) 1 == 1) else bs.getD i false
  | 0, j, bs, ws, n, h, hp, hb, hr => by
    rw [spec_biPut.L0_eq, impl_Bits_setField.L0_eq, if_neg (by omega), if_neg (by omega)]
    exact ⟨bs, ws, rfl, rfl, rfl, hr, fun i => by rw [if_neg (by omega)]⟩
  | d + 1, j, bs, ws, n, h, hp, hb, hr => by
    have e : wrap64 ((p : Int) + (j : Int)) = ((p + j : Nat) : Int) := by rw [w64 (by omega) (by omega)]; omega
    rw [spec_biPut.L0_eq, impl_Bits_setField.L0_eq, if_pos (by omega), if_pos (by omega), if_pos (by omega), if_pos (by omega), e, if_pos (by omega), if_pos (by omega), Int.toNat_natCast, wn (by omega)]
    obtain ⟨w1, e1, r1⟩ := bitsSet_F hr n (p + j) (Go.bits .and .i64 (shr .i64 v (j : Int)) 1 == 1) (by omega) hb
    rw [e1, bsome]
    obtain ⟨b2, w2, e2, e3, e4, r2, g2⟩ := put_G p w v d (j + 1) _ w1 n (by omega) (by simpa using hp) (by simpa using hb) r1
    refine ⟨b2, w2, e2, e3, by simpa using e4, r2, fun i => ?_⟩
    rw [g2 i]
    by_cases h1 : i = p + j
    · subst h1
      rw [if_neg (by omega), if_pos (by omega), getD_set_self _ _ _ _ (by omega), show p + j - p = j from by omega]
    · by_cases h2 : p + j ≤ i ∧ i < p + w
      · rw [if_pos (by omega), if_pos h2]
      · rw [if_neg (by omega), if_neg h2, getD_set_ne _ _ _ _ _ (fun h3 => h1 h3.symm)]
theorem bit_big (m i : Nat) (hm : m < 2 ^ 62) (hi : i < 62) : (Go.bits .and .i64 (shr .i64 (m : Int) (i : Int)) 1 == 1) = m.testBit i := by
  rw [shrN m i hi]
  have h1 : m / 2 ^ i < 2 ^ 62 := Nat.lt_of_le_of_lt (Nat.div_le_self _ _) hm
  have h2 := andN (m / 2 ^ i) 1 h1 (by decide)
  rw [show ((1 : Nat) : Int) = 1 from rfl] at h2
  rw [h2, Nat.and_one_is_mod, Nat.testBit_eq_decide_div_mod_eq]
  rcases Nat.mod_two_eq_zero_or_one (m / 2 ^ i) with h | h <;> rw [h] <;> decide
theorem fld_same (f g : Nat → Bool) : ∀ w : Nat, (∀ j, j < w → f j = g j) → fld f w = fld g w
  | 0, _ => rfl
  | w + 1, h => by rw [fld, fld, fld_same f g w (fun j hj => h j (by omega)), h w (by omega)]
theorem fld_bits (m : Nat) : ∀ w : Nat, fld (fun j => m.testBit j) w = m % 2 ^ w
  | 0 => by rw [fld, Nat.pow_zero, Nat.mod_one]
  | w + 1 => by
    rw [fld, fld_bits m w, Nat.mod_pow_succ, Nat.testBit_eq_decide_div_mod_eq]
    rcases Nat.mod_two_eq_zero_or_one (m / 2 ^ w) with h | h <;> simp [h]
def bl (ws : List Int) (n : Nat) : List Bool := (List.range n).map (bitAt ws)
theorem bl_len (ws : List Int) (n : Nat) : (bl ws n).length = n := by simp [bl]
theorem bl_getD (ws : List Int) (n i : Nat) (h : i < n) : (bl ws n).getD i false = bitAt ws i := by
  simp [bl, List.getD_eq_getElem?_getD, h]
theorem bl_succ (ws : List Int) (n : Nat) : bl ws (n + 1) = bl ws n ++ [bitAt ws n] := by
  simp [bl, List.range_succ]
theorem list_L (N : Int) (ws : List Int) (n : Nat) (hw : Words ws) (hn : n ≤ 16 * ws.length) (hm : ws.length ≤ 1048576) : ∀ d i : Nat, i + d = n → spec_biList.L0 (bl ws i) i n ws = some (bl ws n)
  | 0, i, h => by
    have : i = n := by omega
    subst this
    rw [spec_biList.L0_eq, if_neg (by omega)]
  | d + 1, i, h => by
    rw [spec_biList.L0_eq, if_pos (by omega), biAt_F _ ws i hw (by omega) (by omega), bsome, if_pos (by rw [bl_len]; omega), wn (by omega), ← bl_succ]
    exact list_L N ws n hw hn hm d (i + 1) (by omega)
theorem list_F (ws : List Int) (n : Nat) (hw : Words ws) (hn : n ≤ 16 * ws.length) (hm : ws.length ≤ 1048576) : spec_biList.F n ws = some (bl ws n) := by
  rw [spec_biList.F_eq]
  exact list_L 0 ws n hw hn hm n 0 (by omega)
theorem rep_good {n : Nat} {ws : List Int} (h : goodB n ws = true) : Rep (bl ws n) ws := by
  obtain ⟨h1, h2, h3⟩ := goodB_facts h
  refine ⟨by rw [bl_len]; omega, fun j hj => ?_⟩
  have hb := h3 j hj
  obtain ⟨m, hm⟩ := Int.eq_ofNat_of_zero_le hb.1
  refine ⟨m, hm, by omega, fun i hi => ?_⟩
  by_cases h4 : 16 * j + i < n
  · rw [bl_getD ws n _ h4]
    unfold bitAt
    rw [show (16 * j + i) / 16 = j from by omega, show (16 * j + i) % 16 = i from by omega, hm, Int.toNat_natCast]
  · rw [List.getD_eq_getElem?_getD, List.getElem?_eq_none (by rw [bl_len]; omega), Option.getD_none]
    unfold goodB at h
    simp only [Bool.and_eq_true] at h
    have ht := h.2.2.2
    unfold tailB at ht
    have e1 : ws.length - 1 = j := by omega
    have e2 : (n : Int) % 16 = ((n % 16 : Nat) : Int) := by omega
    rw [e1, hm, e2, shrN m _ (by omega), decide_eq_false (by omega), Bool.false_or] at ht
    have e3 : m / 2 ^ (n % 16) = 0 := by
      have := beq_iff_eq.1 ht
      omega
    have e4 : m < 2 ^ (n % 16) := by
      rcases Nat.lt_or_ge m (2 ^ (n % 16)) with h5 | h5
      · exact h5
      · have := Nat.div_pos h5 (Nat.two_pow_pos _); omega
    exact Nat.testBit_lt_two_pow (Nat.lt_of_lt_of_le e4 (Nat.pow_le_pow_right (by omega) (by omega)))
theorem good_rep {bs : List Bool} {ws : List Int} (h : Rep bs ws) (hl : bs.length ≤ 4096) : goodB bs.length ws = true := by
  have h1 := h.1
  unfold goodB
  rw [decide_eq_true (by omega), decide_eq_true (by omega), Bool.true_and, Bool.true_and, Bool.and_eq_true]
  constructor
  · unfold allIn
    rw [List.all_eq_true]
    intro x hx
    obtain ⟨j, hj, rfl⟩ := List.getElem_of_mem hx
    obtain ⟨m, e1, e2, _⟩ := h.2 j hj
    rw [List.getD_eq_getElem?_getD, List.getElem?_eq_getElem hj] at e1
    simp only [Option.getD_some] at e1
    rw [e1]
    exact decide_eq_true (by omega)
  · unfold tailB
    by_cases h2 : (bs.length : Int) % 16 = 0
    · rw [decide_eq_true h2, Bool.true_or]
    · obtain ⟨m, e1, e2, e3⟩ := h.2 (ws.length - 1) (by omega)
      have e4 : (bs.length : Int) % 16 = ((bs.length % 16 : Nat) : Int) := by omega
      have e5 : m < 2 ^ (bs.length % 16) := Nat.lt_pow_two_of_testBit m (fun i hi => by
        by_cases h3 : i < 16
        · rw [e3 i h3, List.getD_eq_getElem?_getD, List.getElem?_eq_none (by omega), Option.getD_none]
        · exact tb0 e2 (by omega))
      rw [e1, e4, shrN m _ (by omega), Nat.div_eq_of_lt e5]
      simp
theorem bitAt_rep {bs : List Bool} {ws : List Int} (h : Rep bs ws) (i : Nat) (hi : i < bs.length) : bitAt ws i = bs.getD i false := by
  obtain ⟨_, m, h1, h2, h3⟩ := h.at i hi
  unfold bitAt
  rw [h1, Int.toNat_natCast, h3]
theorem words_rep {bs : List Bool} {ws : List Int} (h : Rep bs ws) : Words ws := fun j hj => by
  obtain ⟨m, h1, h2, _⟩ := h.2 j hj
  omega
end Go.Proofs.Ytkechjheiakibaa.X
