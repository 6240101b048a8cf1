/- Words of 16 marks as numbers: what the program's operations on bits do to their digits. -/
import Derived.Test.YtknofkpmeobhbaaXpBase
set_option linter.unusedVariables false
set_option linter.unusedSimpArgs false
namespace Go.Proofs.Ytknofkpmeobhbaa.X
open Go.RowKit Go.Proofs.YtknofkpmeobhbaaW.PrintWords Go.Proofs.YtknofkpmeobhbaaW.PrintLast
theorem wrapB {n : Int} (h0 : 0 ≤ n) (h1 : n < 4611686018427387904) : IntKind.wrap .i64 n = n := by rw [IntKind.wrap_i64]; omega
theorem shl1 (i : Nat) (h : i < 62) : shl .i64 1 (i : Int) = ((2 ^ i : Nat) : Int) := by
  unfold shl
  rw [Int.toNat_natCast, Nat.min_eq_left (by show i ≤ 64; omega), Int.one_mul]
  have h1 : 2 ^ i < 2 ^ 62 := Nat.pow_lt_pow_right (by omega) h
  have h2 : 2 ^ 62 = 4611686018427387904 := by decide
  rw [show (2 : Int) ^ i = ((2 ^ i : Nat) : Int) from (Int.natCast_pow 2 i).symm]
  exact wrapB (Int.natCast_nonneg _) (by omega)
theorem shrN (m i : Nat) (h : i < 62) : shr .i64 (m : Int) (i : Int) = ((m / 2 ^ i : Nat) : Int) := by
  unfold shr
  rw [Int.toNat_natCast, Nat.min_eq_left (by show i ≤ 64; omega)]
  simp
theorem wrap62 : ∀ n : Int, 0 ≤ n → n < 2 ^ 62 → IntKind.wrap .i64 n = n := fun n h0 h1 => wrapB h0 (by have : (2 : Int) ^ 62 = 4611686018427387904 := by decide
                                                                                                        omega)
theorem orN (a b : Nat) (ha : a < 2 ^ 62) (hb : b < 2 ^ 62) : Go.bits .or .i64 (a : Int) (b : Int) = ((a ||| b : Nat) : Int) := (bits_nat .i64 62 (by decide) wrap62 a b ha hb).2
theorem andN (a b : Nat) (ha : a < 2 ^ 62) (hb : b < 2 ^ 62) : Go.bits .and .i64 (a : Int) (b : Int) = ((a &&& b : Nat) : Int) := (bits_nat .i64 62 (by decide) wrap62 a b ha hb).1
theorem p16 {i : Nat} (h : i < 16) : 2 ^ i < 65536 := Nat.pow_lt_pow_right (a := 2) (n := 16) (by omega) h
theorem p62 {m : Nat} (h : m < 65536) : m < 2 ^ 62 := Nat.lt_trans h (by decide)
theorem tb0 {m j : Nat} (hm : m < 65536) (hj : 16 ≤ j) : m.testBit j = false := by
  have h1 : 2 ^ 16 ≤ 2 ^ j := Nat.pow_le_pow_right (by omega) hj
  have h2 : 2 ^ 16 = 65536 := by decide
  exact Nat.testBit_lt_two_pow (by omega)
/-- A number's digit, as the program reads it. -/
theorem bit_of (m i : Nat) (hm : m < 65536) (hi : i < 16) : (Go.bits .and .i64 (shr .i64 (m : Int) (i : Int)) 1 == 1) = m.testBit i := by
  rw [shrN m i (by omega)]
  have h1 : m / 2 ^ i < 2 ^ 62 := p62 (Nat.lt_of_le_of_lt (Nat.div_le_self _ _) hm)
  have h2 := andN (m / 2 ^ i) 1 h1 (by decide)
  rw [show ((1 : Nat) : Int) = 1 from rfl] at h2
  rw [h2, Nat.and_one_is_mod, Nat.testBit_eq_decide_div_mod_eq]
  rcases Nat.mod_two_eq_zero_or_one (m / 2 ^ i) with h | h <;> rw [h] <;> decide
/-- One digit is set. -/
theorem or_bit (m i : Nat) (hm : m < 65536) (hi : i < 16) : ∃ m' : Nat, Go.bits .or .i64 (m : Int) (shl .i64 1 (i : Int)) = (m' : Int) ∧ m' < 65536 ∧ ∀ j, m'.testBit j = (m.testBit j || decide (i = j)) := by
  refine ⟨m ||| 2 ^ i, ?_, Nat.or_lt_two_pow (n := 16) hm (p16 hi), fun j => ?_⟩
  · rw [shl1 i (by omega), orN m _ (p62 hm) (p62 (p16 hi))]
  · rw [Nat.testBit_or, Nat.testBit_two_pow]
/-- One digit is taken away. -/
theorem not_bit (m i : Nat) (hm : m < 65536) (hi : i < 16) : ∃ m' : Nat, Go.bits .andNot .i64 (m : Int) (shl .i64 1 (i : Int)) = (m' : Int) ∧ m' < 65536 ∧ ∀ j, m'.testBit j = (m.testBit j && !decide (i = j)) := by
  refine ⟨(BitVec.ofNat 64 m &&& ~~~ BitVec.ofNat 64 (2 ^ i)).toNat, ?_, ?_, fun j => ?_⟩
  · rw [shl1 i (by omega)]
    unfold Go.bits
    simp only [BitVec.ofInt_natCast]
    refine wrap62 _ (Int.natCast_nonneg _) ?_
    have : (BitVec.ofNat 64 m &&& ~~~ BitVec.ofNat 64 (2 ^ i)).toNat < 2 ^ 62 := by
      rw [BitVec.toNat_and]
      refine Nat.lt_of_le_of_lt Nat.and_le_left ?_
      rw [BitVec.toNat_ofNat]
      exact Nat.lt_of_le_of_lt (Nat.mod_le _ _) (p62 hm)
    exact_mod_cast this
  · rw [BitVec.toNat_and]
    refine Nat.lt_of_le_of_lt Nat.and_le_left ?_
    rw [BitVec.toNat_ofNat]
    exact Nat.lt_of_le_of_lt (Nat.mod_le _ _) hm
  · rw [BitVec.testBit_toNat, BitVec.getLsbD_and, BitVec.getLsbD_not, BitVec.getLsbD_ofNat, BitVec.getLsbD_ofNat, Nat.testBit_two_pow]
    by_cases hj : j < 64
    · simp [hj]
    · have : m.testBit j = false := tb0 hm (by omega)
      simp [hj, this]
/-- A list of words tells a list of marks: mark 16 j + i is digit i of word j. -/
def Rep (bs : List Bool) (ws : List Int) : Prop := ws.length = (bs.length + 15) / 16 ∧ ∀ j, j < ws.length → ∃ m : Nat, ws.getD j 0 = (m : Int) ∧ m < 65536 ∧ ∀ i, i < 16 → m.testBit i = bs.getD (16 * j + i) false
theorem Rep.unique {bs : List Bool} {u v : List Int} (hu : Rep bs u) (hv : Rep bs v) : u = v := by
  apply List.ext_getElem (hu.1.trans hv.1.symm)
  intro j h1 h2
  obtain ⟨a, ha, ha1, ha2⟩ := hu.2 j h1
  obtain ⟨b, hb, hb1, hb2⟩ := hv.2 j h2
  rw [List.getD_eq_getElem?_getD, List.getElem?_eq_getElem h1] at ha
  rw [List.getD_eq_getElem?_getD, List.getElem?_eq_getElem h2] at hb
  have e : a = b := by
    apply Nat.eq_of_testBit_eq
    intro i
    by_cases hi : i < 16
    · rw [ha2 i hi, hb2 i hi]
    · rw [tb0 ha1 (by omega), tb0 hb1 (by omega)]
  simpa [e] using ha.trans ((by rw [e] : ((a : Nat) : Int) = b).trans hb.symm)
theorem Rep.zeros (n : Nat) : Rep (List.replicate n false) (List.replicate ((n + 15) / 16) 0) := by
  refine ⟨by simp, fun j hj => ⟨0, ?_, by omega, fun i hi => ?_⟩⟩
  · rw [List.length_replicate] at hj
    simp [List.getD_eq_getElem?_getD, List.getElem?_replicate, hj]
  · rw [List.getD_eq_getElem?_getD, List.getElem?_replicate]
    split <;> simp
/-- One word is put anew: one mark changes. -/
theorem Rep.put {bs : List Bool} {ws : List Int} (h : Rep bs ws) (i : Nat) (hi : i < bs.length) (v : Bool) (m m' : Nat) (h0 : ws.getD (i / 16) 0 = (m : Int)) (hm' : m' < 65536) (hb : ∀ j, j < 16 → m'.testBit j = if i % 16 = j then v else m.testBit j) : Rep (bs.set i v) (ws.set (i / 16) (m' : Int)) := by
  refine ⟨by simpa using h.1, fun j hj => ?_⟩
  rw [List.length_set] at hj
  obtain ⟨a, ha, ha1, ha2⟩ := h.2 j hj
  by_cases e : i / 16 = j
  · subst e
    have : a = m := by exact_mod_cast ha.symm.trans h0
    subst this
    refine ⟨m', getD_set_self _ _ _ _ hj, hm', fun q hq => ?_⟩
    rw [hb q hq]
    by_cases e2 : i % 16 = q
    · rw [if_pos e2, show 16 * (i / 16) + q = i from by omega, getD_set_self _ _ _ _ hi]
    · rw [if_neg e2, ha2 q hq, getD_set_ne _ _ _ _ _ (by omega)]
  · refine ⟨a, by rw [getD_set_ne _ _ _ _ _ e]; exact ha, ha1, fun q hq => ?_⟩
    rw [ha2 q hq, getD_set_ne _ _ _ _ _ (by omega)]
theorem Rep.at {bs : List Bool} {ws : List Int} (h : Rep bs ws) (i : Nat) (hi : i < bs.length) : i / 16 < ws.length ∧ ∃ m : Nat, ws.getD (i / 16) 0 = (m : Int) ∧ m < 65536 ∧ m.testBit (i % 16) = bs.getD i false := by
  have hl : i / 16 < ws.length := by rw [h.1]; omega
  obtain ⟨m, h1, h2, h3⟩ := h.2 _ hl
  refine ⟨hl, m, h1, h2, ?_⟩
  rw [h3 _ (by omega), show 16 * (i / 16) + i % 16 = i from by omega]
/-- Where a mark lies, as the program reckons it. -/
theorem word_at (i : Nat) (hi : i < 4611686018427387904) : wrap64 (Int.tdiv (i : Int) 16) = ((i / 16 : Nat) : Int) ∧ Int.tmod (i : Int) 16 = ((i % 16 : Nat) : Int) := by
  rw [tdiv_nn (by omega), tmod_nn (by omega), w64 (by omega) (by omega)]
  constructor <;> omega
end Go.Proofs.Ytknofkpmeobhbaa.X
