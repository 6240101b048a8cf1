/- A vector's marks as a list, and which lists of words tell a vector. -/
import Derived.Test.YtcgakiihochafaaXpBitAt
import Derived.Test.YtcgakiihochafaaXpBitNat
import Derived.Test.YtcgakiihochafaaXpBitsGood
import Derived.Test.YtcgakiihochafaaXpWithin
set_option linter.unusedVariables false
set_option linter.unusedSimpArgs false
namespace Go.Proofs.Ytcgakiihochafaa.X
open Go.RowKit Go.Proofs.YtcgakiihochafaaW.PrintWords Go.Proofs.YtcgakiihochafaaW.PrintLast
def bl (ws : List Int) (n : Nat) : List Bool := (List.range n).map (bitAt ws)
theorem bl_len (ws : List Int) (n : Nat) : (bl ws n).length = n := by simp [bl]
theorem bl_getD (ws : List Int) (n i : Nat) (h : i < n) : (bl ws n).getD i false = bitAt ws i := by
  simp [bl, List.getD_eq_getElem?_getD, h]
theorem bl_succ (ws : List Int) (n : Nat) : bl ws (n + 1) = bl ws n ++ [bitAt ws n] := by
  simp [bl, List.range_succ]
theorem rep_good {n : Nat} {ws : List Int} (h : goodB n ws = true) : Rep (bl ws n) ws := by
  obtain ⟨h1, h2, h3⟩ := goodB_facts h
  refine ⟨by rw [bl_len]; omega, fun j hj => ?_⟩
  have hb := h3 j hj
  obtain ⟨m, hm⟩ := Int.eq_ofNat_of_zero_le hb.1
  refine ⟨m, hm, by omega, fun i hi => ?_⟩
  by_cases h4 : 16 * j + i < n
  · rw [bl_getD ws n _ h4]
    unfold bitAt
    rw [show (16 * j + i) / 16 = j from by omega, show (16 * j + i) % 16 = i from by omega, hm, Int.toNat_natCast]
  · rw [List.getD_eq_getElem?_getD, List.getElem?_eq_none (by rw [bl_len]; omega), Option.getD_none]
    unfold goodB at h
    simp only [Bool.and_eq_true] at h
    have ht := h.2.2.2
    unfold tailB at ht
    have e1 : ws.length - 1 = j := by omega
    have e2 : (n : Int) % 16 = ((n % 16 : Nat) : Int) := by omega
    rw [e1, hm, e2, shrN m _ (by omega), decide_eq_false (by omega), Bool.false_or] at ht
    have e3 : m / 2 ^ (n % 16) = 0 := by
      have := beq_iff_eq.1 ht
      omega
    have e4 : m < 2 ^ (n % 16) := by
      rcases Nat.lt_or_ge m (2 ^ (n % 16)) with h5 | h5
      · exact h5
      · have := Nat.div_pos h5 (Nat.two_pow_pos _); omega
    exact Nat.testBit_lt_two_pow (Nat.lt_of_lt_of_le e4 (Nat.pow_le_pow_right (by omega) (by omega)))
theorem good_rep {bs : List Bool} {ws : List Int} (h : Rep bs ws) (hl : bs.length ≤ 4096) : goodB bs.length ws = true := by
  have h1 := h.1
  unfold goodB
  rw [decide_eq_true (by omega), decide_eq_true (by omega), Bool.true_and, Bool.true_and, Bool.and_eq_true]
  constructor
  · unfold allIn
    rw [List.all_eq_true]
    intro x hx
    obtain ⟨j, hj, rfl⟩ := List.getElem_of_mem hx
    obtain ⟨m, e1, e2, _⟩ := h.2 j hj
    rw [List.getD_eq_getElem?_getD, List.getElem?_eq_getElem hj] at e1
    simp only [Option.getD_some] at e1
    rw [e1]
    exact decide_eq_true (by omega)
  · unfold tailB
    by_cases h2 : (bs.length : Int) % 16 = 0
    · rw [decide_eq_true h2, Bool.true_or]
    · obtain ⟨m, e1, e2, e3⟩ := h.2 (ws.length - 1) (by omega)
      have e4 : (bs.length : Int) % 16 = ((bs.length % 16 : Nat) : Int) := by omega
      have e5 : m < 2 ^ (bs.length % 16) := Nat.lt_pow_two_of_testBit m (fun i hi => by
        by_cases h3 : i < 16
        · rw [e3 i h3, List.getD_eq_getElem?_getD, List.getElem?_eq_none (by omega), Option.getD_none]
        · exact tb0 e2 (by omega))
      rw [e1, e4, shrN m _ (by omega), Nat.div_eq_of_lt e5]
      simp
theorem bitAt_rep {bs : List Bool} {ws : List Int} (h : Rep bs ws) (i : Nat) (hi : i < bs.length) : bitAt ws i = bs.getD i false := by
  obtain ⟨_, m, h1, h2, h3⟩ := h.at i hi
  unfold bitAt
  rw [h1, Int.toNat_natCast, h3]
theorem words_rep {bs : List Bool} {ws : List Int} (h : Rep bs ws) : Words ws := fun j hj => by
  obtain ⟨m, h1, h2, _⟩ := h.2 j hj
  omega
end Go.Proofs.Ytcgakiihochafaa.X
