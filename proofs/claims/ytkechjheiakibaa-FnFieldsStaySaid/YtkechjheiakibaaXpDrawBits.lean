/- A drawn vector of marks: the draw ends, and the vector is short. -/
import Derived.Test.YtkechjheiakibaaXg40a
import Derived.Test.YtkechjheiakibaaXg40b
import Derived.Test.YtkechjheiakibaaXpBase
import Derived.Test.YtkechjheiakibaaXpBitPut
import Derived.Test.YtkechjheiakibaaXpDraws
namespace Go.Proofs.Ytkechjheiakibaa.X
open Go.RowKit Go.Proofs.YtkechjheiakibaaW.PrintWords Go.Proofs.YtkechjheiakibaaW.PrintLast
set_option linter.unusedVariables false
set_option linter.unusedSimpArgs false
theorem bits_L (l : List Int) (hl : Bytes l) : ∀ (d : Nat) (acc : List Bool) (a s : Int), 0 ≤ a → a + 2 * d ≤ 999999999999 → acc.length + d ≤ 1000 → ∃ (n : Nat) (ws : List Int) (a' s' : Int), spec_l1Cur_bits.L0 acc d l a s = some ((n : Int), ws, a', s') ∧ n ≤ acc.length + d ∧ ws.length ≤ 1000 ∧ 0 ≤ a' ∧ a' ≤ a + 2 * d
  | 0, acc, a, s, h0, h1, h2 => by
    obtain ⟨ws, e, r⟩ := biSome_F acc (by omega)
    rw [spec_l1Cur_bits.L0_eq, if_neg (by omega), e, bsome]
    have := r.1
    exact ⟨acc.length, ws, a, s, rfl, by omega, by omega, h0, by omega⟩
  | d + 1, acc, a, s, h0, h1, h2 => by
    obtain ⟨b, a1, s1, e, h3, h4⟩ := one_t l hl a s 2 h0 (by omega)
    obtain ⟨n, ws, a', s', e2, h5, h6, h7, h8⟩ := bits_L l hl d (acc ++ [b]) a1 s1 h3 (by omega) (by rw [List.length_append, List.length_singleton]; omega)
    rw [List.length_append, List.length_singleton] at h5
    rw [spec_l1Cur_bits.L0_eq, if_pos (by omega), e, bsome, if_pos (by omega), wp (by omega)]
    exact ⟨n, ws, a', s', e2, by omega, h6, h7, by omega⟩
theorem bits_t (l : List Int) (hl : Bytes l) (a s : Int) (h0 : 0 ≤ a) (h1 : a ≤ 1000000) : ∃ (n : Nat) (ws : List Int) (a' s' : Int), spec_l1Cur_bits.F l a s 40 = some ((n : Int), ws, a', s') ∧ n ≤ 50 ∧ ws.length ≤ 1000 ∧ 0 ≤ a' ∧ a' ≤ a + 100 := by
  obtain ⟨r, a1, s1, e, r0, r1, h3, h4⟩ := pick_t l hl a s 41 h0 (by omega)
  obtain ⟨q, rfl⟩ := Int.eq_ofNat_of_zero_le r0
  obtain ⟨n, ws, a', s', e2, h5, h6, h7, h8⟩ := bits_L l hl q [] a1 s1 h3 (by omega) (by rw [List.length_nil]; omega)
  rw [List.length_nil] at h5
  rw [spec_l1Cur_bits.F_eq, show wrap64 ((40 : Int) + 1) = 41 from by rw [w64 (by omega) (by omega)]; rfl, e, bsome]
  exact ⟨n, ws, a', s', e2, by omega, h6, h7, by omega⟩
theorem biNew_t (n : Int) (h0 : 0 ≤ n) (h1 : n ≤ 10000) : ∃ ws : List Int, spec_biNew.f n = some (n, ws) ∧ ws.length ≤ 1000 := by
  unfold spec_biNew.f
  rw [w64 (x := n + 15) (by omega) (by omega), tdiv_nn (by omega), w64 (by omega) (by omega), if_pos (by omega), if_pos (by omega)]
  exact ⟨_, rfl, by rw [List.length_replicate]; omega⟩
theorem anyBits_t (l : List Int) (hl : Bytes l) (a s : Int) (h0 : 0 ≤ a) (h1 : a ≤ 100000) : ∃ (n : Int) (ws : List Int) (a' s' : Int), spec_l1Cur_anyBits.F l a s = some (n, ws, a', s') ∧ (-10 ≤ n ∧ n ≤ 10000) ∧ ws.length ≤ 2000 ∧ 0 ≤ a' ∧ a' ≤ a + 200 := by
  obtain ⟨n, ws, a1, s1, e1, n1, w1, b1, c1⟩ := bits_t l hl a s h0 (by omega)
  obtain ⟨r, a2, s2, e2, r0, r1, b2, c2⟩ := pick_t l hl a1 s1 16 b1 (by omega)
  rw [spec_l1Cur_anyBits.F_eq, e1, bsome, e2, bsome]
  dsimp only
  by_cases h2 : r = 0
  · obtain ⟨x, a3, s3, e3, _, _, b3, c3⟩ := pick_t l hl a2 s2 2 b2 (by omega)
    rw [if_pos h2, e3, bsome]
    dsimp only
    rw [if_pos (by omega)]
    exact ⟨_, _, _, _, rfl, by omega, by rw [List.length_append, List.length_singleton]; omega, b3, by omega⟩
  · rw [if_neg h2]
    by_cases h3 : r = 1
    · obtain ⟨x, a3, s3, e3, x0, x1, b3, c3⟩ := pick_t l hl a2 s2 3 b2 (by omega)
      rw [if_pos h3, e3, bsome]
      dsimp only
      rw [w64 (x := x - 1) (by omega) (by omega), w64 (by omega) (by omega)]
      exact ⟨_, _, _, _, rfl, by omega, by omega, b3, by omega⟩
    · rw [if_neg h3]
      by_cases h4 : r = 2
      · rw [if_pos h4]
        by_cases h5 : (ws.length : Int) > 0
        · obtain ⟨x, a3, s3, e3, x0, x1, b3, c3⟩ := pick_t l hl a2 s2 ws.length b2 (by omega)
          obtain ⟨y, a4, s4, e4, _, b4, c4⟩ := among_t l hl a3 s3 [(-1), 65535, 65536, 40000] (by simp) b3 (by omega)
          rw [if_pos h5, e3, bsome]
          dsimp only
          rw [e4, bsome]
          dsimp only
          rw [if_pos x0, if_pos (by omega)]
          exact ⟨_, _, _, _, rfl, by omega, by rw [List.length_set]; omega, b4, by omega⟩
        · rw [if_neg h5]
          exact ⟨_, _, _, _, rfl, by omega, by omega, b2, by omega⟩
      · rw [if_neg h4]
        by_cases h5 : r = 3
        · obtain ⟨x, a3, s3, e3, x0, x1, b3, c3⟩ := pick_t l hl a2 s2 2 b2 (by omega)
          obtain ⟨v, e4, hv⟩ := biNew_t (4096 - x) (by omega) (by omega)
          rw [if_pos h5, e3, bsome]
          dsimp only
          rw [w64 (x := 4096 - x) (by omega) (by omega), e4, bsome]
          exact ⟨4096 - x, v, a3, s3, rfl, by omega, by omega, b3, by omega⟩
        · rw [if_neg h5]
          by_cases h6 : r = 4
          · obtain ⟨x, a3, s3, e3, x0, x1, b3, c3⟩ := pick_t l hl a2 s2 5 b2 (by omega)
            obtain ⟨v, e4, hv⟩ := biNew_t (16 * x) (by omega) (by omega)
            rw [if_pos h6, e3, bsome]
            dsimp only
            rw [w64 (x := 16 * x) (by omega) (by omega), e4, bsome]
            exact ⟨16 * x, v, a3, s3, rfl, by omega, by omega, b3, by omega⟩
          · rw [if_neg h6]
            exact ⟨_, _, _, _, rfl, by omega, by omega, b2, by omega⟩
end Go.Proofs.Ytkechjheiakibaa.X
