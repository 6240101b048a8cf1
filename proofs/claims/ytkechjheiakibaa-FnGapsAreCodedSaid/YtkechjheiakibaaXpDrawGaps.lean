/- The drawn rising numbers: the draw ends, and the list is short. -/
import Derived.Test.YtkechjheiakibaaXg10a
import Derived.Test.YtkechjheiakibaaXpBase
import Derived.Test.YtkechjheiakibaaXpDraws
namespace Go.Proofs.Ytkechjheiakibaa.X
open Go.RowKit Go.Proofs.YtkechjheiakibaaW.PrintWords Go.Proofs.YtkechjheiakibaaW.PrintLast
set_option linter.unusedVariables false
set_option linter.unusedSimpArgs false
theorem l1Put_L (l : List Int) (x : Int) (hl : l.length ≤ 100000) : ∀ d n : Nat, n + d = l.length → ∃ r, spec_l1Put.L0 l x n = some r ∧ r.length ≤ l.length + 1
  | 0, n, h => by
    have e : l.take n = l := List.take_of_length_le (by omega)
    have e2 : l.drop n = [] := List.drop_eq_nil_of_le (by omega)
    rw [spec_l1Put.L0_eq, if_neg (by omega), bsome, if_pos (by omega), if_pos (by omega), Int.toNat_natCast, e, e2, bsome, if_pos (by simp; omega), bsome, if_pos (by simp; omega), bsome, bsome, if_pos (by simp; omega)]
    exact ⟨_, rfl, by simp⟩
  | d + 1, n, h => by
    rw [spec_l1Put.L0_eq, if_pos (by omega), if_pos (by omega)]
    by_cases h1 : rd l n < x
    · rw [if_pos h1, wn (by omega)]
      exact l1Put_L l x hl d (n + 1) (by omega)
    · rw [if_neg h1]
      by_cases h2 : rd l n = x
      · rw [if_pos h2]; exact ⟨l, rfl, by omega⟩
      · have e1 : (l.take n).length = n := by simp; omega
        have e2 : (l.drop n).length = l.length - n := by simp
        rw [if_neg h2, bsome, if_pos (by omega), Int.toNat_natCast, bsome, if_pos (by rw [e1]; simp; omega), bsome, if_pos (by rw [List.nil_append, e1]; omega), bsome, bsome, if_pos (by rw [List.nil_append, List.length_append, e1, e2]; simp; omega)]
        exact ⟨_, rfl, by rw [List.nil_append, List.length_append, List.length_append, e1, e2]; simp; omega⟩
theorem rising1_t (l : List Int) (hl : Bytes l) : ∀ (d : Nat) (x : List Int) (a s : Int), x.length + d = 61 → 0 ≤ a → a + 2 * d ≤ 900000000000 → ∃ (r : List Int) (a' s' : Int), spec_l1Cur_rising.L1 x l a s = some (r, a', s') ∧ r.length ≤ 61
  | 0, x, a, s, h, h0, h1 => by
    obtain ⟨p, a1, s1, e, p0, p1, _, _⟩ := pick_t l hl a s 2 h0 (by omega)
    rw [spec_l1Cur_rising.L1_eq, e, bsome, w64 (x := 60 + p) (by omega) (by omega), if_neg (by omega)]
    exact ⟨_, _, _, rfl, by omega⟩
  | d + 1, x, a, s, h, h0, h1 => by
    obtain ⟨p, a1, s1, e, p0, p1, q0, q1⟩ := pick_t l hl a s 2 h0 (by omega)
    rw [spec_l1Cur_rising.L1_eq, e, bsome, w64 (x := 60 + p) (by omega) (by omega)]
    simp only
    by_cases c : (x.length : Int) < 60 + p
    · rw [if_pos c, if_pos (by omega)]
      exact rising1_t l hl d _ a1 s1 (by simp; omega) q0 (by omega)
    · rw [if_neg c]; exact ⟨_, _, _, rfl, by omega⟩
theorem rising0_t (l : List Int) (hl : Bytes l) : ∀ (d : Nat) (x : List Int) (a s : Int), x.length + d ≤ 60 → 0 ≤ a → a + 2 * d ≤ 100000000 → ∃ (r : List Int) (a' s' : Int), spec_l1Cur_rising.L0 x d l a s = some (r, a', s') ∧ r.length ≤ 61
  | 0, x, a, s, h, h0, h1 => by
    obtain ⟨p, a1, s1, e, p0, p1, q0, q1⟩ := pick_t l hl a s 10 h0 (by omega)
    rw [spec_l1Cur_rising.L0_eq, if_neg (by omega), e, bsome]
    simp only
    by_cases c0 : p = 0
    · obtain ⟨p', a2, s2, e2, _⟩ := pick_t l hl a1 s1 40 q0 (by omega)
      rw [if_pos c0, e2, bsome, if_pos (by omega)]
      exact ⟨_, _, _, rfl, by simp; omega⟩
    · rw [if_neg c0]
      by_cases c1 : p = 1
      · obtain ⟨p', a2, s2, e2, _⟩ := pick_t l hl a1 s1 3 q0 (by omega)
        rw [if_pos c1, e2, bsome, if_pos (by omega)]
        exact ⟨_, _, _, rfl, by simp; omega⟩
      · rw [if_neg c1]
        by_cases c2 : p = 2
        · rw [if_pos c2]
          exact rising1_t l hl 61 [] a1 s1 (by simp) q0 (by omega)
        · rw [if_neg c2]; exact ⟨_, _, _, rfl, by omega⟩
  | d + 1, x, a, s, h, h0, h1 => by
    obtain ⟨p, a1, s1, e, p0, p1, q0, q1⟩ := pick_t l hl a s 40 h0 (by omega)
    obtain ⟨r, e2, hr⟩ := l1Put_L x p (by omega) x.length 0 (by omega)
    have e2' : spec_l1Put.L0 x p 0 = some r := e2
    rw [spec_l1Cur_rising.L0_eq, if_pos (by omega), e, bsome, spec_l1Put.F_eq]
    simp only
    rw [e2', bsome, wp (by omega)]
    exact rising0_t l hl d r a1 s1 (by omega) q0 (by omega)
theorem drawGaps_t (l : List Int) (hl : Bytes l) : ∃ r : List Int, spec_DrawGapsOf.F l = some r ∧ r.length ≤ 61 := by
  obtain ⟨p, a1, s1, e, p0, p1, q0, q1⟩ := pick_t l hl 0 0 8 (by omega) (by omega)
  obtain ⟨n, rfl⟩ := Int.eq_ofNat_of_zero_le p0
  obtain ⟨r, a2, s2, e2, hr⟩ := rising0_t l hl n [] a1 s1 (by simp; omega) q0 (by omega)
  rw [spec_DrawGapsOf.F_eq, spec_l1Cur_rising.F_eq, e, bsome]
  simp only
  rw [e2, bsome]
  exact ⟨_, rfl, hr⟩
end Go.Proofs.Ytkechjheiakibaa.X
