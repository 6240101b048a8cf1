/- The drawn arguments: each draw ends, and what it draws is bounded. -/
import Derived.Test.YtcgakiihochafaaXg1a
import Derived.Test.YtcgakiihochafaaXpBase
set_option linter.unusedVariables false
set_option linter.unusedSimpArgs false
namespace Go.Proofs.Ytcgakiihochafaa.X
open Go.RowKit Go.Proofs.YtcgakiihochafaaW.PrintWords Go.Proofs.YtcgakiihochafaaW.PrintLast
def Bytes (l : List Int) : Prop := l.length ≤ 1048576 ∧ ∀ i, i < l.length → 0 ≤ l.getD i 0 ∧ l.getD i 0 ≤ 255
theorem and255 (y : Int) : ∃ x : Int, Go.bits .and .u64 (IntKind.u64.wrap y / 1099511627776) 255 = x ∧ 0 ≤ x ∧ x ≤ 255 := by
  have h0 : IntKind.u64.wrap y = y % 18446744073709551616 := by simp [IntKind.wrap, IntKind.bits, IntKind.signed]
  obtain ⟨m, hm⟩ := Int.eq_ofNat_of_zero_le (show 0 ≤ IntKind.u64.wrap y / 1099511627776 from by rw [h0]; omega)
  have hm2 : m < 2 ^ 24 := by
    have : (2 : Nat) ^ 24 = 16777216 := by decide
    rw [h0] at hm
    omega
  have hw : ∀ n : Int, 0 ≤ n → n < 2 ^ 24 → IntKind.u64.wrap n = n := fun n a b => by
    have h1 : IntKind.u64.wrap n = n % 18446744073709551616 := by simp [IntKind.wrap, IntKind.bits, IntKind.signed]
    have h2 : (2 : Int) ^ 24 = 16777216 := by decide
    rw [h1]; omega
  have hb := (bits_nat .u64 24 (by decide) hw m 255 hm2 (by decide)).1
  refine ⟨_, rfl, ?_, ?_⟩
  · rw [hm, show (255 : Int) = ((255 : Nat) : Int) from rfl, hb]; omega
  · have := Nat.and_le_right (n := m) (m := 255)
    rw [hm, show (255 : Int) = ((255 : Nat) : Int) from rfl, hb]; omega
theorem next_t (l : List Int) (hl : Bytes l) (a s : Int) (h0 : 0 ≤ a) (h1 : a ≤ 1000000000000) : ∃ x s' : Int, spec_l1Cur_next.f l a s = some (x, a + 1, s') ∧ 0 ≤ x ∧ x ≤ 255 := by
  have hw : wrap64 (a + 1) = a + 1 := w64 (by omega) (by omega)
  have hn := hl.1
  unfold spec_l1Cur_next.f
  by_cases h2 : a < (l.length : Int)
  · obtain ⟨q, rfl⟩ := Int.eq_ofNat_of_zero_le h0
    have hb := hl.2 q (by omega)
    rw [if_pos h2, if_pos h0, hw, if_pos (by omega), rdn, w64 (x := l.getD q 0) (by omega) (by omega)]
    exact ⟨_, _, rfl, hb⟩
  · obtain ⟨x, e, hx⟩ := and255 ((IntKind.u64.wrap ((IntKind.u64.wrap (s * 6364136223846793005)) )) + 1442695040888963407)
    rw [if_neg h2, hw, if_neg (by omega)]
    first
      | rw [e, w64 (x := x) (by omega) (by omega)]; exact ⟨_, _, rfl, hx⟩
      | (obtain ⟨x, e, hx⟩ := and255 ((IntKind.u64.wrap ((IntKind.u64.wrap (s * 6364136223846793005)) + 0)) + 1442695040888963407)
         rw [e, w64 (x := x) (by omega) (by omega)]; exact ⟨_, _, rfl, hx⟩)
theorem pick_t (l : List Int) (hl : Bytes l) (a s n : Int) (h0 : 0 ≤ a) (h1 : a ≤ 999999999999) : ∃ r a' s' : Int, spec_l1Cur_pick.f l a s n = some (r, a', s') ∧ 0 ≤ r ∧ (r < n ∨ r = 0) ∧ 0 ≤ a' ∧ a' ≤ a + 2 := by
  unfold spec_l1Cur_pick.f
  by_cases h2 : n ≤ 1
  · rw [if_pos h2]; exact ⟨0, a, s, rfl, by omega, by omega, by omega, by omega⟩
  · obtain ⟨x, s1, e1, x0, x1⟩ := next_t l hl a s h0 (by omega)
    obtain ⟨y, s2, e2, y0, y1⟩ := next_t l hl (a + 1) s1 (by omega) (by omega)
    rw [if_neg h2, e1, bsome]
    by_cases h3 : n > 200
    · rw [if_pos h3, e2, bsome, if_neg (by omega), w64 (x := x * 256) (by omega) (by omega), w64 (x := x * 256 + y) (by omega) (by omega), tmod_nn (by omega)]
      exact ⟨_, a + 1 + 1, s2, rfl, Int.emod_nonneg _ (by omega), Or.inl (Int.emod_lt_of_pos _ (by omega)), by omega, by omega⟩
    · rw [if_neg h3, if_neg (by omega), tmod_nn (by omega)]
      exact ⟨_, a + 1, s1, rfl, Int.emod_nonneg _ (by omega), Or.inl (Int.emod_lt_of_pos _ (by omega)), by omega, by omega⟩
theorem one_t (l : List Int) (hl : Bytes l) (a s n : Int) (h0 : 0 ≤ a) (h1 : a ≤ 999999999999) : ∃ (b : Bool) (a' s' : Int), spec_l1Cur_one.f l a s n = some (b, a', s') ∧ 0 ≤ a' ∧ a' ≤ a + 2 := by
  obtain ⟨r, a', s', e, _, _, ha⟩ := pick_t l hl a s n h0 h1
  unfold spec_l1Cur_one.f
  rw [e, bsome]
  exact ⟨_, _, _, rfl, ha⟩
theorem among_t (l : List Int) (hl : Bytes l) (a s : Int) (xs : List Int) (hx : 1 ≤ xs.length) (h0 : 0 ≤ a) (h1 : a ≤ 999999999999) : ∃ (x a' s' : Int), spec_l1Cur_among.f l a s xs = some (x, a', s') ∧ x ∈ xs ∧ 0 ≤ a' ∧ a' ≤ a + 2 := by
  obtain ⟨r, a', s', e, r0, r1, ha⟩ := pick_t l hl a s xs.length h0 h1
  unfold spec_l1Cur_among.f
  obtain ⟨q, rfl⟩ := Int.eq_ofNat_of_zero_le r0
  have hq : q < xs.length := by omega
  rw [e, bsome, if_pos r0, if_pos (by omega)]
  exact ⟨_, _, _, rfl, getD_mem xs 0 q hq, ha⟩
end Go.Proofs.Ytcgakiihochafaa.X
