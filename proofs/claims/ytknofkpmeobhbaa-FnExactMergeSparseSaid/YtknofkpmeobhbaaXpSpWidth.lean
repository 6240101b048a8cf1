/- A sparse set's width: the program and the reference find the same. -/
import Derived.Test.YtknofkpmeobhbaaXg1a
import Derived.Test.YtknofkpmeobhbaaXg1c
import Derived.Test.YtknofkpmeobhbaaXpBase
import Derived.Test.YtknofkpmeobhbaaXpBitNat
import Derived.Test.YtknofkpmeobhbaaXpSpSorted
import Derived.Test.YtknofkpmeobhbaaXpWithin
set_option linter.unusedVariables false
set_option linter.unusedSimpArgs false
namespace Go.Proofs.Ytknofkpmeobhbaa.X
open Go.RowKit Go.Proofs.YtknofkpmeobhbaaW.PrintWords Go.Proofs.YtknofkpmeobhbaaW.PrintLast
theorem shlN (a i : Nat) (hi : i < 62) (h : a * 2 ^ i < 4611686018427387904) : shl .i64 (a : Int) (i : Int) = ((a * 2 ^ i : Nat) : Int) := by
  unfold shl
  rw [Int.toNat_natCast, Nat.min_eq_left (by show i ≤ 64; omega)]
  rw [show (a : Int) * (2 : Int) ^ i = ((a * 2 ^ i : Nat) : Int) from by rw [Int.natCast_mul, Int.natCast_pow]; rfl]
  exact wrapB (Int.natCast_nonneg _) (by omega)
theorem width_L (n m : Int) (a : Nat) (h1 : spec_l1Most.f n 1 = some (a : Int)) (h2 : mx n 1 = (a : Int)) (ha : 1 ≤ a ∧ a ≤ 60) (hm : m ≤ 100000) : ∀ d w : Nat, w + d = 17 → (w = 0 ∨ ((a * 2 ^ w : Nat) : Int) ≤ m) →
    ∃ r : Nat, spec_spWidth.L0 n m w = some (r : Int) ∧ impl_WidthFor.L0 n m w = some ((r : Int), true) ∧ r ≤ 16
  | 0, w, h, hw => by
    exfalso
    have : w = 17 := by omega
    subst this
    rcases hw with hw | hw
    · omega
    · have : a * 2 ^ 17 = a * 131072 := by rw [show 2 ^ 17 = 131072 from by decide]
      omega
  | d + 1, w, h, hw => by
    have hp : 2 ^ (w + 1) ≤ 2 ^ 17 := Nat.pow_le_pow_right (by omega) (by omega)
    have h17 : 2 ^ 17 = 131072 := by decide
    have hq : a * 2 ^ (w + 1) ≤ 60 * 131072 := Nat.mul_le_mul ha.2 (by omega)
    have e := shlN a (w + 1) (by omega) (by omega)
    have e1 : spec_spWidth.L0 n m w = if ((a * 2 ^ (w + 1) : Nat) : Int) ≤ m then spec_spWidth.L0 n m ((w + 1 : Nat) : Int) else some (w : Int) := by
      rw [spec_spWidth.L0_eq, h1, bsome, wn (by omega), if_pos (by omega), e]
    have e2 : impl_WidthFor.L0 n m w = if ((a * 2 ^ (w + 1) : Nat) : Int) ≤ m then impl_WidthFor.L0 n m ((w + 1 : Nat) : Int) else some ((w : Int), true) := by
      rw [impl_WidthFor.L0_eq, h2, wn (by omega), if_pos (by omega), e]
    rw [e1, e2]
    by_cases h3 : ((a * 2 ^ (w + 1) : Nat) : Int) ≤ m
    · rw [if_pos h3, if_pos h3]
      exact width_L n m a h1 h2 ha hm d (w + 1) (by omega) (.inr h3)
    · rw [if_neg h3, if_neg h3]
      exact ⟨w, rfl, rfl, by omega⟩
/-- The width of a set of n numbers below m. -/
theorem width_both (n m : Int) (hn : 0 ≤ n ∧ n ≤ 60) (hm : 1 ≤ m ∧ m ≤ 100000) : ∃ r : Nat, spec_spWidth.F n m = some (r : Int) ∧ impl_WidthFor.F n m = some ((r : Int), true) ∧ r ≤ 16 := by
  obtain ⟨a, ha⟩ : ∃ a : Nat, (a : Int) = if n > 1 then n else 1 := ⟨(if n > 1 then n else 1).toNat, by split <;> omega⟩
  have h1 : spec_l1Most.f n 1 = some (a : Int) := by
    unfold spec_l1Most.f
    rw [ha]
    split <;> rfl
  have h2 : mx n 1 = (a : Int) := by
    unfold mx
    rw [ha]
    split <;> split <;> omega
  have h3 : 1 ≤ a ∧ a ≤ 60 := by
    split at ha <;> omega
  obtain ⟨r, e1, e2, e3⟩ := width_L n m a h1 h2 h3 hm.2 17 0 (by omega) (.inl rfl)
  refine ⟨r, ?_, ?_, e3⟩
  · rw [spec_spWidth.F_eq]; exact e1
  · rw [impl_WidthFor.F_eq, in_f, limitOk_f, bsome, bsome, decide_eq_true hn, if_pos rfl, decide_eq_true hm, impl_WidthFor.J0_eq, if_neg (by decide)]
    exact e2
theorem width_bad (n m : Int) (h : ¬ ((0 ≤ n ∧ n ≤ 60) ∧ 1 ≤ m ∧ m ≤ 100000)) : impl_WidthFor.F n m = some (0, false) := by
  rw [impl_WidthFor.F_eq, in_f, limitOk_f]
  simp only [bsome, impl_WidthFor.J0_eq, if_true]
  by_cases h1 : 0 ≤ n ∧ n ≤ 60
  · simp only [decide_eq_true h1, decide_eq_false (fun h2 => h ⟨h1, h2⟩), if_true, Bool.not_false]
  · simp only [decide_eq_false h1, Bool.false_eq_true, if_false]
end Go.Proofs.Ytknofkpmeobhbaa.X
