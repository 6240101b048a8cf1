/- A number by its digits. -/
import Derived.Test.YtknofkpmeobhbaaXx0
set_option linter.unusedVariables false
set_option linter.unusedSimpArgs false
namespace Go.Proofs.Ytknofkpmeobhbaa.X
open Go.RowKit Go.Proofs.YtknofkpmeobhbaaW.PrintWords Go.Proofs.YtknofkpmeobhbaaW.PrintLast
def fld (f : Nat → Bool) : Nat → Nat
  | 0 => 0
  | n + 1 => fld f n + (if f n then 2 ^ n else 0)
theorem fld_lt (f : Nat → Bool) : ∀ n, fld f n < 2 ^ n
  | 0 => by simp [fld]
  | n + 1 => by
    have := fld_lt f n
    rw [fld, Nat.pow_succ]
    split <;> omega
theorem pow60 {w : Nat} (hw : w ≤ 60) : 2 ^ w ≤ 1152921504606846976 := by
  have h1 : 2 ^ w ≤ 2 ^ 60 := Nat.pow_le_pow_right (by omega) hw
  have h2 : 2 ^ 60 = 1152921504606846976 := by decide
  omega
theorem or_top {a i : Nat} (h : a < 2 ^ i) : a ||| 2 ^ i = a + 2 ^ i := by
  have := Nat.two_pow_add_eq_or_of_lt h 1
  rw [Nat.mul_one] at this
  rw [Nat.or_comm, ← this, Nat.add_comm]
end Go.Proofs.Ytknofkpmeobhbaa.X
