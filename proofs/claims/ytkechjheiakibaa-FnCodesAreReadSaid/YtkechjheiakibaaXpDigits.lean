/- How many digits a number has: the program's table and the reference's count tell the same. -/
import Derived.Test.YtkechjheiakibaaXg3fa
import Derived.Test.YtkechjheiakibaaXpBase
import Derived.Test.YtkechjheiakibaaXpBitNat
namespace Go.Proofs.Ytkechjheiakibaa.X
open Go.RowKit Go.Proofs.YtkechjheiakibaaW.PrintWords Go.Proofs.YtkechjheiakibaaW.PrintLast
set_option linter.unusedVariables false
set_option linter.unusedSimpArgs false
def lenTab : ByteArray := ⟨#[0, 1, 2, 2, 3, 3, 3, 3, 4, 4, 4, 4, 4, 4, 4, 4, 5, 5, 5, 5, 5, 5, 5, 5, 5, 5, 5, 5, 5, 5, 5, 5, 6, 6, 6, 6, 6, 6, 6, 6, 6, 6, 6, 6, 6, 6, 6, 6, 6, 6, 6, 6, 6, 6, 6, 6, 6, 6, 6, 6, 6, 6, 6, 6, 7, 7, 7, 7, 7, 7, 7, 7, 7, 7, 7, 7, 7, 7, 7, 7, 7, 7, 7, 7, 7, 7, 7, 7, 7, 7, 7, 7, 7, 7, 7, 7, 7, 7, 7, 7, 7, 7, 7, 7, 7, 7, 7, 7, 7, 7, 7, 7, 7, 7, 7, 7, 7, 7, 7, 7, 7, 7, 7, 7, 7, 7, 7, 7, 8, 8, 8, 8, 8, 8, 8, 8, 8, 8, 8, 8, 8, 8, 8, 8, 8, 8, 8, 8, 8, 8, 8, 8, 8, 8, 8, 8, 8, 8, 8, 8, 8, 8, 8, 8, 8, 8, 8, 8, 8, 8, 8, 8, 8, 8, 8, 8, 8, 8, 8, 8, 8, 8, 8, 8, 8, 8, 8, 8, 8, 8, 8, 8, 8, 8, 8, 8, 8, 8, 8, 8, 8, 8, 8, 8, 8, 8, 8, 8, 8, 8, 8, 8, 8, 8, 8, 8, 8, 8, 8, 8, 8, 8, 8, 8, 8, 8, 8, 8, 8, 8, 8, 8, 8, 8, 8, 8, 8, 8, 8, 8, 8, 8, 8, 8, 8, 8, 8, 8, 8, 8, 8, 8, 8, 8, 8, 8]⟩
theorem lenTab_at : ∀ b : Fin 256, bt lenTab (b.val : Int) = (if b.val = 0 then 0 else (Nat.log2 b.val : Int) + 1) := by decide +kernel
theorem lenTab_nat (b : Nat) (h0 : 0 < b) (h : b < 256) : bt lenTab (b : Int) = (Nat.log2 b : Int) + 1 := by
  have := lenTab_at ⟨b, h⟩
  rw [if_neg (by show ¬ b = 0; omega)] at this
  exact this
theorem log2_shift (x k : Nat) (h : 0 < x / 2 ^ k) : Nat.log2 x = Nat.log2 (x / 2 ^ k) + k := by
  have hx : x ≠ 0 := by rintro rfl; simp at h
  rw [Nat.log2_eq_iff hx]
  have h1 := Nat.log2_self_le (n := x / 2 ^ k) (by omega)
  have h2 := Nat.lt_log2_self (n := x / 2 ^ k)
  generalize Nat.log2 (x / 2 ^ k) = l at *
  refine ⟨?_, ?_⟩
  · rw [Nat.pow_add]
    exact (Nat.le_div_iff_mul_le (Nat.two_pow_pos k)).1 h1
  · rw [show l + k + 1 = (l + 1) + k from by omega, Nat.pow_add]
    exact (Nat.div_lt_iff_lt_mul (Nat.two_pow_pos k)).1 h2
theorem len_J (x : Nat) (h0 : 0 < x) (h : x < 16777216) : bits_Len64.J0 (x : Int) 0 = some ((Nat.log2 x : Int) + 1) := by
  have hl : Nat.log2 x < 24 := (Nat.log2_lt (by omega)).2 (by omega)
  rw [bits_Len64.J0_eq]
  change (if (x : Int) ≥ 65536 then (if ((x : Int) / 65536) ≥ 256 then (if 0 ≤ ((((x : Int) / 65536) / 256) % 256) then (if ((((x : Int) / 65536) / 256) % 256) < 256 then (some (wrap64 ((wrap64 ((wrap64 (0 + 16)) + 8)) + (wrap64 (bt lenTab ((((x : Int) / 65536) / 256) % 256)))))) else (none)) else (none)) else (if 0 ≤ (((x : Int) / 65536) % 256) then (if (((x : Int) / 65536) % 256) < 256 then (some (wrap64 ((wrap64 (0 + 16)) + (wrap64 (bt lenTab (((x : Int) / 65536) % 256)))))) else (none)) else (none))) else (if (x : Int) ≥ 256 then (if 0 ≤ (((x : Int) / 256) % 256) then (if (((x : Int) / 256) % 256) < 256 then (some (wrap64 ((wrap64 (0 + 8)) + (wrap64 (bt lenTab (((x : Int) / 256) % 256)))))) else (none)) else (none)) else (if 0 ≤ ((x : Int) % 256) then (if ((x : Int) % 256) < 256 then (some (wrap64 (0 + (wrap64 (bt lenTab ((x : Int) % 256)))))) else (none)) else (none)))) = _
  by_cases c1 : (x : Int) ≥ 65536
  · have e : ((x : Int) / 65536) % 256 = ((x / 65536 : Nat) : Int) := by omega
    rw [if_pos c1, if_neg (by omega), e, if_pos (by omega), if_pos (by omega), lenTab_nat (x / 65536) (by omega) (by omega)]
    have s := log2_shift x 16 (by show 0 < x / 65536; omega)
    rw [show x / 2 ^ 16 = x / 65536 from rfl] at s
    rw [w64 (x := (0 : Int) + 16) (by omega) (by omega), w64 (x := (Nat.log2 (x / 65536) : Int) + 1) (by omega) (by omega), w64 (by omega) (by omega)]
    congr 1
    omega
  · rw [if_neg c1]
    by_cases c2 : (x : Int) ≥ 256
    · have e : ((x : Int) / 256) % 256 = ((x / 256 : Nat) : Int) := by omega
      rw [if_pos c2, e, if_pos (by omega), if_pos (by omega), lenTab_nat (x / 256) (by omega) (by omega)]
      have s := log2_shift x 8 (by show 0 < x / 256; omega)
      rw [show x / 2 ^ 8 = x / 256 from rfl] at s
      rw [w64 (x := (0 : Int) + 8) (by omega) (by omega), w64 (x := (Nat.log2 (x / 256) : Int) + 1) (by omega) (by omega), w64 (by omega) (by omega)]
      congr 1
      omega
    · have e : (x : Int) % 256 = (x : Int) := by omega
      rw [if_neg c2, e, if_pos (by omega), if_pos (by omega), lenTab_nat x h0 (by omega), w64 (x := (Nat.log2 x : Int) + 1) (by omega) (by omega), w64 (by omega) (by omega), Int.zero_add]
theorem digits_F (x : Nat) (h0 : 0 < x) (h : x < 16777216) : impl_digits.F (x : Int) = some (Nat.log2 x : Int) := by
  have hl : Nat.log2 x < 24 := (Nat.log2_lt (by omega)).2 (by omega)
  have e : IntKind.u64.wrap (x : Int) = x := by
    show (x : Int) % 18446744073709551616 = x
    omega
  rw [impl_digits.F_eq, e, bits_Len.F_eq, bits_Len64.F_eq, if_neg (by omega), len_J x h0 h, bsome, bsome, w64 (by omega) (by omega)]
  congr 1
  omega
theorem shlA (a i : Nat) (hi : i < 62) (h : a * 2 ^ i < 4611686018427387904) : shl .i64 (a : Int) (i : Int) = ((a * 2 ^ i : Nat) : Int) := by
  unfold shl
  rw [Int.toNat_natCast, Nat.min_eq_left (by show i ≤ 64; omega), show (a : Int) * (2 : Int) ^ i = ((a * 2 ^ i : Nat) : Int) from by rw [Int.natCast_mul, Int.natCast_pow]; rfl]
  exact wrapB (Int.natCast_nonneg _) (by omega)
theorem spDigits_L (x : Nat) (h0 : 0 < x) (h : x < 16777216) : ∀ d i : Nat, i + d = Nat.log2 x → spec_spDigits.L0 (x : Int) (i : Int) = some (Nat.log2 x : Int)
  | 0, i, e => by
    have hl : Nat.log2 x < 24 := (Nat.log2_lt (by omega)).2 (by omega)
    have h2 := Nat.lt_log2_self (n := x)
    have p : 2 * 2 ^ i = 2 ^ (i + 1) := by rw [Nat.pow_succ]; omega
    have hp : 2 ^ (i + 1) ≤ 2 ^ 24 := Nat.pow_le_pow_right (by omega) (by omega)
    have h24 : 2 ^ 24 = 16777216 := by decide
    have e' : i = Nat.log2 x := by omega
    have hs := shlA 2 i (by omega) (by omega)
    rw [show ((2 : Nat) : Int) = 2 from rfl] at hs
    rw [spec_spDigits.L0_eq, if_pos (by omega), hs, p, if_neg (by rw [e']; omega), e']
  | d + 1, i, e => by
    have hl : Nat.log2 x < 24 := (Nat.log2_lt (by omega)).2 (by omega)
    have h1 := Nat.log2_self_le (n := x) (by omega)
    have p : 2 * 2 ^ i = 2 ^ (i + 1) := by rw [Nat.pow_succ]; omega
    have hp : 2 ^ (i + 1) ≤ 2 ^ 24 := Nat.pow_le_pow_right (by omega) (by omega)
    have hq : 2 ^ (i + 1) ≤ 2 ^ Nat.log2 x := Nat.pow_le_pow_right (by omega) (by omega)
    have h24 : 2 ^ 24 = 16777216 := by decide
    have hs := shlA 2 i (by omega) (by omega)
    rw [show ((2 : Nat) : Int) = 2 from rfl] at hs
    rw [spec_spDigits.L0_eq, if_pos (by omega), hs, p, if_pos (by omega), wn (by omega)]
    exact spDigits_L x h0 h d (i + 1) (by omega)
theorem spDigits_F (x : Nat) (h0 : 0 < x) (h : x < 16777216) : spec_spDigits.F (x : Int) = some (Nat.log2 x : Int) := by
  rw [spec_spDigits.F_eq]
  exact spDigits_L x h0 h (Nat.log2 x) 0 (by omega)
end Go.Proofs.Ytkechjheiakibaa.X
