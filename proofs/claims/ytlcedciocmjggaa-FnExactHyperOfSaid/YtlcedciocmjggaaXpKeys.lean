/- When is a string a key, and when are strings keys in order: the program's way and the reference's tell the same. -/
import Derived.Test.YtlcedciocmjggaaXg40a
import Derived.Test.YtlcedciocmjggaaXpBase
import Derived.Test.YtlcedciocmjggaaXpWithin
namespace Go.Proofs.Ytlcedciocmjggaa.X
open Go.RowKit Go.Proofs.YtlcedciocmjggaaW.PrintWords Go.Proofs.YtlcedciocmjggaaW.PrintLast
set_option linter.unusedVariables false
set_option linter.unusedSimpArgs false
def keyFrom (s : ByteArray) (n d : Nat) : Bool := (List.range' n d).all fun i => decide (33 ≤ bt s i ∧ bt s i ≤ 125)
def keyB (s : ByteArray) : Bool := keyFrom s 0 s.size && decide (1 ≤ (s.size : Int) ∧ (s.size : Int) ≤ 12)
theorem keyB_size {s : ByteArray} (h : keyB s = true) : 1 ≤ s.size ∧ s.size ≤ 12 := by
  unfold keyB at h
  simp at h
  omega
theorem keyFrom_succ (s : ByteArray) (n d : Nat) : keyFrom s n (d + 1) = (decide (33 ≤ bt s n ∧ bt s n ≤ 125) && keyFrom s (n + 1) d) := by
  unfold keyFrom
  rw [List.range'_succ, List.all_cons]
theorem key_spec_L (s : ByteArray) (hs : s.size ≤ 1048576) : ∀ d n : Nat, n + d = s.size → spec_IsKey.L0 s n = some (keyFrom s n d && decide (1 ≤ (s.size : Int) ∧ (s.size : Int) ≤ 12))
  | 0, n, h => by
    rw [spec_IsKey.L0_eq, if_neg (by omega), l1In_f, bsome]; rfl
  | d + 1, n, h => by
    rw [spec_IsKey.L0_eq, if_pos (by omega), if_pos (by omega), keyFrom_succ, wn (by omega), key_spec_L s hs d (n + 1) (by omega)]
    by_cases h1 : bt s n < 33
    · rw [if_pos h1, decide_eq_false (show ¬ (33 ≤ bt s n ∧ bt s n ≤ 125) by omega)]; rfl
    · rw [if_neg h1]
      by_cases h2 : bt s n > 125
      · rw [if_pos h2, decide_eq_false (show ¬ (33 ≤ bt s n ∧ bt s n ≤ 125) by omega)]; rfl
      · rw [if_neg h2, decide_eq_true (show 33 ≤ bt s n ∧ bt s n ≤ 125 by omega)]; rfl
theorem key_spec (s : ByteArray) (hs : s.size ≤ 1048576) : spec_IsKey.F s = some (keyB s) := by
  rw [spec_IsKey.F_eq]
  exact key_spec_L s hs s.size 0 (by omega)
theorem key_impl_L (s : ByteArray) (hs : s.size ≤ 1048576) : ∀ d n : Nat, n + d = s.size → impl_IsKey.L0 s s.size n = some (keyFrom s n d && decide (1 ≤ (s.size : Int) ∧ (s.size : Int) ≤ 12))
  | 0, n, h => by
    rw [impl_IsKey.L0_eq, if_neg (by omega), in_f, bsome]; rfl
  | d + 1, n, h => by
    rw [impl_IsKey.L0_eq, if_pos (by omega), if_pos (by omega), if_pos (by omega), keyFrom_succ, wn (by omega), key_impl_L s hs d (n + 1) (by omega)]
    by_cases h1 : bt s n < 33
    · rw [if_pos h1, decide_eq_false (show ¬ (33 ≤ bt s n ∧ bt s n ≤ 125) by omega)]; rfl
    · rw [if_neg h1]
      by_cases h2 : bt s n > 125
      · rw [if_pos h2, decide_eq_false (show ¬ (33 ≤ bt s n ∧ bt s n ≤ 125) by omega)]; rfl
      · rw [if_neg h2, decide_eq_true (show 33 ≤ bt s n ∧ bt s n ≤ 125 by omega)]; rfl
theorem key_impl (s : ByteArray) (hs : s.size ≤ 1048576) : impl_IsKey.F s = some (keyB s) := by
  rw [impl_IsKey.F_eq]
  exact key_impl_L s hs s.size 0 (by omega)
end Go.Proofs.Ytlcedciocmjggaa.X
