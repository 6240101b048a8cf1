/- The laws' marks on lists of strings come to an end. -/
import Derived.Test.YtlcedciocmjggaaXg40b
import Derived.Test.YtlcedciocmjggaaXpBase
namespace Go.Proofs.Ytlcedciocmjggaa.X
open Go.RowKit Go.Proofs.YtlcedciocmjggaaW.PrintWords Go.Proofs.YtlcedciocmjggaaW.PrintLast
set_option linter.unusedVariables false
set_option linter.unusedSimpArgs false
theorem strOfNums_size (l : List Int) : (strOfNums l).size = l.length := by
  simp [strOfNums, ByteArray.size]
theorem markText_L : ∀ (d : Nat) (k : Int) (s : ByteArray), 0 ≤ k → k < (d : Int) → s.size + d ≤ 8388608 → ∃ t, laws_markText.L0 k s = some t
  | 0, k, s, h0, h1, h2 => by omega
  | d + 1, k, s, h0, h1, h2 => by
    rw [laws_markText.L0_eq]
    by_cases h : k > 0
    · rw [if_pos h, bsome, strOfNums_size, if_pos (by simp; omega), tdiv_nn h0, w64 (by omega) (by omega)]
      refine markText_L d (k / 10) _ (by omega) (by omega) ?_
      rw [ByteArray.size_append, strOfNums_size]
      simp
      omega
    · rw [if_neg h, if_pos (by omega)]
      exact ⟨_, rfl⟩
theorem markText_F (k : Int) (hk : 0 ≤ k ∧ k ≤ 4194304) : ∃ t, laws_markText.F k = some t := by
  rw [laws_markText.F_eq]
  split
  · exact ⟨_, rfl⟩
  · exact markText_L 4194305 k _ hk.1 (by omega) (by rw [show (ByteArray.mk #[]).size = 0 from rfl]; omega)
theorem markStringS_L : ∀ (d : Nat) (l : List ByteArray) (k : Int) (n : Nat), n + d = l.length → l.length ≤ 4194304 → 0 ≤ k → k + d ≤ 4194304 → ∃ l', laws_markStringS.L0 l k n = some (k + d, l')
  | 0, l, k, n, h, hl, h0, h1 => by
    rw [laws_markStringS.L0_eq, if_neg (by omega)]
    exact ⟨l, by simp⟩
  | d + 1, l, k, n, h, hl, h0, h1 => by
    obtain ⟨t, ht⟩ := markText_F k (by omega)
    rw [laws_markStringS.L0_eq, if_pos (by omega), ht, bsome, if_pos (by omega), wn (by omega), w64 (by omega) (by omega)]
    obtain ⟨l', h'⟩ := markStringS_L d (l.set (Int.toNat n) t) (k + 1) (n + 1) (by simp; omega) (by simpa using hl) (by omega) (by omega)
    refine ⟨l', ?_⟩
    rw [h']
    congr 2
    omega
theorem markStringS_F (l : List ByteArray) (k : Int) (hl : l.length ≤ 1048576) (hk : 0 ≤ k ∧ k ≤ 1048576) : ∃ l', laws_markStringS.F l k = some (k + l.length, l') := by
  rw [laws_markStringS.F_eq]
  exact markStringS_L l.length l k 0 (by omega) (by omega) hk.1 (by omega)
end Go.Proofs.Ytlcedciocmjggaa.X
