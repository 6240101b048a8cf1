/- What the laws' marks on lists of whole numbers compute: numbers from one on are written, and found again. -/
import Derived.Test.YthafknjaljhibaaXg1c
import Derived.Test.YthafknjaljhibaaXpBase
set_option linter.unusedVariables false
set_option linter.unusedSimpArgs false
namespace Go.Proofs.Ythafknjaljhibaa.X
open Go.RowKit Go.Proofs.YthafknjaljhibaaW.PrintWords Go.Proofs.YthafknjaljhibaaW.PrintLast
/-- The numbers from k on, as many as the list is long. -/
def marked (n : Nat) (k : Int) : List Int := (List.range n).map fun i : Nat => k + (i : Int)
theorem marked_len (n : Nat) (k : Int) : (marked n k).length = n := by simp [marked]
theorem marked_getD (n : Nat) (k : Int) (i : Nat) (h : i < n) : (marked n k).getD i 0 = k + i := by
  unfold marked
  simp [List.getD_eq_getElem?_getD, h]
theorem mark_set (l : List Int) (k : Int) (n : Nat) (h : n < l.length) : (marked n k ++ l.drop n).set n (k + n) = marked (n + 1) k ++ l.drop (n + 1) := by
  apply List.ext_getElem?
  intro i
  rw [List.getElem?_set]
  by_cases hi : n = i
  · subst hi
    rw [if_pos rfl, if_pos (by simp [marked_len]; omega), List.getElem?_append_left (by simp [marked_len])]
    simp [marked]
  · rw [if_neg hi]
    rcases Nat.lt_or_ge i n with h1 | h1
    · rw [List.getElem?_append_left (by simpa [marked_len] using h1), List.getElem?_append_left (by simp [marked_len]; omega)]
      simp [marked, h1, show i < n + 1 from by omega]
    · rw [List.getElem?_append_right (by simpa [marked_len] using h1), List.getElem?_append_right (by simp [marked_len]; omega), marked_len, marked_len, List.getElem?_drop, List.getElem?_drop]
      congr 1
      omega
theorem mark_L (l : List Int) (k : Int) (hl : l.length ≤ 4194304) (hk : 0 ≤ k ∧ k ≤ 4194304) : ∀ d n : Nat, n + d = l.length → laws_markIntS.L0 (marked n k ++ l.drop n) (k + n) n = some (k + l.length, marked l.length k)
  | 0, n, h => by
    have : n = l.length := by omega
    subst this
    rw [laws_markIntS.L0_eq, if_neg (by simp [marked_len])]
    simp
  | d + 1, n, h => by
    rw [laws_markIntS.L0_eq, if_pos (by simp [marked_len]; omega), if_pos (by omega), Int.toNat_natCast, mark_set l k n (by omega), wn (by omega), w64 (by omega) (by omega)]
    have := mark_L l k hl hk d (n + 1) (by omega)
    rw [show k + (n : Int) + 1 = k + ((n + 1 : Nat) : Int) from by omega]
    exact this
theorem mark_F (l : List Int) (k : Int) (hl : l.length ≤ 4194304) (hk : 0 ≤ k ∧ k ≤ 4194304) : laws_markIntS.F l k = some (k + l.length, marked l.length k) := by
  rw [laws_markIntS.F_eq]
  have := mark_L l k hl hk l.length 0 (by omega)
  simpa [marked] using this
theorem held_L (m : Nat) (k : Int) (hl : m ≤ 4194304) (hk : 0 ≤ k ∧ k ≤ 4194304) : ∀ d n : Nat, n + d = m → laws_heldIntS.L0 (marked m k) (k + n) n = some (k + m)
  | 0, n, h => by
    have : n = m := by omega
    subst this
    rw [laws_heldIntS.L0_eq, if_neg (by simp [marked_len])]
  | d + 1, n, h => by
    rw [laws_heldIntS.L0_eq, if_pos (by rw [marked_len]; omega), if_pos (by omega), rdn, marked_getD m k n (by omega), if_pos rfl, wn (by omega), w64 (by omega) (by omega)]
    have := held_L m k hl hk d (n + 1) (by omega)
    rw [show k + (n : Int) + 1 = k + ((n + 1 : Nat) : Int) from by omega]
    exact this
theorem held_F (m : Nat) (k : Int) (hl : m ≤ 4194304) (hk : 0 ≤ k ∧ k ≤ 4194304) : laws_heldIntS.F (marked m k) k = some (k + m) := by
  rw [laws_heldIntS.F_eq]
  have := held_L m k hl hk m 0 (by omega)
  simpa using this
end Go.Proofs.Ythafknjaljhibaa.X
