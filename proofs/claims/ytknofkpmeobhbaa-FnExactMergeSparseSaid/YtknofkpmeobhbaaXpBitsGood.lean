/- Which lists of words are lists of marks: the program and the reference ask the same. -/
import Derived.Test.YtknofkpmeobhbaaXg1c
import Derived.Test.YtknofkpmeobhbaaXg1d
import Derived.Test.YtknofkpmeobhbaaXpBase
import Derived.Test.YtknofkpmeobhbaaXpWithin
set_option linter.unusedVariables false
set_option linter.unusedSimpArgs false
namespace Go.Proofs.Ytknofkpmeobhbaa.X
open Go.RowKit Go.Proofs.YtknofkpmeobhbaaW.PrintWords Go.Proofs.YtknofkpmeobhbaaW.PrintLast
def tailB (n : Int) (ws : List Int) : Bool := decide (n % 16 = 0) || (shr .i64 (ws.getD (ws.length - 1) 0) (n % 16) == 0)
def goodB (n : Int) (ws : List Int) : Bool := decide (0 ≤ n ∧ n ≤ 4096) && (decide ((ws.length : Int) = (n + 15) / 16) && (allIn ws 0 65535 && tailB n ws))
theorem goodB_facts {n : Int} {ws : List Int} (h : goodB n ws = true) : (0 ≤ n ∧ n ≤ 4096) ∧ (ws.length : Int) = (n + 15) / 16 ∧ ∀ j, j < ws.length → 0 ≤ ws.getD j 0 ∧ ws.getD j 0 ≤ 65535 := by
  unfold goodB at h
  simp only [Bool.and_eq_true, decide_eq_true_eq] at h
  refine ⟨h.1, h.2.1, fun j hj => ?_⟩
  have := h.2.2.1
  unfold allIn at this
  rw [List.all_eq_true] at this
  have := this _ (getD_mem ws 0 j hj)
  simpa using this
theorem tail_tell (n : Int) (ws : List Int) (h1 : 0 ≤ n ∧ n ≤ 4096) (h2 : (ws.length : Int) = (n + 15) / 16) : (if (Int.tmod n 16) = 0 then (some true) else (if 0 ≤ (wrap64 ((ws.length : Int) - 1)) then (if (wrap64 ((ws.length : Int) - 1)) < (ws.length : Int) then (if 0 ≤ (Int.tmod n 16) then (some ((shr .i64 (rd ws (wrap64 ((ws.length : Int) - 1))) (Int.tmod n 16)) == 0)) else (none)) else (none)) else (none))) = some (tailB n ws) := by
  rw [tmod_nn h1.1]
  unfold tailB
  by_cases h3 : n % 16 = 0
  · rw [if_pos h3, decide_eq_true h3, Bool.true_or]
  · have e : wrap64 ((ws.length : Int) - 1) = ((ws.length - 1 : Nat) : Int) := by rw [w64 (by omega) (by omega)]; omega
    rw [if_neg h3, e, if_pos (by omega), if_pos (by omega), if_pos (by omega), rdn, decide_eq_false h3, Bool.false_or]
theorem isBits_L (n : Int) (ws : List Int) (hl : ws.length ≤ 1048576) (h1 : 0 ≤ n ∧ n ≤ 4096) (h2 : (ws.length : Int) = (n + 15) / 16) : ∀ d i : Nat, i + d = ws.length → impl_IsBits.L0 ws ws.length i n ws = some (allIn (ws.drop i) 0 65535 && tailB n ws)
  | 0, i, h => by
    rw [impl_IsBits.L0_eq, if_neg (by omega), tail_tell n ws h1 h2, List.drop_eq_nil_of_le (by omega)]
    rfl
  | d + 1, i, h => by
    rw [impl_IsBits.L0_eq, if_pos (by omega), if_pos (by omega), if_pos (by omega), in_f, bsome, rdn, wn (by omega), isBits_L n ws hl h1 h2 d (i + 1) (by omega), allIn_drop ws 0 65535 i (by omega)]
    by_cases h3 : 0 ≤ ws.getD i 0 ∧ ws.getD i 0 ≤ 65535
    · rw [if_pos (decide_eq_true h3), decide_eq_true h3, Bool.true_and]
    · rw [decide_eq_false h3, if_neg (by decide), Bool.false_and, Bool.false_and]
theorem isBits_F (n : Int) (ws : List Int) (hl : ws.length ≤ 1048576) : impl_IsBits.F n ws = some (goodB n ws) := by
  rw [impl_IsBits.F_eq, in_f, bsome]
  unfold goodB
  by_cases h1 : 0 ≤ n ∧ n ≤ 4096
  · have e : impl_words.f n = some ((n + 15) / 16) := by
      unfold impl_words.f
      rw [w64 (x := n + 16) (by omega) (by omega), w64 (x := n + 16 - 1) (by omega) (by omega), tdiv_nn (by omega), w64 (by omega) (by omega), show n + 16 - 1 = n + 15 from by omega]
    rw [if_pos (decide_eq_true h1), e, bsome, impl_IsBits.J0_eq, decide_eq_true h1, Bool.true_and]
    by_cases h2 : (ws.length : Int) = (n + 15) / 16
    · have := isBits_L n ws hl h1 h2 ws.length 0 (by omega)
      rw [if_neg (by simp [h2]), decide_eq_true h2, Bool.true_and]
      simpa using this
    · rw [if_pos (by simpa using h2), decide_eq_false h2, Bool.false_and]
  · rw [decide_eq_false h1, if_neg (by decide), impl_IsBits.J0_eq, if_pos rfl, Bool.false_and]
end Go.Proofs.Ytknofkpmeobhbaa.X
