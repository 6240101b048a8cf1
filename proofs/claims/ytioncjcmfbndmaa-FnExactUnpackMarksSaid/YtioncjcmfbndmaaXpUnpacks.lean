/- Marks of two digits out of a list of words: the program and the reference read the same. -/
import Derived.Test.YtioncjcmfbndmaaXg2a
import Derived.Test.YtioncjcmfbndmaaXg2b
import Derived.Test.YtioncjcmfbndmaaXg2eaa
import Derived.Test.YtioncjcmfbndmaaXpBase
import Derived.Test.YtioncjcmfbndmaaXpBitAt
import Derived.Test.YtioncjcmfbndmaaXpBitField
import Derived.Test.YtioncjcmfbndmaaXpBitsGood
import Derived.Test.YtioncjcmfbndmaaXpWithin
namespace Go.Proofs.Ytioncjcmfbndmaa.X
open Go.RowKit Go.Proofs.YtioncjcmfbndmaaW.PrintWords Go.Proofs.YtioncjcmfbndmaaW.PrintLast
set_option linter.unusedVariables false
set_option linter.unusedSimpArgs false
theorem unpack_L (s g : Int) (hg : 1 ≤ g ∧ g ≤ 24) (n : Int) (ws : List Int) (hW : Words ws) (hn : ∀ j : Nat, (j : Int) < 6 * g → j / 16 < ws.length) : ∀ (d i : Nat) (acc : List Int), (i : Int) + d = 3 * g → acc.length = i →
    ∃ l : List Int, spec_UnpackMarks.L0 g i n ws s g acc = some (s, g, l, true) ∧ impl_UnpackMarks.L0 (3 * g) i n ws s g acc = some (s, g, l, true) ∧ l.length ≤ 72
  | 0, i, acc, h, ha => by
    have e : wrap64 (3 * g) = 3 * g := w64 (by omega) (by omega)
    rw [spec_UnpackMarks.L0_eq, impl_UnpackMarks.L0_eq, e, if_neg (by omega), if_neg (by omega)]
    exact ⟨acc, rfl, rfl, by omega⟩
  | d + 1, i, acc, h, ha => by
    have e : wrap64 (3 * g) = 3 * g := w64 (by omega) (by omega)
    have p1 : wrap64 (2 * (i : Int)) = ((2 * i : Nat) : Int) := by rw [w64 (by omega) (by omega)]; omega
    have p2 : wrap64 ((i : Int) * 2) = ((2 * i : Nat) : Int) := by rw [w64 (by omega) (by omega)]; omega
    have f1 := biField_F n ws (2 * i) 2 hW (fun j hj => hn _ (by omega)) (by omega) (by omega)
    have f2 := bitsField_F n ws (2 * i) 2 hW (fun j hj => hn _ (by omega)) (by omega) (by omega)
    rw [show ((2 : Nat) : Int) = 2 from rfl] at f1 f2
    obtain ⟨l, h1, h2, h3⟩ := unpack_L s g hg n ws hW hn d (i + 1) (acc ++ [((fld (fun j => bitAt ws (2 * i + j)) 2 : Nat) : Int)]) (by omega) (by simp [ha])
    rw [spec_UnpackMarks.L0_eq, impl_UnpackMarks.L0_eq, e, if_pos (by omega), if_pos (by omega), p1, p2, f1, bsome, f2, bsome, if_pos (by omega), if_pos (by omega), wn (by omega)]
    exact ⟨l, h1, h2, h3⟩
theorem unpack_both (s g n : Int) (ws : List Int) (hl : ws.length ≤ 1048576) : ∃ (a b : Int) (l : List Int) (ok : Bool), spec_UnpackMarks.F s g n ws = some (a, b, l, ok) ∧ impl_UnpackMarks.F s g n ws = some (a, b, l, ok) ∧ l.length ≤ 72 := by
  have hseg : impl_segmentOk.f g = some (decide (1 ≤ g ∧ g ≤ 24)) := by
    unfold impl_segmentOk.f
    rw [in_f]; rfl
  rw [spec_UnpackMarks.F_eq, impl_UnpackMarks.F_eq, l1In_f, l1In_f, biGood_F n ws hl, isBits_F n ws hl, isSeed_f, hseg]
  simp only [bsome, spec_UnpackMarks.J0_eq, impl_UnpackMarks.J0_eq, if_true]
  by_cases h1 : goodB n ws = true
  · by_cases h2 : 0 ≤ s ∧ s ≤ 9999
    · by_cases h3 : 1 ≤ g ∧ g ≤ 24
      · have e1 : wrap64 (6 * g) = 6 * g := w64 (by omega) (by omega)
        have e2 : wrap64 (3 * g) = 3 * g := w64 (by omega) (by omega)
        have e3 : wrap64 (3 * g * 2) = 6 * g := by rw [w64 (by omega) (by omega)]; omega
        simp only [h1, decide_eq_true h2, decide_eq_true h3, if_true, e1, e2, e3]
        by_cases h4 : n = 6 * g
        · obtain ⟨q1, q2, q3⟩ := goodB_facts h1
          obtain ⟨l, r1, r2, r3⟩ := unpack_L s g h3 n ws q3 (fun j hj => by omega) (3 * g).toNat 0 [] (by omega) rfl
          rw [if_neg (by simp [h4]), if_neg (by simp [h4])]
          exact ⟨_, _, _, _, r1, r2, r3⟩
        · rw [if_pos (by simpa using h4), if_pos (by simpa using h4)]
          exact ⟨_, _, _, _, rfl, rfl, by simp⟩
      · simp only [h1, decide_eq_true h2, decide_eq_false h3, if_true]
        exact ⟨_, _, _, _, rfl, rfl, by simp⟩
    · simp only [h1, decide_eq_false h2, if_true]
      exact ⟨_, _, _, _, rfl, rfl, by simp⟩
  · simp only [Bool.eq_false_iff.mpr h1]
    by_cases h2 : 0 ≤ s ∧ s ≤ 9999
    · by_cases h3 : 1 ≤ g ∧ g ≤ 24
      · simp only [decide_eq_true h2, decide_eq_true h3, if_true]
        exact ⟨_, _, _, _, rfl, rfl, by simp⟩
      · simp only [decide_eq_true h2, decide_eq_false h3, if_true]
        exact ⟨_, _, _, _, rfl, rfl, by simp⟩
    · simp only [decide_eq_false h2]
      exact ⟨_, _, _, _, rfl, rfl, by simp⟩
end Go.Proofs.Ytioncjcmfbndmaa.X
