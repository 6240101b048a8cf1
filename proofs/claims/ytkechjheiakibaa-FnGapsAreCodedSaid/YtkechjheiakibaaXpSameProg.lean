/- Two vectors are held against each other by the program. -/
import Derived.Test.YtkechjheiakibaaXg3ca
import Derived.Test.YtkechjheiakibaaXpBase
namespace Go.Proofs.Ytkechjheiakibaa.X
open Go.RowKit Go.Proofs.YtkechjheiakibaaW.PrintWords Go.Proofs.YtkechjheiakibaaW.PrintLast
set_option linter.unusedVariables false
set_option linter.unusedSimpArgs false
theorem drop_sameA (a b : List Int) (n : Nat) (ha : n < a.length) (hb : n < b.length) : (a.drop n = b.drop n) ↔ a.getD n 0 = b.getD n 0 ∧ a.drop (n + 1) = b.drop (n + 1) := by
  rw [List.drop_eq_getElem_cons ha, List.drop_eq_getElem_cons hb, List.cons.injEq, List.getD_eq_getElem?_getD, List.getD_eq_getElem?_getD, List.getElem?_eq_getElem ha, List.getElem?_eq_getElem hb]
  rfl
theorem equalA_L (a b : List Int) (h : a.length = b.length) (hl : a.length ≤ 1048576) : ∀ d n : Nat, n + d = a.length → slices_Equal_int_int.L0 a b a.length n = some (decide (a.drop n = b.drop n))
  | 0, n, hn => by
    rw [slices_Equal_int_int.L0_eq, if_neg (by omega), List.drop_eq_nil_of_le (by omega), List.drop_eq_nil_of_le (by omega)]
    rfl
  | d + 1, n, hn => by
    have i2 := equalA_L a b h hl d (n + 1) (by omega)
    rw [slices_Equal_int_int.L0_eq, if_pos (by omega), if_pos (by omega), if_pos (by omega), if_pos (by omega), rdn, rdn, wn (by omega)]
    have hd := drop_sameA a b n (by omega) (by omega)
    by_cases hq : a.getD n 0 = b.getD n 0
    · rw [if_pos hq, i2]
      have : decide (a.drop n = b.drop n) = decide (a.drop (n + 1) = b.drop (n + 1)) := by
        rw [decide_eq_decide, hd]
        exact ⟨fun x => x.2, fun x => ⟨hq, x⟩⟩
      rw [this]
    · rw [if_neg hq, decide_eq_false (fun x => hq (hd.mp x).1)]
theorem equalA_F (a b : List Int) (hl : a.length ≤ 1048576) : slices_Equal_int_int.F a b = some (decide (a = b)) := by
  rw [slices_Equal_int_int.F_eq]
  by_cases h : (a.length : Int) = (b.length : Int)
  · rw [if_pos h]
    simpa using equalA_L a b (by omega) hl a.length 0 (by omega)
  · rw [if_neg h, decide_eq_false (fun x => h (by rw [x]))]
theorem sameA_F (n : Int) (a : List Int) (m : Int) (b : List Int) (hl : a.length ≤ 1048576) : impl_sameBits.F n a m b = some (decide (n = m) && decide (a = b)) := by
  rw [impl_sameBits.F_eq, equalA_F a b hl]
  by_cases h : n = m
  · rw [if_pos h, decide_eq_true h]; rfl
  · rw [if_neg h, decide_eq_false h]; rfl
end Go.Proofs.Ytkechjheiakibaa.X
