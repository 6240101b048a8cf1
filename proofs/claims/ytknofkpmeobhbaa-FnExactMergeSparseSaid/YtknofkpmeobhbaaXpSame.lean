/- Two lists of whole numbers are compared: both sides tell whether they are the same. -/
import Derived.Test.YtknofkpmeobhbaaXg1b
import Derived.Test.YtknofkpmeobhbaaXg1d
import Derived.Test.YtknofkpmeobhbaaXpBase
set_option linter.unusedVariables false
set_option linter.unusedSimpArgs false
namespace Go.Proofs.Ytknofkpmeobhbaa.X
open Go.RowKit Go.Proofs.YtknofkpmeobhbaaW.PrintWords Go.Proofs.YtknofkpmeobhbaaW.PrintLast
theorem drop_same (a b : List Int) (n : Nat) (ha : n < a.length) (hb : n < b.length) : (a.drop n = b.drop n) ↔ a.getD n 0 = b.getD n 0 ∧ a.drop (n + 1) = b.drop (n + 1) := by
  rw [List.drop_eq_getElem_cons ha, List.drop_eq_getElem_cons hb, List.cons.injEq, List.getD_eq_getElem?_getD, List.getD_eq_getElem?_getD, List.getElem?_eq_getElem ha, List.getElem?_eq_getElem hb]
  rfl
theorem l1Same_L (a b : List Int) (h : a.length = b.length) (hl : a.length ≤ 1048576) : ∀ d n : Nat, n + d = a.length → spec_l1Same.L0 a b a.length n = some (decide (a.drop n = b.drop n)) ∧ slices_Equal_int_int.L0 a b a.length n = some (decide (a.drop n = b.drop n))
  | 0, n, hn => by
    rw [spec_l1Same.L0_eq, slices_Equal_int_int.L0_eq, if_neg (by omega), if_neg (by omega), List.drop_eq_nil_of_le (by omega), List.drop_eq_nil_of_le (by omega)]
    exact ⟨rfl, rfl⟩
  | d + 1, n, hn => by
    obtain ⟨i1, i2⟩ := l1Same_L a b h hl d (n + 1) (by omega)
    have e1 : spec_l1Same.L0 a b a.length n = if a.getD n 0 = b.getD n 0 then spec_l1Same.L0 a b a.length ((n + 1 : Nat) : Int) else some false := by
      rw [spec_l1Same.L0_eq, if_pos (by omega), if_pos (by omega), if_pos (by omega), if_pos (by omega), rdn, rdn, wn (by omega)]
    have e2 : slices_Equal_int_int.L0 a b a.length n = if a.getD n 0 = b.getD n 0 then slices_Equal_int_int.L0 a b a.length ((n + 1 : Nat) : Int) else some false := by
      rw [slices_Equal_int_int.L0_eq, if_pos (by omega), if_pos (by omega), if_pos (by omega), if_pos (by omega), rdn, rdn, wn (by omega)]
    rw [e1, e2]
    have hd := drop_same a b n (by omega) (by omega)
    by_cases hq : a.getD n 0 = b.getD n 0
    · rw [if_pos hq, if_pos hq, i1, i2]
      have : decide (a.drop n = b.drop n) = decide (a.drop (n + 1) = b.drop (n + 1)) := by
        rw [decide_eq_decide, hd]
        exact ⟨fun x => x.2, fun x => ⟨hq, x⟩⟩
      rw [this]
      exact ⟨rfl, rfl⟩
    · rw [if_neg hq, if_neg hq, decide_eq_false (fun x => hq (hd.mp x).1)]
      exact ⟨rfl, rfl⟩
theorem l1Same_F (a b : List Int) (hl : a.length ≤ 1048576) : spec_l1Same.F a b = some (decide (a = b)) ∧ slices_Equal_int_int.F a b = some (decide (a = b)) := by
  rw [spec_l1Same.F_eq, slices_Equal_int_int.F_eq]
  by_cases h : (a.length : Int) = (b.length : Int)
  · rw [if_pos h, if_pos h]
    simpa using l1Same_L a b (by omega) hl a.length 0 (by omega)
  · rw [if_neg h, if_neg h, decide_eq_false (fun x => h (by rw [x]))]
    exact ⟨rfl, rfl⟩
theorem biSame_F (n : Int) (a : List Int) (m : Int) (b : List Int) (hl : a.length ≤ 1048576) : spec_biSame.F n a m b = some (decide (n = m) && decide (a = b)) := by
  rw [spec_biSame.F_eq, (l1Same_F a b hl).1]
  by_cases h : n = m
  · rw [if_pos h, decide_eq_true h]; rfl
  · rw [if_neg h, decide_eq_false h]; rfl
theorem sameBits_F (n : Int) (a : List Int) (m : Int) (b : List Int) (hl : a.length ≤ 1048576) : impl_sameBits.F n a m b = some (decide (n = m) && decide (a = b)) := by
  rw [impl_sameBits.F_eq, (l1Same_F a b hl).2]
  by_cases h : n = m
  · rw [if_pos h, decide_eq_true h]; rfl
  · rw [if_neg h, decide_eq_false h]; rfl
end Go.Proofs.Ytknofkpmeobhbaa.X
