import Derived.Test.YtdlbdocpofnfjaaXg200a
import Derived.Test.YtdlbdocpofnfjaaXg200b
import Derived.Test.YtdlbdocpofnfjaaXg201a
import Derived.Test.YtdlbdocpofnfjaaXg211a
import Derived.Test.YtdlbdocpofnfjaaXpBase
import Derived.Test.YtdlbdocpofnfjaaXpMarks
import Derived.Test.YtdlbdocpofnfjaaXpSpBuild
import Derived.Test.YtdlbdocpofnfjaaXpSpNumbers
import Derived.Test.YtdlbdocpofnfjaaXpSpSorted
import Derived.Test.YtdlbdocpofnfjaaXpSzSparse
import Derived.Test.YtdlbdocpofnfjaaXpWithin
namespace Go.Proofs.Ytdlbdocpofnfjaa.Pure
open Go.RowKit Go.Proofs.Ytdlbdocpofnfjaa.X Go.Proofs.YtdlbdocpofnfjaaW.PrintWords Go.Proofs.YtdlbdocpofnfjaaW.PrintLast
set_option linter.unusedVariables false
set_option linter.unusedSimpArgs false
theorem cut_getD (l : List Int) (a b i : Nat) (hb : b ≤ l.length) (hi : i < ((l.take b).drop a).length) : ((l.take b).drop a).getD i 0 = l.getD (a + i) 0 := by
  simp only [List.length_drop, List.length_take] at hi
  rw [List.getD_eq_getElem?_getD, List.getElem?_drop, List.getElem?_take_of_lt (by omega), List.getD_eq_getElem?_getD]
theorem cut_facts (l : List Int) (m : Int) (a b : Nat) (hb : b ≤ l.length) (h : SortedFacts l m) : SortedFacts ((l.take b).drop a) m := by
  obtain ⟨g1, g2, g3, g4⟩ := h
  refine ⟨g1, by simp only [List.length_drop, List.length_take]; omega, fun i hi => ?_, fun i hi => ?_⟩
  · rw [cut_getD l a b i hb hi]
    simp only [List.length_drop, List.length_take] at hi
    exact g3 _ (by omega)
  · rw [cut_getD l a b i hb (by omega), cut_getD l a b (i + 1) hb hi]
    simp only [List.length_drop, List.length_take] at hi
    exact g4 _ (by omega)
theorem sliceSparse_both (n m wd nl : Int) (wl : List Int) (nh : Int) (wh : List Int) (a b : Int) (h1 : wl.length ≤ 1048576) (h2 : wh.length ≤ 1048576) : ∃ (x y z d : Int) (u : List Int) (e : Int) (v : List Int) (ok : Bool), spec_SliceSparse.F n m wd nl wl nh wh a b = some (x, y, z, d, u, e, v, ok) ∧ impl_SliceSparse.F n m wd nl wl nh wh a b = some (x, y, z, d, u, e, v, ok) ∧ u.length ≤ 262144 ∧ v.length ≤ 262144 := by
  obtain ⟨good, l, s1, s2, s3⟩ := numbers_both n m wd nl wl nh wh h1 h2
  have bad : spec_SliceSparse.J0 a b true n m wd nl wl nh wh = some (0, 0, 0, 0, [], 0, [], false) := by rw [spec_SliceSparse.J0_eq, if_pos rfl]
  rw [spec_SliceSparse.F_eq, impl_SliceSparse.F_eq, s1, s2, bsome, bsome, l1In_f, bsome, bad]
  cases good with
  | false =>
    rw [if_neg (by decide), if_neg (show ¬ (false = true) from by decide)]
    exact ⟨_, _, _, _, _, _, _, _, rfl, rfl, by simp, by simp⟩
  | true =>
    obtain ⟨q1, q2, q3⟩ := s3 rfl
    rw [if_pos rfl, if_pos (show (true = true) from rfl)]
    by_cases ha : 0 ≤ a ∧ a ≤ b
    · rw [if_pos (decide_eq_true ha), if_neg (by omega), if_neg (by omega), spec_SliceSparse.J0_eq]
      by_cases hb : b > n
      · rw [if_pos (decide_eq_true hb), if_pos (by show b > (l.length : Int); omega)]
        exact ⟨_, _, _, _, _, _, _, _, rfl, rfl, by simp, by simp⟩
      · have hbl : b ≤ (l.length : Int) := by omega
        obtain ⟨w, ul, uh, _, _, g1, g2, g3, g4⟩ := build_both _ m (cut_facts l m a.toNat b.toNat (by omega) q2)
        rw [if_neg (by simpa using hb), if_neg (by show ¬ b > (l.length : Int); omega), q1, bsome, if_pos ha.1, if_pos ha.2, if_pos hbl, g1, bsome, if_pos ha.1, if_pos ha.2, if_pos (show b ≤ (l.length : Int) from hbl), g2, bsome]
        exact ⟨_, _, _, _, _, _, _, _, rfl, rfl, Nat.le_trans g3 (by decide), g4⟩
    · rw [if_neg (by simpa using ha)]
      by_cases h0 : a < 0
      · rw [if_pos h0]
        exact ⟨_, _, _, _, _, _, _, _, rfl, rfl, by simp, by simp⟩
      · rw [if_neg h0, if_pos (by omega)]
        exact ⟨_, _, _, _, _, _, _, _, rfl, rfl, by simp, by simp⟩
theorem FnExactSliceSparse : X.laws_FnExactSliceSparse.Pure := by
  intro n m wd nl wl nh wh a b w0 w1 w2 w3 w4 w5 w6 w7 w8
  refine Sup.rounds (laws_FnExactSliceSparse.F_sup n m wd nl wl nh wh a b) ?_
  rw [laws_FnExactSliceSparse.F_eq]
  rcases szSparse_f n m wd nl wl nh wh w4.1 w6.1 with h | ⟨t, h, ht, h1, h2⟩
  · rw [h, bsome]; rfl
  · obtain ⟨x, y, z, d, u, e, v, ok, e1, e2, e3, e4⟩ := sliceSparse_both n m wd nl wl nh wh a b h1 h2
    rw [h, bsome, if_neg ht]
    have n1 : ¬ (1 : Int) + (u.length : Int) < 0 := by omega
    have n3 : ¬ (1 : Int) + (u.length : Int) + (v.length : Int) < 0 := by omega
    have n2 : ¬ (1 : Int) + (wl.length : Int) + (wh.length : Int) < 0 := by omega
    simp only [toSparse_F n m wd nl wl nh wh h1 h2, bsome, e1, e2, bne_self_eq_false, Bool.false_eq_true, if_false, if_true, eqSparse_F n m wd nl wl nh wh h1 h2, eqSparse_F x y z d u e v (Nat.le_trans e3 (by decide)) (Nat.le_trans e4 (by decide)), laws_markSparse.F_eq, laws_markBits.F_eq, mark_F wl 1 (by omega) (by omega), mark_F wh (1 + wl.length) (by omega) (by omega), if_neg n2, mark_F u 1 (by omega) (by omega), mark_F v (1 + u.length) (by omega) (by omega), laws_heldSparse.F_eq, laws_heldBits.F_eq, held_F u.length 1 (by omega) (by omega), if_neg n1, held_F v.length (1 + u.length) (by omega) (by omega), if_neg n3]
end Go.Proofs.Ytdlbdocpofnfjaa.Pure
