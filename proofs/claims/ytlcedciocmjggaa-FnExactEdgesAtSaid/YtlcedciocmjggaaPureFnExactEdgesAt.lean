/- The plain part of the law FnExactEdgesAt: the program's and the reference's answers are the same, the argument stays, and the answer is a list of its own, for all arguments. -/
import Derived.Test.YtlcedciocmjggaaXg2a
import Derived.Test.YtlcedciocmjggaaXpBase
import Derived.Test.YtlcedciocmjggaaXpContains
import Derived.Test.YtlcedciocmjggaaXpHyper
import Derived.Test.YtlcedciocmjggaaXpIntRows
import Derived.Test.YtlcedciocmjggaaXpInts
import Derived.Test.YtlcedciocmjggaaXpMarks
import Derived.Test.YtlcedciocmjggaaXpPeels
import Derived.Test.YtlcedciocmjggaaXpRowMarks
import Derived.Test.YtlcedciocmjggaaXpWithin
namespace Go.Proofs.Ytlcedciocmjggaa.Pure
open Go.RowKit Go.Proofs.Ytlcedciocmjggaa.X Go.Proofs.YtlcedciocmjggaaW.PrintWords Go.Proofs.YtlcedciocmjggaaW.PrintLast
set_option linter.unusedVariables false
set_option linter.unusedSimpArgs false
theorem edgesAt_L (p : Int) (l : List (List Int)) (ho : l.length ≤ 40 ∧ ∀ i, i < l.length → (l.getD i []).length ≤ 1048576) : ∀ (d n : Nat) (acc : List Int), n + d = l.length → acc.length ≤ n → ∃ r, impl_EdgesAt.L0 p acc l l.length n = some (r, true) ∧ spec_EdgesAt.L0 p acc l l.length n = some (r, true) ∧ r.length ≤ acc.length + d
  | 0, n, acc, h, ha => by
    rw [impl_EdgesAt.L0_eq, spec_EdgesAt.L0_eq, if_neg (by omega), if_neg (by omega)]
    exact ⟨_, rfl, rfl, by omega⟩
  | d + 1, n, acc, h, ha => by
    have hl := ho.1
    have hs := ho.2 n (by omega)
    by_cases h1 : decide (p ∈ l.getD n []) = true
    · obtain ⟨r, r1, r2, r3⟩ := edgesAt_L p l ho d (n + 1) (acc ++ [(n : Int)]) (by omega) (by simp; omega)
      refine ⟨r, ?_, ?_, by simp at r3; omega⟩
      · rw [impl_EdgesAt.L0_eq, if_pos (by omega), if_pos (by omega), if_pos (by omega), rdr, contains_F _ _ hs, bsome, if_pos h1, if_pos (by omega), wn (by omega)]
        exact r1
      · rw [spec_EdgesAt.L0_eq, if_pos (by omega), if_pos (by omega), if_pos (by omega), rdr, has_F _ _ hs, bsome, if_pos h1, if_pos (by omega), wn (by omega)]
        exact r2
    · obtain ⟨r, r1, r2, r3⟩ := edgesAt_L p l ho d (n + 1) acc (by omega) (by omega)
      refine ⟨r, ?_, ?_, by omega⟩
      · rw [impl_EdgesAt.L0_eq, if_pos (by omega), if_pos (by omega), if_pos (by omega), rdr, contains_F _ _ hs, bsome, if_neg h1, wn (by omega)]
        exact r1
      · rw [spec_EdgesAt.L0_eq, if_pos (by omega), if_pos (by omega), if_pos (by omega), rdr, has_F _ _ hs, bsome, if_neg h1, wn (by omega)]
        exact r2
theorem edgesAt_both (a : Int) (l : List (List Int)) (p : Int) (ho : SzOk l) : ∃ q : List Int × Bool, impl_EdgesAt.F a l p = some q ∧ spec_EdgesAt.F a l p = some q ∧ q.1.length ≤ 40 := by
  rw [impl_EdgesAt.F_eq, spec_EdgesAt.F_eq, hyper_impl a l ho.1, hyper_spec a l ho.1, bsome, bsome]
  by_cases h : hyperB a l = true
  · have hk := hyperB_len h
    rw [h, if_pos rfl, if_pos rfl, in_f, l1In_f, bsome, bsome, impl_EdgesAt.J0_eq, spec_EdgesAt.J0_eq]
    split
    · exact ⟨_, rfl, rfl, by simp⟩
    · obtain ⟨r, r1, r2, r3⟩ := edgesAt_L p l ⟨hk.2.2, ho.2.1⟩ l.length 0 [] (by omega) (by simp)
      exact ⟨_, r1, r2, by show r.length ≤ 40; simp at r3; omega⟩
  · rw [if_neg h, if_neg h, impl_EdgesAt.J0_eq, spec_EdgesAt.J0_eq, if_pos rfl, if_pos rfl]
    exact ⟨_, rfl, rfl, by simp⟩
theorem FnExactEdgesAt : X.laws_FnExactEdgesAt.Pure := by
  intro a l p w0 w1 w2
  refine Sup.rounds (laws_FnExactEdgesAt.F_sup a l p) ?_
  rw [laws_FnExactEdgesAt.F_eq]
  rcases sz_hyper a l w1 with h | ⟨r, h, h1, h2, ho⟩
  · rw [h, bsome]; rfl
  · obtain ⟨q, hq1, hq2, hq3⟩ := edgesAt_both a l p ho
    rw [h, bsome, if_neg (by omega)]
    simp only [toHyper_F a l ho, bsome, hq1, hq2, eqIntS_F q.1 (by omega), if_true, bne_self_eq_false, Bool.false_eq_true, if_false, eqHyper_F a l ho.1 ho.2.1, markHyper_F a l ho, show ¬ (1 + (tot l : Int) < 0) from by omega, mark_F q.1 1 (by omega) (by omega), held_F q.1.length 1 (by omega) (by omega), show ¬ (1 + (q.1.length : Int) < 0) from by omega]
end Go.Proofs.Ytlcedciocmjggaa.Pure
