/- The plain part of the law FnExactWithEdge: the program's and the reference's answers are the same, the arguments stay, and the answer's lists are its own, for all arguments. -/
import Derived.Test.YtlcedciocmjggaaXg10a
import Derived.Test.YtlcedciocmjggaaXg10b
import Derived.Test.YtlcedciocmjggaaXpBase
import Derived.Test.YtlcedciocmjggaaXpHyper
import Derived.Test.YtlcedciocmjggaaXpHyperHeld
import Derived.Test.YtlcedciocmjggaaXpHyperMarks
import Derived.Test.YtlcedciocmjggaaXpInts
import Derived.Test.YtlcedciocmjggaaXpMarks
import Derived.Test.YtlcedciocmjggaaXpRowEq
import Derived.Test.YtlcedciocmjggaaXpRowMarks
namespace Go.Proofs.Ytlcedciocmjggaa.Pure
open Go.RowKit Go.Proofs.Ytlcedciocmjggaa.X Go.Proofs.YtlcedciocmjggaaW.PrintWords Go.Proofs.YtlcedciocmjggaaW.PrintLast
set_option linter.unusedVariables false
set_option linter.unusedSimpArgs false
theorem clone_f (l : List Int) (hl : l.length ≤ 1048576) : slices_Clone_int_int.f l = some l := by unfold slices_Clone_int_int.f; rw [if_pos (by omega)]
theorem own_f (l : List Int) (hl : l.length ≤ 1048576) : spec_l1Own.f l = some l := by unfold spec_l1Own.f; rw [bsome, if_pos (by rw [List.length_nil]; omega), List.nil_append]
theorem cloneHyper_L (P : Int) (l : List (List Int)) (ho : SzOk l) : ∀ (d n : Nat) , n + d = l.length → impl_cloneHyper.L0 l l.length n P (l.take n) = some (P, l) ∧ spec_peOwn.L0 l l.length n P (l.take n) = some (P, l)
  | 0, n, h => by
    rw [impl_cloneHyper.L0_eq, spec_peOwn.L0_eq, if_neg (by omega), if_neg (by omega), List.take_of_length_le (by omega)]
    exact ⟨rfl, rfl⟩
  | d + 1, n, h => by
    have hl := ho.1
    have ih := cloneHyper_L P l ho d (n + 1) (by omega)
    rw [take_succ_getD l [] n (by omega)] at ih
    constructor
    · rw [impl_cloneHyper.L0_eq, if_pos (by omega), if_pos (by omega), if_pos (by omega), rdr, clone_f _ (ho.2.1 n (by omega)), bsome, if_pos (by simp; omega), wn (by omega)]
      exact ih.1
    · rw [spec_peOwn.L0_eq, if_pos (by omega), if_pos (by omega), if_pos (by omega), rdr, own_f _ (ho.2.1 n (by omega)), bsome, if_pos (by simp; omega), wn (by omega)]
      exact ih.2
theorem cloneHyper_F (P : Int) (l : List (List Int)) (ho : SzOk l) : impl_cloneHyper.F P l = some (P, l) ∧ spec_peOwn.F P l = some (P, l) := by
  rw [impl_cloneHyper.F_eq, spec_peOwn.F_eq]
  exact cloneHyper_L P l ho l.length 0 (by omega)
theorem hyperB_app (P : Int) (l : List (List Int)) (e : List Int) (h : hyperB P l = true) : hyperB P (l ++ [e]) = (edgeB e P && !((l.length : Int) == 40)) := by
  have hk := hyperB_len h
  unfold hyperB at h ⊢
  simp only [Bool.and_eq_true] at h
  rw [List.all_append, h.2.2, h.1, Bool.true_and, Bool.true_and]
  simp only [List.all_cons, List.all_nil, Bool.and_true, List.length_append, List.length_singleton]
  rw [Bool.and_comm]
  congr 1
  by_cases h1 : (l.length : Int) = 40
  · rw [beq_iff_eq.2 h1, decide_eq_false (by omega)]; rfl
  · rw [beq_eq_false_iff_ne.2 h1, decide_eq_true (by omega)]; rfl
theorem withEdge_both (a : Int) (l : List (List Int)) (e : List Int) (ho : SzOk l) (he : e.length ≤ 1048576) : ∃ q : Int × List (List Int) × Bool, impl_WithEdge.F a l e = some q ∧ spec_WithEdge.F a l e = some q ∧ SzOk q.2.1 := by
  have h0 : SzOk [] := ⟨by simp, by simp, by simp [tot]⟩
  have hl := ho.1
  obtain ⟨c1, c2⟩ := cloneHyper_F a l ho
  rw [impl_WithEdge.F_eq, spec_WithEdge.F_eq, c1, bsome, clone_f e he, bsome, if_pos (by show l.length < _; omega), bsome, hyper_impl a l hl, hyper_spec a l hl, bsome, bsome]
  by_cases h : hyperB a l = true
  · have hk := hyperB_len h
    rw [if_pos h, if_pos h, hyper_impl a _ (by simp; omega), bsome, peEdge_F e a (by omega), bsome, hyperB_app a l e h]
    by_cases h1 : edgeB e a = true
    · rw [if_pos h1, h1, Bool.true_and, spec_WithEdge.J0_eq]
      by_cases h2 : (l.length : Int) = 40
      · rw [beq_iff_eq.2 h2, if_neg (by simp), if_pos rfl]; exact ⟨_, rfl, rfl, h0⟩
      · rw [beq_eq_false_iff_ne.2 h2, if_pos (by simp), if_neg (by simp), c2, bsome, own_f e he, bsome, if_pos (by show l.length < _; omega)]
        refine ⟨_, rfl, rfl, sz_three _ (by simp; omega) (fun r hr => ?_)⟩
        rcases List.mem_append.1 hr with hr | hr
        · obtain ⟨i, hi, rfl⟩ := List.getElem_of_mem hr
          have := (edgeB_facts (hyperB_edge h i hi)).1
          rw [List.getD_eq_getElem?_getD, List.getElem?_eq_getElem hi] at this
          exact this
        · rw [List.mem_singleton.1 hr]; exact (edgeB_facts h1).1
    · rw [if_neg h1, Bool.eq_false_iff.mpr h1, Bool.false_and, if_neg (by simp), spec_WithEdge.J0_eq, if_pos rfl]; exact ⟨_, rfl, rfl, h0⟩
  · rw [if_neg h, if_neg h, spec_WithEdge.J0_eq, if_pos rfl]; exact ⟨_, rfl, rfl, h0⟩
theorem FnExactWithEdge : X.laws_FnExactWithEdge.Pure := by
  intro a l e w0 w1 w2
  refine Sup.rounds (laws_FnExactWithEdge.F_sup a l e) ?_
  rw [laws_FnExactWithEdge.F_eq]
  by_cases hc : (e.length : Int) > 1048576
  · rw [if_pos hc]
  · rw [if_neg hc]
    rcases sz_hyper a l w1 with h | ⟨r, h, h1, h2, ho⟩
    · rw [h, bsome]; rfl
    · obtain ⟨q, hq1, hq2, hq3⟩ := withEdge_both a l e ho (by omega)
      have ht := ho.2.2
      rw [h, bsome, if_neg (by omega)]
      simp only [toHyper_F a l ho, toIntS_F e (by omega), bsome, hq1, hq2, eqHyper_F q.1 q.2.1 hq3.1 hq3.2.1, eqIntS_F e (by omega), if_true, bne_self_eq_false, Bool.false_eq_true, if_false, eqHyper_F a l ho.1 ho.2.1, markHyper_F a l ho, mark_F e (1 + (tot l : Int)) (by omega) (by omega), show ¬ (1 + (tot l : Int) + (e.length : Int) < 0) from by omega, markHyper_F q.1 q.2.1 hq3, heldHyper_F q.1 q.2.1 hq3, show ¬ (1 + (tot q.2.1 : Int) < 0) from by omega]
end Go.Proofs.Ytlcedciocmjggaa.Pure
