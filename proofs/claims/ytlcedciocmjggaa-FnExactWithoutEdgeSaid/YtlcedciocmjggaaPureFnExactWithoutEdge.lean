/- The plain part of the law FnExactWithoutEdge: the program's and the reference's answers are the same, the argument stays, and the answer's lists are its own, for all arguments. WITH: HyperHeld -/
import Derived.Test.YtlcedciocmjggaaXg20a
import Derived.Test.YtlcedciocmjggaaXg20b
import Derived.Test.YtlcedciocmjggaaXg30a
import Derived.Test.YtlcedciocmjggaaXg70a
import Derived.Test.YtlcedciocmjggaaXpBase
import Derived.Test.YtlcedciocmjggaaXpHyper
import Derived.Test.YtlcedciocmjggaaXpHyperMarks
import Derived.Test.YtlcedciocmjggaaXpRowEq
import Derived.Test.YtlcedciocmjggaaXpRowMarks
import Derived.Test.YtlcedciocmjggaaXpWithin
namespace Go.Proofs.Ytlcedciocmjggaa.X
open Go.RowKit Go.Proofs.YtlcedciocmjggaaW.PrintWords Go.Proofs.YtlcedciocmjggaaW.PrintLast
set_option linter.unusedVariables false
set_option linter.unusedSimpArgs false
theorem heldHyper_F (a : Int) (l : List (List Int)) (h : SzOk l) : laws_heldHyper.F a (mrows l 1) 1 = some (1 + (tot l : Int)) := by rw [laws_heldHyper.F_eq, heldSS_F l 1 (by omega) h.1 (by have := h.2.2; omega), bsome, if_neg (by omega)]
theorem tot_app : ∀ (l : List (List Int)) (r : List Int), tot (l ++ [r]) = tot l + r.length
  | [], r => by simp [tot]
  | s :: l, r => by
    have := tot_app l r
    simp only [List.cons_append, tot]
    omega
theorem tot_three : ∀ l : List (List Int), (∀ r ∈ l, r.length = 3) → tot l = 3 * l.length
  | [], _ => rfl
  | r :: l, h => by
    have := tot_three l (fun x hx => h x (List.mem_cons_of_mem _ hx))
    have := h r List.mem_cons_self
    simp only [tot, List.length_cons]
    omega
theorem sz_three (l : List (List Int)) (hl : l.length ≤ 1000) (h : ∀ r ∈ l, r.length = 3) : SzOk l :=
  ⟨by omega, fun i hi => by have := h _ (getD_mem l [] i hi); omega, by have := tot_three l h; omega⟩
end Go.Proofs.Ytlcedciocmjggaa.X
namespace Go.Proofs.Ytlcedciocmjggaa.Pure
open Go.RowKit Go.Proofs.Ytlcedciocmjggaa.X Go.Proofs.YtlcedciocmjggaaW.PrintWords Go.Proofs.YtlcedciocmjggaaW.PrintLast
theorem clone_f (l : List Int) (hl : l.length ≤ 1048576) : slices_Clone_int_int.f l = some l := by unfold slices_Clone_int_int.f; rw [if_pos (by omega)]
theorem own_f (l : List Int) (hl : l.length ≤ 1048576) : spec_l1Own.f l = some l := by unfold spec_l1Own.f; rw [bsome, if_pos (by rw [List.length_nil]; omega), List.nil_append]
theorem cloneHyper_L (P : Int) (l : List (List Int)) (ho : SzOk l) : ∀ (d n : Nat) , n + d = l.length → impl_cloneHyper.L0 l l.length n P (l.take n) = some (P, l) ∧ spec_peOwn.L0 l l.length n P (l.take n) = some (P, l)
  | 0, n, h => by
    rw [impl_cloneHyper.L0_eq, spec_peOwn.L0_eq, if_neg (by omega), if_neg (by omega), List.take_of_length_le (by omega)]
    exact ⟨rfl, rfl⟩
  | d + 1, n, h => by
    have hl := ho.1
    have ih := cloneHyper_L P l ho d (n + 1) (by omega)
    rw [take_succ_getD l [] n (by omega)] at ih
    constructor
    · rw [impl_cloneHyper.L0_eq, if_pos (by omega), if_pos (by omega), if_pos (by omega), rdr, clone_f _ (ho.2.1 n (by omega)), bsome, if_pos (by simp; omega), wn (by omega)]
      exact ih.1
    · rw [spec_peOwn.L0_eq, if_pos (by omega), if_pos (by omega), if_pos (by omega), rdr, own_f _ (ho.2.1 n (by omega)), bsome, if_pos (by simp; omega), wn (by omega)]
      exact ih.2
theorem cloneHyper_F (P : Int) (l : List (List Int)) (ho : SzOk l) : impl_cloneHyper.F P l = some (P, l) ∧ spec_peOwn.F P l = some (P, l) := by
  rw [impl_cloneHyper.F_eq, spec_peOwn.F_eq]
  exact cloneHyper_L P l ho l.length 0 (by omega)
theorem withoutEdge_both (a : Int) (l : List (List Int)) (i : Int) (ho : SzOk l) : ∃ q : Int × List (List Int) × Bool, impl_WithoutEdge.F a l i = some q ∧ spec_WithoutEdge.F a l i = some q ∧ SzOk q.2.1 := by
  have h0 : SzOk [] := ⟨by simp, by simp, by simp [tot]⟩
  have hl := ho.1
  obtain ⟨c1, c2⟩ := cloneHyper_F a l ho
  have j1 : impl_WithoutEdge.J0 i true a l = some (0, [], false) := by rw [impl_WithoutEdge.J0_eq, if_pos rfl]
  rw [impl_WithoutEdge.F_eq, spec_WithoutEdge.F_eq, hyper_impl a l hl, hyper_spec a l hl, bsome, bsome, j1]
  by_cases h : hyperB a l = true
  · have hk := hyperB_len h
    rw [if_pos h, if_pos h, w64 (x := (l.length : Int) - 1) (by omega) (by omega), in_f, l1In_f, bsome, bsome]
    by_cases h1 : 0 ≤ i ∧ i ≤ (l.length : Int) - 1
    · obtain ⟨m, rfl⟩ := Int.eq_ofNat_of_zero_le h1.1
      have w1 : wrap64 ((m : Int) + 1) = (m : Int) + 1 := w64 (by omega) (by omega)
      have e1 : slices_Delete_int_int.f l (m : Int) ((m : Int) + 1) = some (l.eraseIdx m) := by
        unfold slices_Delete_int_int.f
        rw [if_pos (by omega), if_pos rfl, if_pos (by omega), Int.toNat_natCast]
      refine ⟨(a, l.eraseIdx m, true), ?_, ?_, sz_three _ (by have := List.length_eraseIdx_le l m; show (l.eraseIdx m).length ≤ 1000; omega) (fun r hr => ?_)⟩
      · rw [decide_eq_true h1, impl_WithoutEdge.J0_eq, if_neg (by simp), c1, bsome, w1]
        dsimp only
        rw [e1, bsome]
      · rw [decide_eq_true h1, if_pos rfl, c2, bsome, w1]
        dsimp only
        rw [if_pos (by omega), if_pos (by omega), if_pos (by omega), if_pos (by omega), Int.toNat_natCast]
      · obtain ⟨j, hj, rfl⟩ := List.getElem_of_mem (List.mem_of_mem_eraseIdx hr)
        have := (edgeB_facts (hyperB_edge h j hj)).1
        rw [List.getD_eq_getElem?_getD, List.getElem?_eq_getElem hj] at this
        exact this
    · rw [decide_eq_false h1, if_neg (by simp)]
      exact ⟨_, j1, rfl, h0⟩
  · rw [if_neg h, if_neg h]
    exact ⟨_, rfl, rfl, h0⟩
theorem FnExactWithoutEdge : X.laws_FnExactWithoutEdge.Pure := by
  intro a l i w0 w1 w2
  refine Sup.rounds (laws_FnExactWithoutEdge.F_sup a l i) ?_
  rw [laws_FnExactWithoutEdge.F_eq]
  rcases sz_hyper a l w1 with h | ⟨r, h, h1, h2, ho⟩
  · rw [h, bsome]; rfl
  · obtain ⟨q, hq1, hq2, hq3⟩ := withoutEdge_both a l i ho
    rw [h, bsome, if_neg (by omega)]
    simp only [toHyper_F a l ho, bsome, hq1, hq2, eqHyper_F q.1 q.2.1 hq3.1 hq3.2.1, if_true, bne_self_eq_false, Bool.false_eq_true, if_false, eqHyper_F a l ho.1 ho.2.1, markHyper_F a l ho, show ¬ (1 + (tot l : Int) < 0) from by omega, markHyper_F q.1 q.2.1 hq3, heldHyper_F q.1 q.2.1 hq3, show ¬ (1 + (tot q.2.1 : Int) < 0) from by omega]
end Go.Proofs.Ytlcedciocmjggaa.Pure
