/- The plain part of the law FnExactHyperOf: the program's and the reference's answers are the same, the keys stay, and the answer's lists are its own, for all arguments. -/
import Derived.Test.YtlcedciocmjggaaXg40a
import Derived.Test.YtlcedciocmjggaaXg40b
import Derived.Test.YtlcedciocmjggaaXpBase
import Derived.Test.YtlcedciocmjggaaXpHyperHeld
import Derived.Test.YtlcedciocmjggaaXpHyperMarks
import Derived.Test.YtlcedciocmjggaaXpKeyLists
import Derived.Test.YtlcedciocmjggaaXpMarkStrs
import Derived.Test.YtlcedciocmjggaaXpRowMarks
import Derived.Test.YtlcedciocmjggaaXpSeed
import Derived.Test.YtlcedciocmjggaaXpStrs
import Derived.Test.YtlcedciocmjggaaXpTriple
import Derived.Test.YtlcedciocmjggaaXpWithin
namespace Go.Proofs.Ytlcedciocmjggaa.Pure
open Go.RowKit Go.Proofs.Ytlcedciocmjggaa.X Go.Proofs.YtlcedciocmjggaaW.PrintWords Go.Proofs.YtlcedciocmjggaaW.PrintLast
set_option linter.unusedVariables false
set_option linter.unusedSimpArgs false
theorem segmentOk_h (g : Int) : impl_segmentOk.f g = some (decide (1 ≤ g ∧ g ≤ 24)) := by
  unfold impl_segmentOk.f
  rw [in_f]; rfl
theorem hyperOf_L (s g P : Int) (ks : List ByteArray) (hs : 0 ≤ s ∧ s ≤ 9999) (hg : 1 ≤ g ∧ g ≤ 24) (hl : ks.length ≤ 1000) (hz : ∀ i, i < ks.length → (ks.getD i ByteArray.empty).size ≤ 1048576) :
    ∀ (d n : Nat) (acc : List (List Int)), n + d = ks.length → acc.length = n → (∀ r ∈ acc, r.length = 3) → ∃ r, impl_hyper.L0 s g ks ks.length n P acc = some (P, r) ∧ spec_peHyper.L0 s g ks ks.length n P acc = some (P, r) ∧ r.length = ks.length ∧ ∀ x ∈ r, x.length = 3
  | 0, n, acc, h, h1, h2 => by
    refine ⟨acc, ?_, ?_, by omega, h2⟩
    · rw [impl_hyper.L0_eq, if_neg (by omega)]
    · rw [spec_peHyper.L0_eq, if_neg (by omega)]
  | d + 1, n, acc, h, h1, h2 => by
    obtain ⟨r, r1, r2, r3⟩ := hyperOf_L s g P ks hs hg hl hz d (n + 1) (acc ++ [tripleP s (ks.getD n ByteArray.empty) g]) (by omega) (by simp [h1]) (fun x hx => by
      rcases List.mem_append.1 hx with hx | hx
      · exact h2 x hx
      · rw [List.mem_singleton.1 hx]; rfl)
    refine ⟨r, ?_, ?_, r3⟩
    · rw [impl_hyper.L0_eq, if_pos (by omega), if_pos (by omega), if_pos (by omega), rdOfn, triple_impl s _ g hs (hz n (by omega)) hg, bsome, if_pos (by omega), wn (by omega)]
      exact r1
    · rw [spec_peHyper.L0_eq, if_pos (by omega), if_pos (by omega), if_pos (by omega), rdOfn, triple_spec s _ g hs (hz n (by omega)) hg, bsome, if_pos (by omega), wn (by omega)]
      exact r2
theorem hyperOf_both (s g : Int) (ks : List ByteArray) (hl : ks.length ≤ 1048576) (hz : ∀ i, i < ks.length → (ks.getD i ByteArray.empty).size ≤ 1048576) : ∃ q : Int × List (List Int) × Bool, impl_HyperOf.F s ks g = some q ∧ spec_HyperOf.F s ks g = some q ∧ SzOk q.2.1 := by
  have h0 : SzOk [] := ⟨by simp, by simp, by simp [tot]⟩
  rw [impl_HyperOf.F_eq, spec_HyperOf.F_eq, spec_peKeyed.F_eq, isSeed_f, bsome, l1In_f, bsome, keys_impl ks hl hz, keys_spec ks hl hz, bsome, bsome, segmentOk_h, bsome, l1In_f, bsome]
  by_cases h1 : 0 ≤ s ∧ s ≤ 9999
  · rw [decide_eq_true h1, if_pos rfl, if_pos rfl]
    by_cases h2 : keysB ks = true
    · have hk := keysB_len h2
      rw [h2, if_pos rfl, if_pos rfl, bsome]
      by_cases h3 : 1 ≤ g ∧ g ≤ 24
      · rw [decide_eq_true h3, if_pos rfl, if_pos rfl, impl_hyper.F_eq, spec_peHyper.F_eq]
        obtain ⟨r, r1, r2, r3, r4⟩ := hyperOf_L s g (wrap64 (3 * g)) ks h1 h3 (by omega) hz ks.length 0 [] (by omega) rfl (fun x hx => by cases hx)
        have r1' : impl_hyper.L0 s g ks ks.length 0 (wrap64 (3 * g)) [] = some (wrap64 (3 * g), r) := r1
        have r2' : spec_peHyper.L0 s g ks ks.length 0 (wrap64 (3 * g)) [] = some (wrap64 (3 * g), r) := r2
        rw [r1', r2', bsome]
        exact ⟨_, rfl, rfl, sz_three r (by omega) r4⟩
      · rw [decide_eq_false h3, if_neg (by simp), if_neg (by simp)]; exact ⟨_, rfl, rfl, h0⟩
    · rw [if_neg h2, if_neg h2, bsome, if_neg (by simp)]; exact ⟨_, rfl, rfl, h0⟩
  · rw [decide_eq_false h1, if_neg (by simp), if_neg (by simp), bsome, if_neg (by simp)]; exact ⟨_, rfl, rfl, h0⟩
theorem FnExactHyperOf : X.laws_FnExactHyperOf.Pure := by
  intro s l g w0 w1 w2
  refine Sup.rounds (laws_FnExactHyperOf.F_sup s l g) ?_
  rw [laws_FnExactHyperOf.F_eq]
  rcases szStringS_F l 1048576 w1.1 w1.2 (by omega) (by omega) with h | ⟨r, h, h1, h2, hl, hs⟩
  · rw [h, bsome]; rfl
  · obtain ⟨q, hq1, hq2, hq3⟩ := hyperOf_both s g l hl hs
    obtain ⟨l', hm⟩ := markStringS_F l 1 hl (by omega)
    rw [h, bsome, if_neg (by omega)]
    simp only [toStringS_F l hl, bsome, hq1, hq2, eqHyper_F q.1 q.2.1 hq3.1 hq3.2.1, if_true, bne_self_eq_false, Bool.false_eq_true, if_false, eqStringS_F l (by omega), hm, show ¬ (1 + (l.length : Int) < 0) from by omega, markHyper_F q.1 q.2.1 hq3, heldHyper_F q.1 q.2.1 hq3, show ¬ (1 + (tot q.2.1 : Int) < 0) from by omega]
end Go.Proofs.Ytlcedciocmjggaa.Pure
