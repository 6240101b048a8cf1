/- The plain part of the law FnExactIsCore: the program's and the reference's answers are the same, and the arguments stay, for all arguments. -/
import Derived.Test.YtlcedciocmjggaaXg4a
import Derived.Test.YtlcedciocmjggaaXpBase
import Derived.Test.YtlcedciocmjggaaXpContains
import Derived.Test.YtlcedciocmjggaaXpDegrees
import Derived.Test.YtlcedciocmjggaaXpHyper
import Derived.Test.YtlcedciocmjggaaXpHyperMarks
import Derived.Test.YtlcedciocmjggaaXpInts
import Derived.Test.YtlcedciocmjggaaXpPeels
import Derived.Test.YtlcedciocmjggaaXpRising
import Derived.Test.YtlcedciocmjggaaXpRowMarks
namespace Go.Proofs.Ytlcedciocmjggaa.Pure
open Go.RowKit Go.Proofs.Ytlcedciocmjggaa.X Go.Proofs.YtlcedciocmjggaaW.PrintWords Go.Proofs.YtlcedciocmjggaaW.PrintLast
set_option linter.unusedVariables false
set_option linter.unusedSimpArgs false
theorem pw_of : ∀ l : List Int, (∀ i, i + 1 < l.length → l.getD i 0 < l.getD (i + 1) 0) → l.Pairwise (· < ·)
  | [], _ => List.Pairwise.nil
  | [a], _ => List.Pairwise.cons (fun x hx => by cases hx) List.Pairwise.nil
  | a :: b :: t, h => by
    have ih := pw_of (b :: t) (fun i hi => by
      have := h (i + 1) (by simp at hi ⊢; omega)
      simpa using this)
    have hab : a < b := by
      have := h 0 (by simp)
      simpa using this
    refine List.Pairwise.cons (fun x hx => ?_) ih
    rcases List.mem_cons.1 hx with rfl | hx
    · exact hab
    · exact Int.lt_trans hab ((List.pairwise_cons.1 ih).1 x hx)
/-- What isn't gone where all is gone but a rising list's numbers: that list. -/
theorem idxs_core (g : List Bool) : ∀ (d n : Nat) (es : List Int), (∀ x ∈ es, (n : Int) ≤ x ∧ x < n + d) → es.Pairwise (· < ·) → (∀ q : Nat, n ≤ q → q < n + d → g.getD q false = !decide ((q : Int) ∈ es)) → idxs g d n = es
  | 0, n, [], _, _, _ => rfl
  | 0, n, x :: es, h, _, _ => by have := h x List.mem_cons_self; omega
  | d + 1, n, [], h, hp, hg => by
    rw [idxs_succ, if_pos (by rw [hg n (by omega) (by omega)]; simp)]
    exact idxs_core g d (n + 1) [] (fun x hx => by cases hx) hp (fun q h1 h2 => hg q (by omega) (by omega))
  | d + 1, n, x :: es, h, hp, hg => by
    have hx := h x List.mem_cons_self
    have hl := (List.pairwise_cons.1 hp).1
    by_cases h1 : x = (n : Int)
    · subst h1
      rw [idxs_succ, if_neg (by rw [hg n (by omega) (by omega)]; simp)]
      congr 1
      refine idxs_core g d (n + 1) es (fun y hy => ?_) (List.pairwise_cons.1 hp).2 (fun q h2 h3 => ?_)
      · have := hl y hy; have := h y (List.mem_cons_of_mem _ hy); omega
      · rw [hg q (by omega) (by omega)]
        congr 1
        rw [decide_eq_decide, List.mem_cons]
        exact ⟨fun h4 => h4.elim (fun h5 => by omega) id, Or.inr⟩
    · have hn : ¬ (n : Int) ∈ x :: es := fun hm => by
        rcases List.mem_cons.1 hm with h4 | h4
        · exact h1 h4.symm
        · have := hl _ h4; omega
      rw [idxs_succ, if_pos (by rw [hg n (by omega) (by omega), decide_eq_false hn]; rfl)]
      refine idxs_core g d (n + 1) (x :: es) (fun y hy => ?_) hp (fun q h2 h3 => hg q (by omega) (by omega))
      have := h y hy
      have hne : y ≠ (n : Int) := fun e => hn (e ▸ hy)
      omega
def coreG (es : List Int) (m n : Nat) : List Bool := (List.range n).map (fun i : Nat => !decide ((i : Int) ∈ es)) ++ List.replicate (m - n) false
theorem coreG_len (es : List Int) (m n : Nat) (h : n ≤ m) : (coreG es m n).length = m := by simp [coreG]; omega
theorem coreG_set (es : List Int) (m n : Nat) (h : n < m) : (coreG es m n).set n (!decide ((n : Int) ∈ es)) = coreG es m (n + 1) := by
  unfold coreG
  rw [List.set_append_right _ _ (by simp)]
  simp only [List.length_map, List.length_range, Nat.sub_self]
  rw [show m - n = (m - (n + 1)) + 1 from by omega, List.replicate_succ, List.set_cons_zero, List.range_succ, List.map_append, List.append_assoc]
  rfl
theorem coreG_at (es : List Int) (m q : Nat) (h : q < m) : (coreG es m m).getD q false = !decide ((q : Int) ∈ es) := by
  unfold coreG
  simp [List.getD_eq_getElem?_getD, h]
theorem isCore_L {P : Int} {l : List (List Int)} (ho : HyOk P l) (es : List Int) (he : es.length ≤ 1048576) : ∀ d n : Nat, n + d = l.length → impl_IsCore.L0 es (coreG es l.length n) l.length n P l = some (!decide (1 ∈ degs l P (lefts (coreG es l.length l.length))), true)
  | 0, n, h => by
    have hl := ho.2.1
    have hn : n = l.length := by omega
    subst hn
    have hb := degs_bd ho (lefts (coreG es l.length l.length)) (lefts_fit (coreG_len _ _ _ (Nat.le_refl _)))
    rw [impl_IsCore.L0_eq, if_neg (by omega), deg_impl _ l (coreG_len _ _ _ (Nat.le_refl _)) ho, bsome, contains_F _ _ (by have := hb.1; have := ho.1; omega), bsome]
  | d + 1, n, h => by
    have hl := ho.2.1
    rw [impl_IsCore.L0_eq, if_pos (by omega), contains_F es n he, bsome, if_pos (by omega), if_pos (by rw [coreG_len _ _ _ (by omega)]; omega), Int.toNat_natCast, coreG_set es _ n (by omega), wn (by omega)]
    exact isCore_L ho es he d (n + 1) (by omega)
theorem isCore_both (a : Int) (l : List (List Int)) (es : List Int) (ho : SzOk l) (he : es.length ≤ 1048576) : ∃ q : Bool × Bool, impl_IsCore.F a l es = some q ∧ spec_IsCore.F a l es = some q := by
  rw [impl_IsCore.F_eq, spec_IsCore.F_eq, hyper_impl a l ho.1, hyper_spec a l ho.1, bsome, bsome]
  by_cases h : hyperB a l = true
  · have hk := hyok h
    have hl := hk.2.1
    obtain ⟨b, b1, b2, b3⟩ := rising_both es l.length he
    rw [h, if_pos rfl, if_pos rfl, b2, bsome, b1, bsome]
    by_cases h1 : (es.length : Int) = 0
    · rw [if_pos h1, decide_eq_false (by omega), Bool.and_false, if_neg (by simp)]
      exact ⟨_, rfl, rfl⟩
    · rw [if_neg h1, decide_eq_true (by omega), Bool.and_true]
      by_cases h2 : b = true
      · obtain ⟨f1, f2⟩ := b3 h2
        have hw : wrap64 ((l.length : Int) - 1) = (l.length : Int) - 1 := w64 (by omega) (by omega)
        rw [hw] at f1
        have hm : ∀ x ∈ es, 0 ≤ x ∧ x < (l.length : Int) := fun x hx => by
          obtain ⟨i, hi, rfl⟩ := List.getElem_of_mem hx
          have := f1 i hi
          rw [List.getD_eq_getElem?_getD, List.getElem?_eq_getElem hi] at this
          simp at this
          omega
        have hc : lefts (coreG es l.length l.length) = es := by
          unfold lefts
          rw [coreG_len _ _ _ (Nat.le_refl _)]
          exact idxs_core _ l.length 0 es (fun x hx => by have := hm x hx; omega) (pw_of es f2) (fun q _ hq => coreG_at es l.length q (by omega))
        have hes : es.length ≤ 40 := by have := lefts_len (coreG es l.length l.length); rw [hc, coreG_len _ _ _ (Nat.le_refl _)] at this; omega
        have hL := isCore_L hk es he l.length 0 (by omega)
        have hL' : impl_IsCore.L0 es (List.replicate l.length false) l.length 0 a l = some (!decide (1 ∈ degs l a es), true) := by
          have hz : coreG es l.length 0 = List.replicate l.length false := by simp [coreG]
          rw [hz, hc] at hL
          exact hL
        rw [if_pos h2, if_pos h2, none_f a l (by omega), bsome, List.length_replicate, hL', free_F es l (by omega) hm hk, bsome]
        have hd := degs_len hk es hm
        have : ((freeL l a es).length : Int) = 0 ↔ ¬ 1 ∈ degs l a es := by
          constructor
          · intro h4 h5
            obtain ⟨i, hi, e⟩ := List.getElem_of_mem h5
            have : (i : Int) ∈ freeL l a es := (mem_frees _ _ _ _).2 ⟨i, rfl, Nat.zero_le _, by omega, by rw [List.getD_eq_getElem?_getD, List.getElem?_eq_getElem hi]; exact e⟩
            have h7 : freeL l a es = [] := List.length_eq_zero_iff.1 (by omega)
            rw [h7] at this
            cases this
          · intro h4
            rcases Nat.eq_zero_or_pos (freeL l a es).length with h5 | h5
            · omega
            · obtain ⟨q, _, _, q2, q3⟩ := (mem_frees _ _ _ _).1 (getD_mem (freeL l a es) 0 0 h5)
              exact absurd (by rw [← q3]; exact getD_mem _ 0 q (by omega)) h4
        refine ⟨_, rfl, ?_⟩
        congr 2
        by_cases h6 : 1 ∈ degs l a es
        · rw [decide_eq_true h6, beq_eq_false_iff_ne.2 (fun e => this.1 e h6)]; rfl
        · rw [decide_eq_false h6, beq_iff_eq.2 (this.2 h6)]; rfl
      · rw [if_neg h2, if_neg h2]
        exact ⟨_, rfl, rfl⟩
  · rw [if_neg h, if_neg h]
    exact ⟨_, rfl, rfl⟩
theorem FnExactIsCore : X.laws_FnExactIsCore.Pure := by
  intro a l cs w0 w1 w2
  refine Sup.rounds (laws_FnExactIsCore.F_sup a l cs) ?_
  rw [laws_FnExactIsCore.F_eq]
  by_cases hc : (cs.length : Int) > 1048576
  · rw [if_pos hc]
  · rw [if_neg hc]
    rcases sz_hyper a l w1 with h | ⟨r, h, h1, h2, ho⟩
    · rw [h, bsome]; rfl
    · obtain ⟨q, hq1, hq2⟩ := isCore_both a l cs ho (by omega)
      rw [h, bsome, if_neg (by omega)]
      simp only [toHyper_F a l ho, toIntS_F cs (by omega), bsome, hq1, hq2, eqIntS_F cs (by omega), if_true, bne_self_eq_false, Bool.false_eq_true, if_false, eqHyper_F a l ho.1 ho.2.1]
end Go.Proofs.Ytlcedciocmjggaa.Pure
