/- The plain part of the law FnExactAreOwnPlaces: the program's and the reference's answers are the same, and the arguments stay, for all arguments. -/
import Derived.Test.YtlcedciocmjggaaXg8a
import Derived.Test.YtlcedciocmjggaaXpBase
import Derived.Test.YtlcedciocmjggaaXpContains
import Derived.Test.YtlcedciocmjggaaXpDistinct
import Derived.Test.YtlcedciocmjggaaXpHasF
import Derived.Test.YtlcedciocmjggaaXpHyper
import Derived.Test.YtlcedciocmjggaaXpHyperMarks
import Derived.Test.YtlcedciocmjggaaXpInts
import Derived.Test.YtlcedciocmjggaaXpRowEq
import Derived.Test.YtlcedciocmjggaaXpRowMarks
namespace Go.Proofs.Ytlcedciocmjggaa.Pure
open Go.RowKit Go.Proofs.Ytlcedciocmjggaa.X Go.Proofs.YtlcedciocmjggaaW.PrintWords Go.Proofs.YtlcedciocmjggaaW.PrintLast
set_option linter.unusedVariables false
set_option linter.unusedSimpArgs false
def ownAll (l : List (List Int)) (ps : List Int) : Nat → Nat → Bool
  | 0, _ => true
  | d + 1, n => decide (ps.getD n 0 ∈ l.getD n []) && ownAll l ps d (n + 1)
theorem ownAll_succ (l : List (List Int)) (ps : List Int) (d n : Nat) : ownAll l ps (d + 1) n = (decide (ps.getD n 0 ∈ l.getD n []) && ownAll l ps d (n + 1)) := rfl
theorem own_impl_L (P : Int) (l : List (List Int)) (ps : List Int) (h0 : ps.length = l.length) (hl : l.length ≤ 1048576) (hs : ∀ i, i < l.length → (l.getD i []).length ≤ 1048576) : ∀ d n : Nat, n + d = ps.length → impl_AreOwnPlaces.L0 ps ps.length n P l = some (ownAll l ps d n, true)
  | 0, n, h => by rw [impl_AreOwnPlaces.L0_eq, if_neg (by omega)]; rfl
  | d + 1, n, h => by
    rw [impl_AreOwnPlaces.L0_eq, if_pos (by omega), if_pos (by omega), if_pos (by omega), if_pos (by omega), rdr, rdn, contains_F _ _ (hs n (by omega)), bsome, wn (by omega), ownAll_succ, own_impl_L P l ps h0 hl hs d (n + 1) (by omega)]
    by_cases h1 : ps.getD n 0 ∈ l.getD n []
    · rw [decide_eq_true h1]; rfl
    · rw [decide_eq_false h1]; rfl
theorem own_spec_L (P : Int) (l : List (List Int)) (ps : List Int) (h0 : ps.length = l.length) (hl : l.length ≤ 1048576) (hs : ∀ i, i < l.length → (l.getD i []).length ≤ 1048576) : ∀ d n : Nat, n + d = ps.length → spec_AreOwnPlaces.L0 ps ps ps.length n P l = some (ownAll l ps d n && nd (ps.take n) (ps.drop n), true)
  | 0, n, h => by rw [spec_AreOwnPlaces.L0_eq, if_neg (by omega), List.drop_eq_nil_of_le (by omega)]; rfl
  | d + 1, n, h => by
    rw [spec_AreOwnPlaces.L0_eq, if_pos (by omega), if_pos (by omega), if_pos (by omega), if_pos (by omega), rdr, rdn, has_F _ _ (hs n (by omega)), bsome, wn (by omega), ownAll_succ, own_spec_L P l ps h0 hl hs d (n + 1) (by omega), cons_drop ps 0 n (by omega), nd_cons, take_succ_getD ps 0 n (by omega)]
    by_cases h1 : ps.getD n 0 ∈ l.getD n []
    · rw [decide_eq_true h1, if_pos rfl, Bool.true_and, Int.toNat_natCast, if_pos (by omega), has_F _ _ (by rw [List.length_take]; omega), bsome]
      by_cases h2 : ps.getD n 0 ∈ ps.take n
      · rw [decide_eq_true h2, if_pos rfl, if_pos h2, Bool.and_false]
      · rw [decide_eq_false h2, if_neg (by simp), if_neg h2]
    · rw [decide_eq_false h1, if_neg (by simp), Bool.false_and, Bool.false_and]
theorem own_both (a : Int) (l : List (List Int)) (ps : List Int) (ho : SzOk l) (hp : ps.length ≤ 1048576) (hw : ∀ x ∈ ps, wfI .i64 x) : ∃ q : Bool × Bool, impl_AreOwnPlaces.F a l ps = some q ∧ spec_AreOwnPlaces.F a l ps = some q := by
  rw [impl_AreOwnPlaces.F_eq, spec_AreOwnPlaces.F_eq, hyper_impl a l ho.1, hyper_spec a l ho.1, bsome, bsome]
  by_cases h : hyperB a l = true
  · rw [if_pos h, if_pos h]
    by_cases h1 : (ps.length : Int) = l.length
    · have e1 := own_impl_L a l ps (by omega) ho.1 ho.2.1 ps.length 0 (by omega)
      have e2 := own_spec_L a l ps (by omega) ho.1 ho.2.1 ps.length 0 (by omega)
      have e1' : impl_AreOwnPlaces.L0 ps ps.length 0 a l = some (ownAll l ps ps.length 0, true) := e1
      have e2' : spec_AreOwnPlaces.L0 ps ps ps.length 0 a l = some (ownAll l ps ps.length 0 && nd [] ps, true) := e2
      rw [if_pos h1, if_pos h1, distinct_F ps hp hw, bsome, impl_AreOwnPlaces.J0_eq, e1', e2']
      by_cases h2 : nd [] ps = true
      · rw [h2, if_neg (by simp), Bool.and_true]; exact ⟨_, rfl, rfl⟩
      · rw [Bool.eq_false_iff.mpr h2, if_pos (by simp), Bool.and_false]; exact ⟨_, rfl, rfl⟩
    · rw [if_neg h1, if_neg h1, impl_AreOwnPlaces.J0_eq, if_pos rfl]; exact ⟨_, rfl, rfl⟩
  · rw [if_neg h, if_neg h]; exact ⟨_, rfl, rfl⟩
theorem FnExactAreOwnPlaces : X.laws_FnExactAreOwnPlaces.Pure := by
  intro a l cs w0 w1 w2
  refine Sup.rounds (laws_FnExactAreOwnPlaces.F_sup a l cs) ?_
  rw [laws_FnExactAreOwnPlaces.F_eq]
  by_cases hc : (cs.length : Int) > 1048576
  · rw [if_pos hc]
  · rw [if_neg hc]
    rcases sz_hyper a l w1 with h | ⟨r, h, h1, h2, ho⟩
    · rw [h, bsome]; rfl
    · obtain ⟨q, hq1, hq2⟩ := own_both a l cs ho (by omega) w2.2
      rw [h, bsome, if_neg (by omega)]
      simp only [toHyper_F a l ho, toIntS_F cs (by omega), bsome, hq1, hq2, eqIntS_F cs (by omega), if_true, bne_self_eq_false, Bool.false_eq_true, if_false, eqHyper_F a l ho.1 ho.2.1]
end Go.Proofs.Ytlcedciocmjggaa.Pure
