/- Rising numbers, their gaps, and the numbers out of the gaps. -/
import Derived.Test.YtkechjheiakibaaXg10a
import Derived.Test.YtkechjheiakibaaXpBase
import Derived.Test.YtkechjheiakibaaXpWithin
namespace Go.Proofs.Ytkechjheiakibaa.X
open Go.RowKit Go.Proofs.YtkechjheiakibaaW.PrintWords Go.Proofs.YtkechjheiakibaaW.PrintLast
set_option linter.unusedVariables false
set_option linter.unusedSimpArgs false
def rises : Int → List Int → Bool
  | _, [] => true
  | q, x :: xs => decide (q + 1 ≤ x ∧ x ≤ 99999) && rises x xs
def gapsL : Int → List Int → List Int
  | _, [] => []
  | q, x :: xs => (x - q) :: gapsL x xs
theorem gapsL_len : ∀ (q : Int) (l : List Int), (gapsL q l).length = l.length
  | _, [] => rfl
  | q, x :: xs => by rw [gapsL, List.length_cons, List.length_cons, gapsL_len x xs]
theorem drop_getDA (l : List Int) (n : Nat) (h : n < l.length) : l.drop n = l.getD n 0 :: l.drop (n + 1) := by
  rw [List.drop_eq_getElem_cons h, List.getD_eq_getElem?_getD, List.getElem?_eq_getElem h]; rfl
theorem implGaps_L (l : List Int) (hl : l.length ≤ 100000) : ∀ (d n : Nat) (acc : List Int) (q : Int), n + d = l.length → acc.length = n → -1 ≤ q → q ≤ 99999 → acc.length ≤ 60 →
    impl_GapsOf.L0 acc q l l.length n = if rises q (l.drop n) = true ∧ l.length ≤ 60 then some (acc ++ gapsL q (l.drop n), true) else some ([], false)
  | 0, n, acc, q, h, ha, h0, h1, h6 => by
    rw [impl_GapsOf.L0_eq, if_neg (by omega), List.drop_eq_nil_of_le (by omega), if_pos ⟨rfl, by omega⟩, gapsL, List.append_nil]
  | d + 1, n, acc, q, h, ha, h0, h1, h6 => by
    rw [impl_GapsOf.L0_eq, if_pos (by omega), if_pos (by omega), if_pos (by omega), rdn, in_f, bsome, w64 (x := q + 1) (by omega) (by omega), drop_getDA l n (by omega), rises]
    by_cases hv : q + 1 ≤ l.getD n 0 ∧ l.getD n 0 ≤ 99999
    · rw [if_pos (decide_eq_true hv), decide_eq_true hv, Bool.true_and]
      by_cases hs : (acc.length : Int) = 60
      · rw [if_pos hs, if_neg (fun x => by omega)]
      · rw [if_neg hs, if_pos (by omega), w64 (x := l.getD n 0 - q) (by omega) (by omega), wn (by omega), implGaps_L l hl d (n + 1) _ (l.getD n 0) (by omega) (by simp [ha]) (by omega) (by omega) (by simp; omega), gapsL, List.append_assoc]
        rfl
    · rw [if_neg (by rw [decide_eq_false hv]; simp), if_neg (by rw [decide_eq_false hv]; simp)]
theorem implGaps_F (l : List Int) (hl : l.length ≤ 100000) : impl_GapsOf.F l = if rises (-1) l = true ∧ l.length ≤ 60 then some (gapsL (-1) l, true) else some ([], false) := by
  rw [impl_GapsOf.F_eq]
  exact implGaps_L l hl l.length 0 [] (-1) (by omega) rfl (by omega) (by omega) (by simp)
theorem risingA_L (l : List Int) (hl : l.length ≤ 100000) : ∀ (d n : Nat) (q : Int), n + d = l.length → (n = 0 → q = -1) → (0 < n → q = l.getD (n - 1) 0 ∧ 0 ≤ q ∧ q ≤ 99999) → spec_l1Rising.L0 l 0 99999 l l.length n = some (rises q (l.drop n))
  | 0, n, q, h, h0, h1 => by rw [spec_l1Rising.L0_eq, if_neg (by omega), List.drop_eq_nil_of_le (by omega), rises]
  | d + 1, n, q, h, h0, h1 => by
    rw [spec_l1Rising.L0_eq, if_pos (by omega), if_pos (by omega), if_pos (by omega), rdn, l1In_f, bsome, drop_getDA l n (by omega), rises, wn (by omega)]
    by_cases hv : 0 ≤ l.getD n 0 ∧ l.getD n 0 ≤ 99999
    · rw [if_pos (decide_eq_true hv)]
      have ih := risingA_L l hl d (n + 1) (l.getD n 0) (by omega) (by omega) (fun _ => ⟨rfl, hv⟩)
      rcases Nat.eq_zero_or_pos n with e | e
      · have hq := h0 e
        rw [if_neg (by omega), ih, decide_eq_true (by omega), Bool.true_and]
      · obtain ⟨q1, q2, q3⟩ := h1 e
        obtain ⟨p, rfl⟩ : ∃ p, n = p + 1 := ⟨n - 1, by omega⟩
        rw [if_pos (by omega), wp (by omega), if_pos (by omega), if_pos (by omega), rdn]
        rw [show p + 1 - 1 = p from rfl] at q1
        rw [← q1]
        by_cases hx : q ≥ l.getD (p + 1) 0
        · rw [if_pos hx, decide_eq_false (by omega), Bool.false_and]
        · rw [if_neg hx, ih, decide_eq_true (by omega), Bool.true_and]
    · rw [if_neg (by rw [decide_eq_false hv]; simp)]
      have : ¬ (q + 1 ≤ l.getD n 0 ∧ l.getD n 0 ≤ 99999) := by
        rintro ⟨a, b⟩
        rcases Nat.eq_zero_or_pos n with e | e
        · have := h0 e; omega
        · have := h1 e; omega
      rw [decide_eq_false this, Bool.false_and]
theorem specGaps_L (l : List Int) (hl : l.length ≤ 60) : ∀ (d n : Nat) (acc : List Int) (q : Int), n + d = l.length → acc.length = n → -1 ≤ q → q ≤ 99999 → rises q (l.drop n) = true →
    spec_GapsOf.L0 acc q l l.length n = some (acc ++ gapsL q (l.drop n), true)
  | 0, n, acc, q, h, ha, h0, h1, hr => by
    rw [spec_GapsOf.L0_eq, if_neg (by omega), List.drop_eq_nil_of_le (by omega), gapsL, List.append_nil]
  | d + 1, n, acc, q, h, ha, h0, h1, hr => by
    rw [drop_getDA l n (by omega), rises, Bool.and_eq_true, decide_eq_true_eq] at hr
    obtain ⟨hv, hr⟩ := hr
    rw [spec_GapsOf.L0_eq, if_pos (by omega), if_pos (by omega), if_pos (by omega), if_pos (by omega), rdn, w64 (x := l.getD n 0 - q) (by omega) (by omega), wn (by omega), specGaps_L l hl d (n + 1) _ (l.getD n 0) (by omega) (by simp [ha]) (by omega) (by omega) hr, drop_getDA l n (by omega), gapsL, List.append_assoc]
    rfl
theorem specGaps_F (l : List Int) (hl : l.length ≤ 100000) : spec_GapsOf.F l = if rises (-1) l = true ∧ l.length ≤ 60 then some (gapsL (-1) l, true) else some ([], false) := by
  rw [spec_GapsOf.F_eq]
  by_cases h6 : (l.length : Int) > 60
  · rw [if_pos h6, if_neg (fun x => by omega), spec_GapsOf.J0_eq, if_pos rfl]
  · have e : spec_l1Rising.F l 0 99999 = some (rises (-1) l) := by
      rw [spec_l1Rising.F_eq]
      exact risingA_L l hl l.length 0 (-1) (by omega) (fun _ => rfl) (fun h => by omega)
    rw [if_neg h6, e, bsome, spec_GapsOf.J0_eq]
    cases hr : rises (-1) l with
    | true =>
      rw [if_neg (by decide), if_pos ⟨rfl, by omega⟩]
      exact specGaps_L l (by omega) l.length 0 [] (-1) (by omega) rfl (by omega) (by omega) hr
    | false => rw [if_pos (show (!false) = true from rfl), if_neg (by simp)]
theorem gaps_in : ∀ (q : Int) (l : List Int), -1 ≤ q → rises q l = true → allIn (gapsL q l) 1 100000 = true
  | _, [], _, _ => rfl
  | q, x :: xs, hq, h => by
    rw [rises, Bool.and_eq_true, decide_eq_true_eq] at h
    have ih := gaps_in x xs (by omega) h.2
    unfold allIn at ih ⊢
    rw [gapsL, List.all_cons, ih, decide_eq_true (by omega)]; rfl
theorem gapsL_drop : ∀ (n : Nat) (q : Int) (l : List Int), n < l.length → (gapsL q l).getD n 0 = l.getD n 0 - (if n = 0 then q else l.getD (n - 1) 0) ∧ (gapsL q l).drop (n + 1) = gapsL (l.getD n 0) (l.drop (n + 1))
  | _, _, [], h => by simp at h
  | 0, q, x :: xs, h => by simp [gapsL]
  | n + 1, q, x :: xs, h => by
    obtain ⟨h1, h2⟩ := gapsL_drop n x xs (by simpa using h)
    refine ⟨?_, ?_⟩
    · rw [if_neg (show ¬ (n + 1 = 0) by omega), gapsL, List.getD_cons_succ, List.getD_cons_succ, h1]
      cases n with
      | zero => simp
      | succ n => simp
    · rw [gapsL, List.drop_succ_cons, h2, List.getD_cons_succ, List.drop_succ_cons]
theorem rises_at : ∀ (n : Nat) (q : Int) (l : List Int), n < l.length → rises q l = true → (if n = 0 then q else l.getD (n - 1) 0) + 1 ≤ l.getD n 0 ∧ l.getD n 0 ≤ 99999
  | _, _, [], h, _ => by simp at h
  | 0, q, x :: xs, h, hr => by
    rw [rises, Bool.and_eq_true, decide_eq_true_eq] at hr
    simpa using hr.1
  | n + 1, q, x :: xs, h, hr => by
    rw [rises, Bool.and_eq_true] at hr
    have := rises_at n x xs (by simpa using h) hr.2
    rw [if_neg (by omega), List.getD_cons_succ]
    cases n with
    | zero => simpa using this
    | succ n => simpa using this
theorem rises_ge : ∀ (n : Nat) (q : Int) (l : List Int), n < l.length → rises q l = true → q ≤ l.getD n 0
  | _, _, [], h, _ => by simp at h
  | 0, q, x :: xs, h, hr => by
    have := (rises_at 0 q (x :: xs) h hr).1
    simp at this ⊢
    omega
  | n + 1, q, x :: xs, h, hr => by
    rw [rises, Bool.and_eq_true, decide_eq_true_eq] at hr
    have := rises_ge n x xs (by simpa using h) hr.2
    rw [List.getD_cons_succ]
    omega
theorem fromGaps_L (l : List Int) (hl : l.length ≤ 60) (hr : rises (-1) l = true) : ∀ (d n : Nat), n + d = l.length →
    impl_FromGaps.L0 (l.take n) (if n = 0 then -1 else l.getD (n - 1) 0) (gapsL (-1) l) l.length n = some (l, true)
  | 0, n, h => by
    rw [impl_FromGaps.L0_eq, if_neg (by omega), List.take_of_length_le (by omega)]
  | d + 1, n, h => by
    obtain ⟨g1, _⟩ := gapsL_drop n (-1) l (by omega)
    have r1 := rises_at n (-1) l (by omega) hr
    have gl := gapsL_len (-1) l
    have hq : -1 ≤ (if n = 0 then -1 else l.getD (n - 1) 0) := by
      split
      · omega
      · exact rises_ge (n - 1) (-1) l (by omega) hr
    have hn : (l.take n).length = n := by simp; omega
    have ih := fromGaps_L l hl hr d (n + 1) (by omega)
    rw [if_neg (by omega), Nat.add_sub_cancel, take_succ_getD l 0 n (by omega)] at ih
    rw [impl_FromGaps.L0_eq, if_pos (by omega), if_pos (by omega), if_pos (by omega), rdn, g1]
    generalize (if n = 0 then (-1 : Int) else l.getD (n - 1) 0) = q at *
    rw [in_f, bsome, if_pos (decide_eq_true (by omega)), if_neg (by omega), w64 (x := q + (l.getD n 0 - q)) (by omega) (by omega), show q + (l.getD n 0 - q) = l.getD n 0 from by omega, if_neg (by omega), if_pos (by omega), wn (by omega)]
    exact ih
theorem fromGaps_F (l : List Int) (hl : l.length ≤ 60) (hr : rises (-1) l = true) : impl_FromGaps.F (gapsL (-1) l) = some (l, true) := by
  rw [impl_FromGaps.F_eq, gapsL_len]
  exact fromGaps_L l hl hr l.length 0 (by omega)
end Go.Proofs.Ytkechjheiakibaa.X
