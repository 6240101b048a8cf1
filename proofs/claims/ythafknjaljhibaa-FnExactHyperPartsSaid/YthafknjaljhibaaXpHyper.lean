/- When are places and edges a Hyper: the program's way and the reference's tell the same. -/
import Derived.Test.YthafknjaljhibaaXg1a
import Derived.Test.YthafknjaljhibaaXg1b
import Derived.Test.YthafknjaljhibaaXpBase
import Derived.Test.YthafknjaljhibaaXpRowEq
import Derived.Test.YthafknjaljhibaaXpWithin
set_option linter.unusedVariables false
set_option linter.unusedSimpArgs false
namespace Go.Proofs.Ythafknjaljhibaa.X
open Go.RowKit Go.Proofs.YthafknjaljhibaaW.PrintWords Go.Proofs.YthafknjaljhibaaW.PrintLast
def edgeB (e : List Int) (P : Int) : Bool := decide (e.length = 3 ∧ 0 ≤ e.getD 0 0 ∧ e.getD 0 0 < e.getD 1 0 ∧ e.getD 1 0 < e.getD 2 0 ∧ e.getD 2 0 < P)
def hyperB (P : Int) (l : List (List Int)) : Bool := decide (1 ≤ P ∧ P ≤ 72) && (decide ((l.length : Int) ≤ 40) && l.all fun e => edgeB e P)
theorem rd0 (e : List Int) : rd e 0 = e.getD 0 0 := rfl
theorem rd1 (e : List Int) : rd e 1 = e.getD 1 0 := rfl
theorem rd2 (e : List Int) : rd e 2 = e.getD 2 0 := rfl
theorem isEdge_f (e : List Int) (P : Int) : impl_isEdge.f e P = some (edgeB e P) := by
  unfold impl_isEdge.f edgeB
  rw [rd0, rd1, rd2]
  by_cases h : (e.length : Int) = 3
  · have h' : e.length = 3 := by omega
    rw [if_pos h, if_pos (by omega)]
    by_cases h0 : e.getD 0 0 ≥ 0
    · rw [if_pos h0, if_pos (by omega)]
      by_cases h1 : e.getD 0 0 < e.getD 1 0
      · rw [if_pos h1, if_pos (by omega)]
        by_cases h2 : e.getD 1 0 < e.getD 2 0
        · rw [if_pos h2]; congr 1; rw [decide_eq_decide]; exact ⟨fun h3 => ⟨h', h0, h1, h2, h3⟩, fun h3 => h3.2.2.2.2⟩
        · rw [if_neg h2, decide_eq_false (fun h3 => h2 h3.2.2.2.1)]
      · rw [if_neg h1, decide_eq_false (fun h3 => h1 h3.2.2.1)]
    · rw [if_neg h0, decide_eq_false (fun h3 => h0 h3.2.1)]
  · rw [if_neg h, decide_eq_false (fun h3 => h (by omega))]
theorem peEdge_F (e : List Int) (P : Int) (hP : 1 ≤ P ∧ P ≤ 9223372036854775807) : spec_peEdge.F e P = some (edgeB e P) := by
  rw [spec_peEdge.F_eq]
  unfold edgeB
  by_cases h : (e.length : Int) = 3
  · have h' : e.length = 3 := by omega
    rw [if_pos h, w64 (by omega) (by omega), spec_l1Rising.F_eq, spec_l1Rising.L0_eq, if_pos (by omega), if_pos (by omega), if_pos (by omega), l1In_f, bsome, rd0]
    by_cases a0 : 0 ≤ e.getD 0 0 ∧ e.getD 0 0 ≤ P - 1
    · rw [decide_eq_true a0, if_pos rfl, if_neg (by omega), w64 (x := 0 + 1) (by omega) (by omega)]
      rw [spec_l1Rising.L0_eq, if_pos (by omega), if_pos (by omega), if_pos (by omega), l1In_f, bsome, show (0 + 1 : Int) = 1 from rfl, rd1]
      by_cases a1 : 0 ≤ e.getD 1 0 ∧ e.getD 1 0 ≤ P - 1
      · rw [decide_eq_true a1, if_pos rfl, if_pos (by omega), w64 (x := 1 - 1) (by omega) (by omega), if_pos (by omega), if_pos (by omega), show (1 - 1 : Int) = 0 from rfl, rd0]
        by_cases b1 : e.getD 0 0 ≥ e.getD 1 0
        · rw [if_pos b1, bsome, decide_eq_false (by omega)]
        · rw [if_neg b1, w64 (x := 1 + 1) (by omega) (by omega)]
          rw [spec_l1Rising.L0_eq, if_pos (by omega), if_pos (by omega), if_pos (by omega), l1In_f, bsome, show (1 + 1 : Int) = 2 from rfl, rd2]
          by_cases a2 : 0 ≤ e.getD 2 0 ∧ e.getD 2 0 ≤ P - 1
          · rw [decide_eq_true a2, if_pos rfl, if_pos (by omega), w64 (x := 2 - 1) (by omega) (by omega), if_pos (by omega), if_pos (by omega), show (2 - 1 : Int) = 1 from rfl, rd1]
            by_cases b2 : e.getD 1 0 ≥ e.getD 2 0
            · rw [if_pos b2, bsome, decide_eq_false (by omega)]
            · rw [if_neg b2, w64 (x := 2 + 1) (by omega) (by omega), spec_l1Rising.L0_eq, if_neg (by omega), bsome, decide_eq_true (by omega)]
          · rw [decide_eq_false a2, if_neg (by simp), bsome, decide_eq_false (by omega)]
      · rw [decide_eq_false a1, if_neg (by simp), bsome, decide_eq_false (by omega)]
    · rw [decide_eq_false a0, if_neg (by simp), bsome, decide_eq_false (by omega)]
  · rw [if_neg h, decide_eq_false (fun h3 => h (by omega))]
theorem all_drop {α : Type} (l : List α) (d : α) (p : α → Bool) (n : Nat) (h : n < l.length) : (l.drop n).all p = (p (l.getD n d) && (l.drop (n + 1)).all p) := by
  rw [List.drop_eq_getElem_cons h, List.all_cons, List.getD_eq_getElem?_getD, List.getElem?_eq_getElem h]
  rfl
theorem peGood_L (l : List (List Int)) (P : Int) (hP : 1 ≤ P ∧ P ≤ 72) (hl : l.length ≤ 1048576) : ∀ d n : Nat, n + d = l.length → spec_peGood.L0 l l.length n P l = some ((l.drop n).all fun e => edgeB e P)
  | 0, n, h => by rw [spec_peGood.L0_eq, if_neg (by omega), List.drop_eq_nil_of_le (by omega)]; rfl
  | d + 1, n, h => by
    rw [spec_peGood.L0_eq, if_pos (by omega), if_pos (by omega), if_pos (by omega), rdr, peEdge_F _ P (by omega), bsome, wn (by omega), peGood_L l P hP hl d (n + 1) (by omega), all_drop l [] _ n (by omega)]
    cases edgeB (l.getD n []) P <;> rfl
theorem hyper_spec (P : Int) (l : List (List Int)) (hl : l.length ≤ 1048576) : spec_peGood.F P l = some (hyperB P l) := by
  rw [spec_peGood.F_eq, l1In_f, bsome, spec_peGood.J0_eq, spec_peGood.J0_eq]
  unfold hyperB
  by_cases h1 : 1 ≤ P ∧ P ≤ 72
  · rw [decide_eq_true h1, if_pos rfl]
    by_cases h2 : (l.length : Int) ≤ 40
    · rw [decide_eq_true h2, if_neg (by simp; omega)]
      have := peGood_L l P h1 hl l.length 0 (by omega)
      rw [List.drop_zero] at this
      exact this
    · rw [decide_eq_false h2, if_pos (by simp; omega)]; rfl
  · rw [decide_eq_false h1]; rfl
theorem hyper_impl_L (l : List (List Int)) (P : Int) (m : List (List Int)) (hl : l.length ≤ 1048576) : ∀ d n : Nat, n + d = l.length → ∃ j : Int, slices_IndexFunc_int_int_at_impl_IsHyper_1.L0 l l.length n P m = some j ∧ decide (j ≥ 0) = !((l.drop n).all fun e => edgeB e P)
  | 0, n, h => by
    refine ⟨-1, ?_, ?_⟩
    · rw [slices_IndexFunc_int_int_at_impl_IsHyper_1.L0_eq, if_neg (by omega)]
    · rw [List.drop_eq_nil_of_le (by omega)]; rfl
  | d + 1, n, h => by
    rw [slices_IndexFunc_int_int_at_impl_IsHyper_1.L0_eq, if_pos (by omega), if_pos (by omega), if_pos (by omega), all_drop l [] _ n (by omega)]
    unfold impl_IsHyper_1.f
    rw [isEdge_f, bsome, bsome, rdr, wn (by omega)]
    by_cases h1 : edgeB (l.getD n []) P = true
    · obtain ⟨j, hj, hd⟩ := hyper_impl_L l P m hl d (n + 1) (by omega)
      refine ⟨j, ?_, ?_⟩
      · rw [h1, hj]; rfl
      · rw [hd, h1]; rfl
    · refine ⟨n, ?_, ?_⟩
      · rw [Bool.eq_false_iff.mpr h1]; rfl
      · rw [Bool.eq_false_iff.mpr h1, decide_eq_true (by omega)]; rfl
theorem hyper_impl (P : Int) (l : List (List Int)) (hl : l.length ≤ 1048576) : impl_IsHyper.F P l = some (hyperB P l) := by
  obtain ⟨j, hj, hd⟩ := hyper_impl_L l P l hl l.length 0 (by omega)
  have hj' : slices_IndexFunc_int_int_at_impl_IsHyper_1.L0 l l.length 0 P l = some j := hj
  rw [impl_IsHyper.F_eq, slices_ContainsFunc_int_int_at_impl_IsHyper_1.F_eq, slices_IndexFunc_int_int_at_impl_IsHyper_1.F_eq, hj', bsome, bsome, hd, in_f, bsome, List.drop_zero]
  unfold hyperB
  by_cases h0 : (l.all fun e => edgeB e P) = true
  · rw [h0]
    by_cases h1 : 1 ≤ P ∧ P ≤ 72
    · rw [decide_eq_true h1]; simp
    · rw [decide_eq_false h1]; rfl
  · rw [Bool.eq_false_iff.mpr h0]; simp
theorem hyperB_edge {P : Int} {l : List (List Int)} (h : hyperB P l = true) (i : Nat) (hi : i < l.length) : edgeB (l.getD i []) P = true := by
  unfold hyperB at h
  simp only [Bool.and_eq_true, List.all_eq_true] at h
  exact h.2.2 _ (getD_mem l [] i hi)
theorem hyperB_len {P : Int} {l : List (List Int)} (h : hyperB P l = true) : 1 ≤ P ∧ P ≤ 72 ∧ l.length ≤ 40 := by
  unfold hyperB at h
  simp only [Bool.and_eq_true, decide_eq_true_eq] at h
  omega
theorem edgeB_facts {e : List Int} {P : Int} (h : edgeB e P = true) : e.length = 3 ∧ 0 ≤ e.getD 0 0 ∧ e.getD 0 0 < e.getD 1 0 ∧ e.getD 1 0 < e.getD 2 0 ∧ e.getD 2 0 < P := by
  unfold edgeB at h
  exact of_decide_eq_true h
theorem edgeB_form {e : List Int} {P : Int} (h : edgeB e P = true) : ∃ x y z : Int, e = [x, y, z] ∧ 0 ≤ x ∧ x < y ∧ y < z ∧ z < P := by
  have f := edgeB_facts h
  match e, f with
  | [x, y, z], f => exact ⟨x, y, z, rfl, f.2⟩
end Go.Proofs.Ythafknjaljhibaa.X
