/- The plain part of the law FnExactPeelBy: the program's and the reference's answers are the same, the arguments stay, and the answers are lists of their own, for all arguments. WITH: PeelByAll Contains HasF Peels PeelLoops StepMarks -/
import Derived.Test.YtlcedciocmjggaaXg2000a
import Derived.Test.YtlcedciocmjggaaXg2000b
import Derived.Test.YtlcedciocmjggaaXg3800a
import Derived.Test.YtlcedciocmjggaaXg3a00a
import Derived.Test.YtlcedciocmjggaaXg3c00a
import Derived.Test.YtlcedciocmjggaaXg3c04a
import Derived.Test.YtlcedciocmjggaaXg3e04a
import Derived.Test.YtlcedciocmjggaaXg3e0ea
import Derived.Test.YtlcedciocmjggaaXg3f04a
import Derived.Test.YtlcedciocmjggaaXg3f0ea
import Derived.Test.YtlcedciocmjggaaXpBase
import Derived.Test.YtlcedciocmjggaaXpDegrees
import Derived.Test.YtlcedciocmjggaaXpHyper
import Derived.Test.YtlcedciocmjggaaXpHyperMarks
import Derived.Test.YtlcedciocmjggaaXpInts
import Derived.Test.YtlcedciocmjggaaXpMarks
import Derived.Test.YtlcedciocmjggaaXpRowEq
import Derived.Test.YtlcedciocmjggaaXpRowMarks
import Derived.Test.YtlcedciocmjggaaXpWithin
import Derived.Test.YtlcedciocmjggaaXx0
namespace Go.Proofs.Ytlcedciocmjggaa.X
open Go.RowKit Go.Proofs.YtlcedciocmjggaaW.PrintWords Go.Proofs.YtlcedciocmjggaaW.PrintLast
set_option linter.unusedVariables false
set_option linter.unusedSimpArgs false
theorem impl_PeelBy_1_L (l : List Int) (hl : l.length ≤ 1048576) : ∀ d n : Nat, n + d = l.length → ∃ j : Int, slices_IndexFunc_int_int_at_impl_PeelBy_1.L0 l l.length n = some j ∧ decide (j ≥ 0) = !(allIn (l.drop n) 0 99)
  | 0, n, h => by
    refine ⟨-1, ?_, ?_⟩
    · rw [slices_IndexFunc_int_int_at_impl_PeelBy_1.L0_eq, if_neg (by omega)]
    · rw [List.drop_eq_nil_of_le (by omega)]; rfl
  | d + 1, n, h => by
    rw [slices_IndexFunc_int_int_at_impl_PeelBy_1.L0_eq, if_pos (by omega), if_pos (by omega), if_pos (by omega), allIn_drop l _ _ n (by omega)]
    unfold impl_PeelBy_1.f
    rw [in_f, bsome, bsome, rdn]
    by_cases h1 : 0 ≤ l.getD n 0 ∧ l.getD n 0 ≤ 99
    · obtain ⟨j, hj, hd⟩ := impl_PeelBy_1_L l hl d (n + 1) (by omega)
      refine ⟨j, ?_, ?_⟩
      · simp only [decide_eq_true h1, Bool.not_true, Bool.false_eq_true, if_false]
        rw [wn (by omega), hj]
      · rw [hd, decide_eq_true h1]; rfl
    · refine ⟨n, ?_, ?_⟩
      · simp only [decide_eq_false h1, Bool.not_false, if_true]
      · rw [decide_eq_false h1, decide_eq_true (by omega)]; rfl
theorem impl_PeelBy_1_C (l : List Int) (hl : l.length ≤ 1048576) : slices_ContainsFunc_int_int_at_impl_PeelBy_1.F l = some (!(allIn l 0 99)) := by
  rw [slices_ContainsFunc_int_int_at_impl_PeelBy_1.F_eq, slices_IndexFunc_int_int_at_impl_PeelBy_1.F_eq]
  obtain ⟨j, hj, hd⟩ := impl_PeelBy_1_L l hl l.length 0 (by omega)
  have hj' : slices_IndexFunc_int_int_at_impl_PeelBy_1.L0 l l.length 0 = some j := hj
  rw [hj', bsome, hd]; rfl
theorem mem_drop_step (l : List Int) (v : Int) (n : Nat) (h : n < l.length) : (v ∈ l.drop n) ↔ (v = l.getD n 0 ∨ v ∈ l.drop (n + 1)) := by
  rw [List.drop_eq_getElem_cons h, List.mem_cons, List.getD_eq_getElem?_getD, List.getElem?_eq_getElem h]
  rfl
theorem index_L (l : List Int) (v : Int) (hl : l.length ≤ 1048576) : ∀ d n : Nat, n + d = l.length → ∃ j : Int, slices_Index_int_int.L0 l v l.length n = some j ∧ decide (j ≥ 0) = decide (v ∈ l.drop n)
  | 0, n, h => by
    rw [slices_Index_int_int.L0_eq, if_neg (by omega), List.drop_eq_nil_of_le (by omega)]
    exact ⟨-1, rfl, by simp⟩
  | d + 1, n, h => by
    have e2 : slices_Index_int_int.L0 l v l.length n = if v = l.getD n 0 then some (n : Int) else slices_Index_int_int.L0 l v l.length ((n + 1 : Nat) : Int) := by
      rw [slices_Index_int_int.L0_eq, if_pos (by omega), if_pos (by omega), if_pos (by omega), rdn, wn (by omega)]
    have hm := mem_drop_step l v n (by omega)
    rw [e2]
    by_cases hq : v = l.getD n 0
    · rw [if_pos hq]
      exact ⟨n, rfl, by rw [decide_eq_true (hm.mpr (.inl hq)), decide_eq_true (by omega)]⟩
    · rw [if_neg hq]
      obtain ⟨j, h1, h2⟩ := index_L l v hl d (n + 1) (by omega)
      refine ⟨j, h1, h2.trans ?_⟩
      rw [decide_eq_decide, hm]
      exact ⟨.inr, fun x => x.resolve_left hq⟩
theorem contains_F (l : List Int) (v : Int) (hl : l.length ≤ 1048576) : slices_Contains_int_int.F l v = some (decide (v ∈ l)) := by
  obtain ⟨j, h1, h2⟩ := index_L l v hl l.length 0 (by omega)
  rw [show ((0 : Nat) : Int) = 0 from rfl] at h1
  rw [slices_Contains_int_int.F_eq, slices_Index_int_int.F_eq, h1, bsome, h2]
  rfl
theorem hasF_drop (l : List Int) (v : Int) (n : Nat) (h : n < l.length) : (v ∈ l.drop n) ↔ (v = l.getD n 0 ∨ v ∈ l.drop (n + 1)) := by
  rw [List.drop_eq_getElem_cons h, List.mem_cons, List.getD_eq_getElem?_getD, List.getElem?_eq_getElem h]; rfl
theorem has_FL (l : List Int) (v : Int) (hl : l.length ≤ 1048576) : ∀ d n : Nat, n + d = l.length → spec_l1Has.L0 v l l.length n = some (decide (v ∈ l.drop n))
  | 0, n, h => by
    rw [spec_l1Has.L0_eq, if_neg (by omega), List.drop_eq_nil_of_le (by omega)]; simp
  | d + 1, n, h => by
    rw [spec_l1Has.L0_eq, if_pos (by omega), if_pos (by omega), if_pos (by omega), rdn]
    have hd := hasF_drop l v n (by omega)
    by_cases h1 : l.getD n 0 = v
    · rw [if_pos h1, decide_eq_true (hd.2 (Or.inl h1.symm))]
    · rw [if_neg h1, wn (by omega), has_FL l v hl d (n + 1) (by omega)]
      congr 1
      rw [decide_eq_decide, hd]
      exact ⟨Or.inr, fun h2 => h2.elim (fun h3 => absurd h3.symm h1) id⟩
theorem has_F (l : List Int) (v : Int) (hl : l.length ≤ 1048576) : spec_l1Has.F l v = some (decide (v ∈ l)) := by
  rw [spec_l1Has.F_eq]
  have := has_FL l v hl l.length 0 (by omega)
  rw [List.drop_zero] at this
  exact this
def frees (D : List Int) : Nat → Nat → List Int
  | 0, _ => []
  | d + 1, n => if D.getD n 0 = 1 then (n : Int) :: frees D d (n + 1) else frees D d (n + 1)
theorem frees_succ (D : List Int) (d n : Nat) : frees D (d + 1) n = if D.getD n 0 = 1 then (n : Int) :: frees D d (n + 1) else frees D d (n + 1) := rfl
theorem mem_frees (D : List Int) (x : Int) : ∀ d n, x ∈ frees D d n ↔ ∃ q : Nat, x = q ∧ n ≤ q ∧ q < n + d ∧ D.getD q 0 = 1
  | 0, n => by
    constructor
    · intro h; cases h
    · rintro ⟨q, _, h1, h2, _⟩; omega
  | d + 1, n => by
    rw [frees_succ]
    by_cases h : D.getD n 0 = 1
    · rw [if_pos h, List.mem_cons, mem_frees D x d (n + 1)]
      constructor
      · rintro (rfl | ⟨q, h1, h2, h3, h4⟩)
        · exact ⟨n, rfl, by omega, by omega, h⟩
        · exact ⟨q, h1, by omega, by omega, h4⟩
      · rintro ⟨q, h1, h2, h3, h4⟩
        rcases Nat.lt_or_ge n q with h5 | h5
        · exact Or.inr ⟨q, h1, by omega, by omega, h4⟩
        · left; omega
    · rw [if_neg h, mem_frees D x d (n + 1)]
      constructor
      · rintro ⟨q, h1, h2, h3, h4⟩; exact ⟨q, h1, by omega, by omega, h4⟩
      · rintro ⟨q, h1, h2, h3, h4⟩
        refine ⟨q, h1, ?_, by omega, h4⟩
        rcases Nat.lt_or_ge n q with h5 | h5
        · omega
        · obtain rfl : q = n := by omega
          exact absurd h4 h
theorem frees_len (D : List Int) : ∀ d n, (frees D d n).length ≤ d
  | 0, n => by simp [frees]
  | d + 1, n => by
    rw [frees_succ]
    have := frees_len D d (n + 1)
    split
    · simp only [List.length_cons]; omega
    · omega
def freeL (l : List (List Int)) (P : Int) (is : List Int) : List Int := frees (degs l P is) P.toNat 0
theorem singles_L (D : List Int) (hD : D.length ≤ 1000) : ∀ (d n : Nat) (acc : List Int), n + d = D.length → acc.length ≤ n → impl_Hyper_singles.L0 acc D D.length n = some (acc ++ frees D d n)
  | 0, n, acc, h, ha => by rw [impl_Hyper_singles.L0_eq, if_neg (by omega)]; simp [frees]
  | d + 1, n, acc, h, ha => by
    rw [impl_Hyper_singles.L0_eq, if_pos (by omega), if_pos (by omega), if_pos (by omega), rdn, frees_succ]
    by_cases h1 : D.getD n 0 = 1
    · rw [if_pos h1, if_pos h1, if_pos (by omega), wn (by omega), singles_L D hD d (n + 1) _ (by omega) (by simp; omega), List.append_assoc]
      rfl
    · rw [if_neg h1, if_neg h1, wn (by omega), singles_L D hD d (n + 1) _ (by omega) (by omega)]
theorem peFree_L (D : List Int) (hD : D.length ≤ 1000) : ∀ (d n : Nat) (acc : List Int), n + d = D.length → acc.length ≤ n → spec_peFree.L0 acc D D.length n = some (acc ++ frees D d n)
  | 0, n, acc, h, ha => by rw [spec_peFree.L0_eq, if_neg (by omega)]; simp [frees]
  | d + 1, n, acc, h, ha => by
    rw [spec_peFree.L0_eq, if_pos (by omega), if_pos (by omega), if_pos (by omega), rdn, frees_succ]
    by_cases h1 : D.getD n 0 = 1
    · rw [if_pos h1, if_pos h1, if_pos (by omega), wn (by omega), peFree_L D hD d (n + 1) _ (by omega) (by simp; omega), List.append_assoc]
      rfl
    · rw [if_neg h1, if_neg h1, wn (by omega), peFree_L D hD d (n + 1) _ (by omega) (by omega)]
theorem degs_len {P : Int} {l : List (List Int)} (ho : HyOk P l) (is : List Int) (his : ∀ j ∈ is, 0 ≤ j ∧ j < l.length) : (degs l P is).length = P.toNat := by
  have := (degs_bd ho is his).1
  omega
theorem singles_F {P : Int} (g : List Bool) (l : List (List Int)) (hg : g.length = l.length) (ho : HyOk P l) : impl_Hyper_singles.F P l g = some (freeL l P (lefts g)) := by
  have h1 := ho.1
  have hl := degs_len ho (lefts g) (lefts_fit hg)
  rw [impl_Hyper_singles.F_eq, deg_impl g l hg ho, bsome]
  have := singles_L (degs l P (lefts g)) (by omega) P.toNat 0 [] (by omega) (by simp)
  exact this
theorem free_F {P : Int} (is : List Int) (l : List (List Int)) (hi : is.length ≤ 1000) (his : ∀ j ∈ is, 0 ≤ j ∧ j < l.length) (ho : HyOk P l) : spec_peFree.F P l is = some (freeL l P is) := by
  have h1 := ho.1
  have hl := degs_len ho is his
  rw [spec_peFree.F_eq, deg_spec is l hi his ho, bsome]
  have := peFree_L (degs l P is) (by omega) P.toNat 0 [] (by omega) (by simp)
  exact this
theorem left_L (g : List Bool) (hg : g.length ≤ 1048576) : ∀ (d n : Nat) (acc : List Int), n + d = g.length → acc.length ≤ n → impl_left.L0 acc g g.length n = some (acc ++ idxs g d n)
  | 0, n, acc, h, ha => by rw [impl_left.L0_eq, if_neg (by omega)]; simp [idxs]
  | d + 1, n, acc, h, ha => by
    rw [impl_left.L0_eq, if_pos (by omega), if_pos (by omega), if_pos (by omega), rdOfn, idxs_succ]
    by_cases h1 : g.getD n false = true
    · rw [if_pos h1, if_pos h1, wn (by omega), left_L g hg d (n + 1) _ (by omega) (by omega)]
    · rw [if_neg h1, if_neg h1, if_pos (by omega), wn (by omega), left_L g hg d (n + 1) _ (by omega) (by simp; omega), List.append_assoc]
      rfl
theorem left_F (g : List Bool) (hg : g.length ≤ 1048576) : impl_left.F g = some (lefts g) := by
  rw [impl_left.F_eq]
  have := left_L g hg g.length 0 [] (by omega) (by simp)
  exact this
theorem drop_L (l : List Int) (a : Int) (hl : l.length ≤ 1048576) : ∀ (d n : Nat) (acc : List Int), n + d = l.length → acc.length ≤ n → spec_l1Drop.L0 a acc l l.length n = some (acc ++ (l.drop n).filter (fun x => decide (x ≠ a)))
  | 0, n, acc, h, ha => by rw [spec_l1Drop.L0_eq, if_neg (by omega), List.drop_eq_nil_of_le (by omega)]; simp
  | d + 1, n, acc, h, ha => by
    rw [spec_l1Drop.L0_eq, if_pos (by omega), if_pos (by omega), if_pos (by omega), rdn, drop_getD l 0 n (by omega), List.filter_cons]
    by_cases h1 : l.getD n 0 = a
    · rw [if_pos h1, wn (by omega), drop_L l a hl d (n + 1) _ (by omega) (by omega), if_neg (by simpa using h1)]
    · rw [if_neg h1, if_pos (by omega), wn (by omega), drop_L l a hl d (n + 1) _ (by omega) (by simp; omega), if_pos (by simpa using h1), List.append_assoc]
      rfl
theorem drop_F (l : List Int) (a : Int) (hl : l.length ≤ 1048576) : spec_l1Drop.F l a = some (l.filter (fun x => decide (x ≠ a))) := by
  rw [spec_l1Drop.F_eq]
  have := drop_L l a hl l.length 0 [] (by omega) (by simp)
  rw [List.drop_zero] at this
  exact this
theorem idxs_set (g : List Bool) (r : Nat) (hr : r < g.length) : ∀ d n, idxs (g.set r true) d n = (idxs g d n).filter (fun x => decide (x ≠ (r : Int)))
  | 0, n => rfl
  | d + 1, n => by
    rw [idxs_succ, idxs_succ, idxs_set g r hr d (n + 1)]
    by_cases h : r = n
    · subst h
      rw [getD_set_self _ _ _ _ hr, if_pos rfl]
      split
      · rfl
      · rw [List.filter_cons, if_neg (by simp)]
    · rw [getD_set_ne _ _ _ _ _ h]
      split
      · rfl
      · rw [List.filter_cons, if_pos (by simp; omega)]
theorem lefts_set (g : List Bool) (r : Int) (h0 : 0 ≤ r) (hr : r < g.length) : lefts (g.set r.toNat true) = (lefts g).filter (fun x => decide (x ≠ r)) := by
  unfold lefts
  rw [List.length_set, idxs_set g r.toNat (by omega)]
  rw [show ((r.toNat : Nat) : Int) = r from by omega]
theorem filter_less (l : List Int) (r : Int) (h : r ∈ l) : (l.filter (fun x => decide (x ≠ r))).length < l.length := by
  rw [List.length_filter_lt_length_iff_exists]
  exact ⟨r, h, by simp⟩
def hasP (l : List (List Int)) (p : Int) (i : Int) : Bool := decide (p ∈ l.getD i.toNat [])
theorem with_L {P : Int} (p : Int) (is : List Int) (l : List (List Int)) (Q : Int) (hi : is.length ≤ 1000) (his : ∀ j ∈ is, 0 ≤ j ∧ j < l.length) (ho : HyOk P l) : ∀ d n : Nat, n + d = is.length → spec_peWith.L0 p is is.length n Q l = some (((is.drop n).find? (hasP l p)).getD (-1))
  | 0, n, h => by rw [spec_peWith.L0_eq, if_neg (by omega), List.drop_eq_nil_of_le (by omega)]; rfl
  | d + 1, n, h => by
    have hj := his _ (getD_mem is 0 n (by omega))
    have h3 := (ho.edge (is.getD n 0).toNat (by omega)).1
    rw [spec_peWith.L0_eq, if_pos (by omega), if_pos (by omega), if_pos (by omega), rdn, if_pos hj.1, if_pos hj.2, show rd_L1 l (is.getD n 0) = l.getD (is.getD n 0).toNat [] from rfl, has_F _ _ (by omega), bsome, drop_getD is 0 n (by omega), List.find?_cons, wn (by omega), with_L p is l Q hi his ho d (n + 1) (by omega)]
    show _ = some (Option.getD (match hasP l p (is.getD n 0) with | true => _ | false => _) _)
    unfold hasP
    by_cases h1 : p ∈ l.getD (is.getD n 0).toNat []
    · rw [if_pos (by simpa using h1), decide_eq_true h1]; rfl
    · rw [if_neg (by simpa using h1), decide_eq_false h1]
theorem with_F {P : Int} (p : Int) (is : List Int) (l : List (List Int)) (hi : is.length ≤ 1000) (his : ∀ j ∈ is, 0 ≤ j ∧ j < l.length) (ho : HyOk P l) : spec_peWith.F P l is p = some ((is.find? (hasP l p)).getD (-1)) := by
  rw [spec_peWith.F_eq]
  have := with_L p is l P hi his ho is.length 0 (by omega)
  rw [List.drop_zero] at this
  exact this
theorem edgeAt_L {P : Int} (p : Int) (g : List Bool) (l : List (List Int)) (Q : Int) (hg : g.length = l.length) (ho : HyOk P l) (r : Int) : ∀ d n : Nat, n + d = g.length → (idxs g d n).find? (hasP l p) = some r → impl_Hyper_edgeAt.L0 g p n Q l = some r
  | 0, n, h, hf => by cases hf
  | d + 1, n, h, hf => by
    have hl := ho.2.1
    have h3 := (ho.edge n (by omega)).1
    rw [impl_Hyper_edgeAt.L0_eq, if_pos (by omega), if_pos (by omega), rdOfn]
    rw [idxs_succ] at hf
    by_cases h1 : g.getD n false = true
    · rw [if_pos h1] at hf ⊢
      rw [wn (by omega)]
      exact edgeAt_L p g l Q hg ho r d (n + 1) (by omega) hf
    · rw [if_neg h1] at hf ⊢
      rw [if_pos (by omega), rdr, contains_F _ _ (by omega), bsome]
      rw [List.find?_cons] at hf
      unfold hasP at hf
      rw [Int.toNat_natCast] at hf
      by_cases h2 : p ∈ l.getD n []
      · rw [if_pos (by simpa using h2)]
        rw [decide_eq_true h2] at hf
        exact hf
      · rw [if_neg (by simpa using h2), wn (by omega)]
        rw [decide_eq_false h2] at hf
        exact edgeAt_L p g l Q hg ho r d (n + 1) (by omega) hf
theorem edgeAt_F {P : Int} (p : Int) (g : List Bool) (l : List (List Int)) (hg : g.length = l.length) (ho : HyOk P l) (r : Int) (hf : (lefts g).find? (hasP l p) = some r) : impl_Hyper_edgeAt.F P l g p = some r := by
  rw [impl_Hyper_edgeAt.F_eq]
  exact edgeAt_L p g l P hg ho r g.length 0 (by omega) hf
/-- How often a place is counted. -/
def cnt (l : List (List Int)) (q : Nat) (is : List Int) : Nat := (is.map fun i => (l.getD i.toNat []).count (q : Int)).sum
theorem bumps_getD (q : Nat) : ∀ (e D : List Int), (∀ p ∈ e, 0 ≤ p ∧ p < (D.length : Int)) → (bumps D e).getD q 0 = D.getD q 0 + (e.count (q : Int) : Int)
  | [], D, _ => by simp [bumps]
  | p :: e, D, h => by
    have h1 := h p (List.mem_cons_self)
    have e2 : bumps D (p :: e) = bumps (bump D p) e := rfl
    have hl : (bump D p).length = D.length := by unfold bump; rw [List.length_set]
    rw [e2, bumps_getD q e (bump D p) (fun x hx => by rw [hl]; exact h x (List.mem_cons_of_mem _ hx)), bump_getD D p q h1.1 h1.2, List.count_cons]
    by_cases hp : p = (q : Int)
    · rw [if_pos hp, if_pos (by simpa using hp)]; omega
    · rw [if_neg hp, if_neg (by simpa using hp)]; omega
theorem degL_getD {P : Int} {l : List (List Int)} (ho : HyOk P l) (q : Nat) : ∀ (is D : List Int), (D.length : Int) = P → (∀ j ∈ is, 0 ≤ j ∧ j < l.length) → (degL l D is).getD q 0 = D.getD q 0 + (cnt l q is : Int)
  | [], D, _, _ => by simp [degL, cnt]
  | j :: is, D, hD, h => by
    have h1 := h j (List.mem_cons_self)
    have h2 := (ho.edge j.toNat (by omega)).2
    have e2 : degL l D (j :: is) = degL l (bumps D (l.getD j.toNat [])) is := rfl
    have hb : ∀ (e D : List Int), (bumps D e).length = D.length := by
      intro e
      induction e with
      | nil => intro D; rfl
      | cons a e ih => intro D; rw [show bumps D (a :: e) = bumps (bump D a) e from rfl, ih]; unfold bump; rw [List.length_set]
    rw [e2, degL_getD ho q is _ (by rw [hb]; exact hD) (fun x hx => h x (List.mem_cons_of_mem _ hx)), bumps_getD q _ D (by rw [hD]; exact h2)]
    unfold cnt
    simp only [List.map_cons, List.sum_cons]
    omega
theorem degs_getD {P : Int} {l : List (List Int)} (ho : HyOk P l) (is : List Int) (his : ∀ j ∈ is, 0 ≤ j ∧ j < l.length) (q : Nat) : (degs l P is).getD q 0 = (cnt l q is : Int) := by
  have h1 := ho.1
  unfold degs
  rw [degL_getD ho q is _ (by rw [List.length_replicate]; omega) his, List.getD_eq_getElem?_getD, List.getElem?_replicate]
  split <;> simp
theorem cnt_pos (l : List (List Int)) (q : Nat) : ∀ is : List Int, 0 < cnt l q is → ∃ i ∈ is, (q : Int) ∈ l.getD i.toNat []
  | [], h => by simp [cnt] at h
  | j :: is, h => by
    unfold cnt at h
    simp only [List.map_cons, List.sum_cons] at h
    by_cases h1 : (q : Int) ∈ l.getD j.toNat []
    · exact ⟨j, List.mem_cons_self, h1⟩
    · rw [List.count_eq_zero.2 h1, Nat.zero_add] at h
      obtain ⟨i, hi, hq⟩ := cnt_pos l q is h
      exact ⟨i, List.mem_cons_of_mem _ hi, hq⟩
theorem free_mem {P : Int} {l : List (List Int)} (ho : HyOk P l) (is : List Int) (his : ∀ j ∈ is, 0 ≤ j ∧ j < l.length) {p : Int} (h : p ∈ freeL l P is) : 0 ≤ p ∧ p < P ∧ cnt l p.toNat is = 1 ∧ ∃ r, is.find? (hasP l p) = some r ∧ r ∈ is := by
  have h1 := ho.1
  obtain ⟨q, rfl, _, h2, h3⟩ := (mem_frees _ p _ _).1 h
  rw [degs_getD ho is his q] at h3
  obtain ⟨i, hi, hq⟩ := cnt_pos l q is (by omega)
  refine ⟨by omega, by omega, by rw [Int.toNat_natCast]; omega, ?_⟩
  have hs : ∃ x ∈ is, hasP l (q : Int) x = true := ⟨i, hi, by unfold hasP; simpa using hq⟩
  have := List.find?_isSome.2 hs
  obtain ⟨r, hr⟩ := Option.isSome_iff_exists.1 this
  exact ⟨r, hr, List.mem_of_find?_eq_some hr⟩
theorem freeL_len {P : Int} {l : List (List Int)} (is : List Int) : (freeL l P is).length ≤ P.toNat := frees_len _ _ _
theorem rd_0 (t : List Int) : rd t 0 = t.getD 0 0 := rfl
/-- One step: the place t, the edge r. -/
theorem peel_step {P : Int} {l : List (List Int)} (ho : HyOk P l) (g : List Bool) (hg : g.length = l.length) (j : Nat) (hj : j < (freeL l P (lefts g)).length) :
    ∃ r : Int, impl_Hyper_edgeAt.F P l g ((freeL l P (lefts g)).getD j 0) = some r ∧ spec_peWith.F P l (lefts g) ((freeL l P (lefts g)).getD j 0) = some r ∧ 0 ≤ r ∧ r < g.length ∧ spec_l1Drop.F (lefts g) r = some (lefts (g.set r.toNat true)) ∧ (lefts (g.set r.toNat true)).length < (lefts g).length := by
  have hl := ho.2.1
  have hll := lefts_len g
  obtain ⟨h0, h1, h2, r, hr, hm⟩ := free_mem ho (lefts g) (lefts_fit hg) (getD_mem _ 0 j hj)
  have hr' := mem_lefts hm
  refine ⟨r, edgeAt_F _ g l hg ho r hr, ?_, hr'.1, hr'.2.1, ?_, ?_⟩
  · rw [with_F _ _ l (by omega) (lefts_fit hg) ho, hr]; rfl
  · rw [drop_F _ _ (by omega), lefts_set g r hr'.1 hr'.2.1]
  · rw [lefts_set g r hr'.1 hr'.2.1]; exact filter_less _ _ hm
def StepsOk (m : Nat) (S : List S88) : Prop := ∀ s ∈ S, 0 ≤ s.f0 ∧ s.f0 < (m : Int)
theorem StepsOk.snoc {m : Nat} {S : List S88} (h : StepsOk m S) {s : S88} (hs : 0 ≤ s.f0 ∧ s.f0 < (m : Int)) : StepsOk m (S ++ [s]) := by
  intro x hx
  rcases List.mem_append.1 hx with h1 | h1
  · exact h x h1
  · simp only [List.mem_singleton] at h1; subst h1; exact hs
theorem peel_both {P : Int} {l : List (List Int)} (ho : HyOk P l) : ∀ (d : Nat) (g : List Bool) (S : List S88) (k : Int), g.length = l.length → (lefts g).length ≤ d → S.length + (lefts g).length ≤ 40 → 0 ≤ k → k + d ≤ 1000 → StepsOk l.length S →
    ∃ (S' : List S88) (r : List Int), impl_Hyper_peel.L0 S g P l = some (S', r) ∧ spec_pePeel.L0 [] true S (lefts g) k P l = some (S', r) ∧ S'.length ≤ 40 ∧ r.length ≤ 40 ∧ StepsOk l.length S' := by
  intro d
  induction d with
  | zero =>
    intro g S k hg hd hS hk hk' hok
    have hl := ho.2.1
    have h0 : lefts g = [] := List.length_eq_zero_iff.1 (by omega)
    have h1 : (freeL l P (lefts g)).length = 0 := by
      rcases Nat.eq_zero_or_pos (freeL l P (lefts g)).length with h | h
      · exact h
      · obtain ⟨_, _, _, r, _, hm⟩ := free_mem ho (lefts g) (lefts_fit hg) (getD_mem _ 0 0 h)
        rw [h0] at hm; cases hm
    refine ⟨S, lefts g, ?_, ?_, by omega, by omega, hok⟩
    · rw [impl_Hyper_peel.L0_eq, singles_F g l hg ho, bsome, if_pos (by omega), left_F g (by omega), bsome]
    · rw [spec_pePeel.L0_eq, if_pos rfl, spec_pePeel.J1_eq, if_pos rfl, free_F _ l (by omega) (lefts_fit hg) ho, bsome, if_pos (by omega)]
  | succ d ih =>
    intro g S k hg hd hS hk hk' hok
    have hl := ho.2.1
    rw [impl_Hyper_peel.L0_eq, singles_F g l hg ho, bsome, spec_pePeel.L0_eq, if_pos rfl, spec_pePeel.J1_eq, if_pos rfl, free_F _ l (by omega) (lefts_fit hg) ho, bsome]
    by_cases h : ((freeL l P (lefts g)).length : Int) = 0
    · rw [if_pos h, if_pos h, left_F g (by omega), bsome]
      exact ⟨S, lefts g, rfl, rfl, by omega, by omega, hok⟩
    · obtain ⟨r, e1, e2, r0, r1, e3, e4⟩ := peel_step ho g hg 0 (by omega)
      rw [if_neg h, if_neg h, if_pos (by omega), rd_0, e1, bsome, if_pos r0, if_pos (by omega), if_pos (by omega), if_neg (by simp; omega), if_pos (by omega), e2, bsome, if_pos (by omega), e3, bsome, w64 (by omega) (by omega)]
      exact ih (g.set r.toNat true) _ (k + 1) (by simpa using hg) (by omega) (by simp; omega) (by omega) (by omega) (hok.snoc ⟨r0, by rw [← hg]; exact r1⟩)
theorem peels_both {P : Int} {l : List (List Int)} (ho : HyOk P l) : ∃ (S : List S88) (r : List Int), impl_Hyper_peel.F P l = some (S, r) ∧ spec_pePeel.F P l [] true = some (S, r) ∧ S.length ≤ 40 ∧ r.length ≤ 40 ∧ StepsOk l.length S := by
  have hl := ho.2.1
  have hn : (lefts (List.replicate l.length false)).length ≤ 40 := by have := lefts_len (List.replicate l.length false); simp at this; omega
  obtain ⟨S, r, h1, h2, h3⟩ := peel_both ho 40 (List.replicate l.length false) [] 0 (by simp) hn (by simpa using hn) (by omega) (by omega) (by intro s hs; cases hs)
  refine ⟨S, r, ?_, ?_, h3⟩
  · rw [impl_Hyper_peel.F_eq, none_f P l (by omega), bsome]; exact h1
  · rw [spec_pePeel.F_eq, all_F P l (by omega), bsome]; exact h2
def msteps : List S88 → Int → List S88
  | [], _ => []
  | _ :: rs, k => ⟨k, k + 1⟩ :: msteps rs (k + 2)
theorem rd88 (xs : List S88) (n : Nat) : rd_T88 xs (n : Int) = xs.getD n z88 := rfl
theorem markSt_L : ∀ (rs pre : List S88) (k : Int), 0 ≤ k → (pre ++ rs).length ≤ 1000 → k + 2 * rs.length ≤ 10000 → laws_markPeelStepS.L0 (pre ++ rs) k pre.length = some (k + 2 * rs.length, pre ++ msteps rs k)
  | [], pre, k, h0, hl, hk => by
    rw [laws_markPeelStepS.L0_eq, if_neg (by simp)]
    simp [msteps]
  | s :: rs, pre, k, h0, hl, hk => by
    have hl' : pre.length + rs.length + 1 ≤ 1000 := by simp at hl; omega
    have hk' : k + 2 * (rs.length + 1 : Int) ≤ 10000 := by simpa using hk
    rw [laws_markPeelStepS.L0_eq, if_pos (by simp; omega), if_pos (by omega), Int.toNat_natCast, set_mid, bsome, rd88, rd88, getD_mid, getD_mid, set_mid, w64 (x := k + 1) (by omega) (by omega), w64 (x := k + 1 + 1) (by omega) (by omega), wn (by omega)]
    have := markSt_L rs (pre ++ [⟨k, k + 1⟩]) (k + 2) (by omega) (by simp at hl ⊢; omega) (by omega)
    rw [List.append_assoc, List.singleton_append, List.length_append, List.length_singleton, List.append_assoc, List.singleton_append] at this
    rw [show k + 1 + 1 = k + 2 from by omega]
    refine Eq.trans this ?_
    rw [show k + 2 + 2 * (rs.length : Int) = k + 2 * ((s :: rs).length : Int) from by simp; omega]
    rfl
theorem markSt_F (l : List S88) (k : Int) (h0 : 0 ≤ k) (hl : l.length ≤ 1000) (hk : k + 2 * l.length ≤ 10000) : laws_markPeelStepS.F l k = some (k + 2 * l.length, msteps l k) := by
  rw [laws_markPeelStepS.F_eq]
  exact markSt_L l [] k h0 (by simpa using hl) hk
theorem heldSt_L : ∀ (rs pre : List S88) (k : Int), 0 ≤ k → (pre ++ rs).length ≤ 1000 → k + 2 * rs.length ≤ 10000 → laws_heldPeelStepS.L0 (pre ++ msteps rs k) k pre.length = some (k + 2 * rs.length)
  | [], pre, k, h0, hl, hk => by
    rw [laws_heldPeelStepS.L0_eq, if_neg (by simp [msteps])]
    simp
  | s :: rs, pre, k, h0, hl, hk => by
    have hl' : pre.length + rs.length + 1 ≤ 1000 := by simp at hl; omega
    have hk' : k + 2 * (rs.length + 1 : Int) ≤ 10000 := by simpa using hk
    have hm : msteps (s :: rs) k = ⟨k, k + 1⟩ :: msteps rs (k + 2) := rfl
    rw [laws_heldPeelStepS.L0_eq, hm, if_pos (by simp; omega), if_pos (by omega), rd88, getD_mid, if_pos rfl, w64 (x := k + 1) (by omega) (by omega), if_pos rfl, w64 (x := k + 1 + 1) (by omega) (by omega), wn (by omega)]
    have := heldSt_L rs (pre ++ [⟨k, k + 1⟩]) (k + 2) (by omega) (by simp at hl ⊢; omega) (by omega)
    rw [List.append_assoc, List.singleton_append, List.length_append, List.length_singleton] at this
    rw [show k + 1 + 1 = k + 2 from by omega]
    refine Eq.trans this ?_
    rw [show k + 2 + 2 * (rs.length : Int) = k + 2 * ((s :: rs).length : Int) from by simp; omega]
theorem heldSt_F (l : List S88) (k : Int) (h0 : 0 ≤ k) (hl : l.length ≤ 1000) (hk : k + 2 * l.length ≤ 10000) : laws_heldPeelStepS.F (msteps l k) k = some (k + 2 * l.length) := by
  rw [laws_heldPeelStepS.F_eq]
  exact heldSt_L l [] k h0 (by simpa using hl) hk
theorem eqSt_L (l : List S88) (hl : l.length ≤ 1048576) : ∀ d n : Nat, n + d = l.length → laws_eqPeelStepS.L0 l l n = some true
  | 0, n, h => by rw [laws_eqPeelStepS.L0_eq, if_neg (by omega)]
  | d + 1, n, h => by
    rw [laws_eqPeelStepS.L0_eq, if_pos (by omega), if_pos (by omega), if_pos (by omega)]
    unfold laws_eqPeelStep.f
    rw [if_pos rfl, if_pos rfl, bsome, if_pos rfl, wn (by omega)]
    exact eqSt_L l hl d (n + 1) (by omega)
theorem eqSt_F (l : List S88) (hl : l.length ≤ 1048576) : laws_eqPeelStepS.F l l = some true := by
  rw [laws_eqPeelStepS.F_eq, if_pos rfl]
  exact eqSt_L l hl l.length 0 (by omega)
end Go.Proofs.Ytlcedciocmjggaa.X
namespace Go.Proofs.Ytlcedciocmjggaa.Pure
open Go.RowKit Go.Proofs.Ytlcedciocmjggaa.X Go.Proofs.YtlcedciocmjggaaW.PrintWords Go.Proofs.YtlcedciocmjggaaW.PrintLast
theorem allIn_at {l : List Int} {a b : Int} (h : allIn l a b = true) (n : Nat) (hn : n < l.length) : a ≤ l.getD n 0 ∧ l.getD n 0 ≤ b := by
  unfold allIn at h
  have := List.all_eq_true.1 h _ (getD_mem l 0 n hn)
  simpa using this
theorem peelBy_L {P : Int} {l : List (List Int)} (ho : HyOk P l) (cs : List Int) (hc : cs.length ≤ 40) (hcs : allIn cs 0 99 = true) : ∀ (d n : Nat) (g : List Bool) (S : List S88), n + d = cs.length → g.length = l.length → S.length ≤ n →
    ∃ (S' : List S88) (r : List Int), impl_PeelBy.L0 S g cs cs.length n P l = some (S', r, true) ∧ spec_pePeel.L0 cs false S (lefts g) n P l = some (S', r) ∧ S'.length ≤ 40 ∧ r.length ≤ 40
  | 0, n, g, S, h, hg, hS => by
    have hl := ho.2.1
    have hn := lefts_len g
    refine ⟨S, lefts g, ?_, ?_, by omega, by omega⟩
    · rw [impl_PeelBy.L0_eq, if_neg (by omega), left_F g (by omega), bsome]
    · rw [spec_pePeel.L0_eq, if_neg (by simp), spec_pePeel.J1_eq, if_neg (by simp; omega)]
  | d + 1, n, g, S, h, hg, hS => by
    have hl := ho.2.1
    have hn := lefts_len g
    have hx := allIn_at hcs n (by omega)
    by_cases h0 : ((freeL l P (lefts g)).length : Int) = 0
    · refine ⟨S, lefts g, ?_, ?_, by omega, by omega⟩
      · rw [impl_PeelBy.L0_eq, if_pos (by omega), if_pos (by omega), if_pos (by omega), singles_F g l hg ho, bsome, if_pos h0, left_F g (by omega), bsome]
      · rw [spec_pePeel.L0_eq, if_neg (by simp), spec_pePeel.J1_eq, if_pos (by simp; omega), free_F _ l (by omega) (lefts_fit hg) ho, bsome, if_pos h0]
    · have hm := tmod_nn (a := cs.getD n 0) (b := ((freeL l P (lefts g)).length : Int)) hx.1
      have m0 := Int.emod_nonneg (cs.getD n 0) h0
      have m1 := Int.emod_lt_of_pos (cs.getD n 0) (b := ((freeL l P (lefts g)).length : Int)) (by omega)
      obtain ⟨e, he⟩ : ∃ e, e = Int.tmod (cs.getD n 0) ((freeL l P (lefts g)).length : Int) := ⟨_, rfl⟩
      have he0 : 0 ≤ e ∧ e < ((freeL l P (lefts g)).length : Int) := by rw [he, hm]; exact ⟨m0, m1⟩
      obtain ⟨r, e1, e2, r0, r1, e3, e4⟩ := peel_step ho g hg e.toNat (by omega)
      obtain ⟨S', q, q1, q2, q3⟩ := peelBy_L ho cs hc hcs d (n + 1) (g.set r.toNat true) (S ++ [⟨r, (freeL l P (lefts g)).getD e.toNat 0⟩]) (by omega) (by simpa using hg) (by simp; omega)
      refine ⟨S', q, ?_, ?_, q3⟩
      · rw [impl_PeelBy.L0_eq, if_pos (by omega), if_pos (by omega), if_pos (by omega), singles_F g l hg ho, bsome, if_neg h0, rdn, ← he, if_pos he0.1, if_pos he0.2, show rd (freeL l P (lefts g)) e = (freeL l P (lefts g)).getD e.toNat 0 from rfl, e1, bsome, if_pos r0, if_pos r1, if_pos (by omega), wn (by omega)]
        exact q1
      · rw [spec_pePeel.L0_eq, if_neg (by simp), spec_pePeel.J1_eq, if_pos (by simp; omega), free_F _ l (by omega) (lefts_fit hg) ho, bsome, if_neg h0, if_pos (by omega), if_pos (by omega), rdn, ← he, if_pos he0.1, if_pos he0.2, show rd (freeL l P (lefts g)) e = (freeL l P (lefts g)).getD e.toNat 0 from rfl, e2, bsome, if_pos (by omega), e3, bsome, wn (by omega)]
        exact q2
theorem peelBy_both (a : Int) (l : List (List Int)) (cs : List Int) (ho : SzOk l) (hc : cs.length ≤ 1048576) : ∃ q : List S88 × List Int × Bool, impl_PeelBy.F a l cs = some q ∧ spec_PeelBy.F a l cs = some q ∧ q.1.length ≤ 40 ∧ q.2.1.length ≤ 40 := by
  rw [impl_PeelBy.F_eq, spec_PeelBy.F_eq, hyper_impl a l ho.1, hyper_spec a l ho.1, bsome, bsome]
  by_cases h : hyperB a l = true
  · have hk := hyok h
    have hl := hk.2.1
    rw [h, if_pos rfl, if_pos rfl]
    by_cases h1 : (cs.length : Int) > 40
    · rw [if_pos h1, if_pos h1, impl_PeelBy.J0_eq, if_pos rfl]
      exact ⟨_, rfl, rfl, by simp, by simp⟩
    · rw [if_neg h1, if_neg h1, impl_PeelBy_1_C cs hc, bsome, l1All_F cs 0 99 hc, bsome, impl_PeelBy.J0_eq]
      by_cases h2 : allIn cs 0 99 = true
      · obtain ⟨S, r, r1, r2, r3, r4⟩ := peelBy_L hk cs (by omega) h2 cs.length 0 (List.replicate l.length false) [] (by omega) (by simp) (by simp)
        have r1' : impl_PeelBy.L0 [] (List.replicate l.length false) cs cs.length 0 a l = some (S, r, true) := r1
        have r2' : spec_pePeel.L0 cs false [] (lefts (List.replicate l.length false)) 0 a l = some (S, r) := r2
        rw [h2, if_neg (by simp), none_f a l (by omega), bsome, r1', if_pos rfl, spec_pePeel.F_eq, all_F a l (by omega), bsome, r2', bsome]
        exact ⟨_, rfl, rfl, r3, r4⟩
      · rw [if_neg h2, if_pos (by simpa using h2)]
        exact ⟨_, rfl, rfl, by simp, by simp⟩
  · rw [if_neg h, if_neg h, impl_PeelBy.J0_eq, if_pos rfl]
    exact ⟨_, rfl, rfl, by simp, by simp⟩
theorem FnExactPeelBy : X.laws_FnExactPeelBy.Pure := by
  intro a l cs w0 w1 w2
  refine Sup.rounds (laws_FnExactPeelBy.F_sup a l cs) ?_
  rw [laws_FnExactPeelBy.F_eq]
  by_cases hc : (cs.length : Int) > 1048576
  · rw [if_pos hc]
  · rw [if_neg hc]
    rcases sz_hyper a l w1 with h | ⟨r, h, h1, h2, ho⟩
    · rw [h, bsome]; rfl
    · obtain ⟨q, hq1, hq2, hq3, hq4⟩ := peelBy_both a l cs ho (by omega)
      have ht := ho.2.2
      rw [h, bsome, if_neg (by omega)]
      simp only [toHyper_F a l ho, toIntS_F cs (by omega), bsome, hq1, hq2, eqSt_F q.1 (by omega), eqIntS_F q.2.1 (by omega), eqIntS_F cs (by omega), if_true, bne_self_eq_false, Bool.false_eq_true, if_false, eqHyper_F a l ho.1 ho.2.1, markHyper_F a l ho, mark_F cs (1 + (tot l : Int)) (by omega) (by omega), show ¬ (1 + (tot l : Int) + (cs.length : Int) < 0) from by omega, markSt_F q.1 1 (by omega) (by omega) (by omega), heldSt_F q.1 1 (by omega) (by omega) (by omega), show ¬ (1 + 2 * (q.1.length : Int) < 0) from by omega, mark_F q.2.1 (1 + 2 * (q.1.length : Int)) (by omega) (by omega), held_F q.2.1.length (1 + 2 * (q.1.length : Int)) (by omega) (by omega), show ¬ (1 + 2 * (q.1.length : Int) + (q.2.1.length : Int) < 0) from by omega]
end Go.Proofs.Ytlcedciocmjggaa.Pure
