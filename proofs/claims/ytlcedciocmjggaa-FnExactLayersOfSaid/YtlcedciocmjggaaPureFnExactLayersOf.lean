/- The plain part of the law FnExactLayersOf: the program's and the reference's answers are the same, the argument stays, and the answer's lists are its own, for all arguments. WITH: HasF Contains Peels -/
import Derived.Test.YtlcedciocmjggaaXg100a
import Derived.Test.YtlcedciocmjggaaXg100b
import Derived.Test.YtlcedciocmjggaaXg3c04a
import Derived.Test.YtlcedciocmjggaaXg3e04a
import Derived.Test.YtlcedciocmjggaaXg3e0ea
import Derived.Test.YtlcedciocmjggaaXg3f04a
import Derived.Test.YtlcedciocmjggaaXg3f0ea
import Derived.Test.YtlcedciocmjggaaXpBase
import Derived.Test.YtlcedciocmjggaaXpDegrees
import Derived.Test.YtlcedciocmjggaaXpHyper
import Derived.Test.YtlcedciocmjggaaXpHyperMarks
import Derived.Test.YtlcedciocmjggaaXpRowEq
import Derived.Test.YtlcedciocmjggaaXpRowMarks
import Derived.Test.YtlcedciocmjggaaXx0
namespace Go.Proofs.Ytlcedciocmjggaa.X
open Go.RowKit Go.Proofs.YtlcedciocmjggaaW.PrintWords Go.Proofs.YtlcedciocmjggaaW.PrintLast
set_option linter.unusedVariables false
set_option linter.unusedSimpArgs false
theorem hasF_drop (l : List Int) (v : Int) (n : Nat) (h : n < l.length) : (v ∈ l.drop n) ↔ (v = l.getD n 0 ∨ v ∈ l.drop (n + 1)) := by
  rw [List.drop_eq_getElem_cons h, List.mem_cons, List.getD_eq_getElem?_getD, List.getElem?_eq_getElem h]; rfl
theorem has_FL (l : List Int) (v : Int) (hl : l.length ≤ 1048576) : ∀ d n : Nat, n + d = l.length → spec_l1Has.L0 v l l.length n = some (decide (v ∈ l.drop n))
  | 0, n, h => by
    rw [spec_l1Has.L0_eq, if_neg (by omega), List.drop_eq_nil_of_le (by omega)]; simp
  | d + 1, n, h => by
    rw [spec_l1Has.L0_eq, if_pos (by omega), if_pos (by omega), if_pos (by omega), rdn]
    have hd := hasF_drop l v n (by omega)
    by_cases h1 : l.getD n 0 = v
    · rw [if_pos h1, decide_eq_true (hd.2 (Or.inl h1.symm))]
    · rw [if_neg h1, wn (by omega), has_FL l v hl d (n + 1) (by omega)]
      congr 1
      rw [decide_eq_decide, hd]
      exact ⟨Or.inr, fun h2 => h2.elim (fun h3 => absurd h3.symm h1) id⟩
theorem has_F (l : List Int) (v : Int) (hl : l.length ≤ 1048576) : spec_l1Has.F l v = some (decide (v ∈ l)) := by
  rw [spec_l1Has.F_eq]
  have := has_FL l v hl l.length 0 (by omega)
  rw [List.drop_zero] at this
  exact this
theorem mem_drop_step (l : List Int) (v : Int) (n : Nat) (h : n < l.length) : (v ∈ l.drop n) ↔ (v = l.getD n 0 ∨ v ∈ l.drop (n + 1)) := by
  rw [List.drop_eq_getElem_cons h, List.mem_cons, List.getD_eq_getElem?_getD, List.getElem?_eq_getElem h]
  rfl
theorem index_L (l : List Int) (v : Int) (hl : l.length ≤ 1048576) : ∀ d n : Nat, n + d = l.length → ∃ j : Int, slices_Index_int_int.L0 l v l.length n = some j ∧ decide (j ≥ 0) = decide (v ∈ l.drop n)
  | 0, n, h => by
    rw [slices_Index_int_int.L0_eq, if_neg (by omega), List.drop_eq_nil_of_le (by omega)]
    exact ⟨-1, rfl, by simp⟩
  | d + 1, n, h => by
    have e2 : slices_Index_int_int.L0 l v l.length n = if v = l.getD n 0 then some (n : Int) else slices_Index_int_int.L0 l v l.length ((n + 1 : Nat) : Int) := by
      rw [slices_Index_int_int.L0_eq, if_pos (by omega), if_pos (by omega), if_pos (by omega), rdn, wn (by omega)]
    have hm := mem_drop_step l v n (by omega)
    rw [e2]
    by_cases hq : v = l.getD n 0
    · rw [if_pos hq]
      exact ⟨n, rfl, by rw [decide_eq_true (hm.mpr (.inl hq)), decide_eq_true (by omega)]⟩
    · rw [if_neg hq]
      obtain ⟨j, h1, h2⟩ := index_L l v hl d (n + 1) (by omega)
      refine ⟨j, h1, h2.trans ?_⟩
      rw [decide_eq_decide, hm]
      exact ⟨.inr, fun x => x.resolve_left hq⟩
theorem contains_F (l : List Int) (v : Int) (hl : l.length ≤ 1048576) : slices_Contains_int_int.F l v = some (decide (v ∈ l)) := by
  obtain ⟨j, h1, h2⟩ := index_L l v hl l.length 0 (by omega)
  rw [show ((0 : Nat) : Int) = 0 from rfl] at h1
  rw [slices_Contains_int_int.F_eq, slices_Index_int_int.F_eq, h1, bsome, h2]
  rfl
def frees (D : List Int) : Nat → Nat → List Int
  | 0, _ => []
  | d + 1, n => if D.getD n 0 = 1 then (n : Int) :: frees D d (n + 1) else frees D d (n + 1)
theorem frees_succ (D : List Int) (d n : Nat) : frees D (d + 1) n = if D.getD n 0 = 1 then (n : Int) :: frees D d (n + 1) else frees D d (n + 1) := rfl
theorem mem_frees (D : List Int) (x : Int) : ∀ d n, x ∈ frees D d n ↔ ∃ q : Nat, x = q ∧ n ≤ q ∧ q < n + d ∧ D.getD q 0 = 1
  | 0, n => by
    constructor
    · intro h; cases h
    · rintro ⟨q, _, h1, h2, _⟩; omega
  | d + 1, n => by
    rw [frees_succ]
    by_cases h : D.getD n 0 = 1
    · rw [if_pos h, List.mem_cons, mem_frees D x d (n + 1)]
      constructor
      · rintro (rfl | ⟨q, h1, h2, h3, h4⟩)
        · exact ⟨n, rfl, by omega, by omega, h⟩
        · exact ⟨q, h1, by omega, by omega, h4⟩
      · rintro ⟨q, h1, h2, h3, h4⟩
        rcases Nat.lt_or_ge n q with h5 | h5
        · exact Or.inr ⟨q, h1, by omega, by omega, h4⟩
        · left; omega
    · rw [if_neg h, mem_frees D x d (n + 1)]
      constructor
      · rintro ⟨q, h1, h2, h3, h4⟩; exact ⟨q, h1, by omega, by omega, h4⟩
      · rintro ⟨q, h1, h2, h3, h4⟩
        refine ⟨q, h1, ?_, by omega, h4⟩
        rcases Nat.lt_or_ge n q with h5 | h5
        · omega
        · obtain rfl : q = n := by omega
          exact absurd h4 h
theorem frees_len (D : List Int) : ∀ d n, (frees D d n).length ≤ d
  | 0, n => by simp [frees]
  | d + 1, n => by
    rw [frees_succ]
    have := frees_len D d (n + 1)
    split
    · simp only [List.length_cons]; omega
    · omega
def freeL (l : List (List Int)) (P : Int) (is : List Int) : List Int := frees (degs l P is) P.toNat 0
theorem singles_L (D : List Int) (hD : D.length ≤ 1000) : ∀ (d n : Nat) (acc : List Int), n + d = D.length → acc.length ≤ n → impl_Hyper_singles.L0 acc D D.length n = some (acc ++ frees D d n)
  | 0, n, acc, h, ha => by rw [impl_Hyper_singles.L0_eq, if_neg (by omega)]; simp [frees]
  | d + 1, n, acc, h, ha => by
    rw [impl_Hyper_singles.L0_eq, if_pos (by omega), if_pos (by omega), if_pos (by omega), rdn, frees_succ]
    by_cases h1 : D.getD n 0 = 1
    · rw [if_pos h1, if_pos h1, if_pos (by omega), wn (by omega), singles_L D hD d (n + 1) _ (by omega) (by simp; omega), List.append_assoc]
      rfl
    · rw [if_neg h1, if_neg h1, wn (by omega), singles_L D hD d (n + 1) _ (by omega) (by omega)]
theorem peFree_L (D : List Int) (hD : D.length ≤ 1000) : ∀ (d n : Nat) (acc : List Int), n + d = D.length → acc.length ≤ n → spec_peFree.L0 acc D D.length n = some (acc ++ frees D d n)
  | 0, n, acc, h, ha => by rw [spec_peFree.L0_eq, if_neg (by omega)]; simp [frees]
  | d + 1, n, acc, h, ha => by
    rw [spec_peFree.L0_eq, if_pos (by omega), if_pos (by omega), if_pos (by omega), rdn, frees_succ]
    by_cases h1 : D.getD n 0 = 1
    · rw [if_pos h1, if_pos h1, if_pos (by omega), wn (by omega), peFree_L D hD d (n + 1) _ (by omega) (by simp; omega), List.append_assoc]
      rfl
    · rw [if_neg h1, if_neg h1, wn (by omega), peFree_L D hD d (n + 1) _ (by omega) (by omega)]
theorem degs_len {P : Int} {l : List (List Int)} (ho : HyOk P l) (is : List Int) (his : ∀ j ∈ is, 0 ≤ j ∧ j < l.length) : (degs l P is).length = P.toNat := by
  have := (degs_bd ho is his).1
  omega
theorem singles_F {P : Int} (g : List Bool) (l : List (List Int)) (hg : g.length = l.length) (ho : HyOk P l) : impl_Hyper_singles.F P l g = some (freeL l P (lefts g)) := by
  have h1 := ho.1
  have hl := degs_len ho (lefts g) (lefts_fit hg)
  rw [impl_Hyper_singles.F_eq, deg_impl g l hg ho, bsome]
  have := singles_L (degs l P (lefts g)) (by omega) P.toNat 0 [] (by omega) (by simp)
  exact this
theorem free_F {P : Int} (is : List Int) (l : List (List Int)) (hi : is.length ≤ 1000) (his : ∀ j ∈ is, 0 ≤ j ∧ j < l.length) (ho : HyOk P l) : spec_peFree.F P l is = some (freeL l P is) := by
  have h1 := ho.1
  have hl := degs_len ho is his
  rw [spec_peFree.F_eq, deg_spec is l hi his ho, bsome]
  have := peFree_L (degs l P is) (by omega) P.toNat 0 [] (by omega) (by simp)
  exact this
theorem left_L (g : List Bool) (hg : g.length ≤ 1048576) : ∀ (d n : Nat) (acc : List Int), n + d = g.length → acc.length ≤ n → impl_left.L0 acc g g.length n = some (acc ++ idxs g d n)
  | 0, n, acc, h, ha => by rw [impl_left.L0_eq, if_neg (by omega)]; simp [idxs]
  | d + 1, n, acc, h, ha => by
    rw [impl_left.L0_eq, if_pos (by omega), if_pos (by omega), if_pos (by omega), rdOfn, idxs_succ]
    by_cases h1 : g.getD n false = true
    · rw [if_pos h1, if_pos h1, wn (by omega), left_L g hg d (n + 1) _ (by omega) (by omega)]
    · rw [if_neg h1, if_neg h1, if_pos (by omega), wn (by omega), left_L g hg d (n + 1) _ (by omega) (by simp; omega), List.append_assoc]
      rfl
theorem left_F (g : List Bool) (hg : g.length ≤ 1048576) : impl_left.F g = some (lefts g) := by
  rw [impl_left.F_eq]
  have := left_L g hg g.length 0 [] (by omega) (by simp)
  exact this
theorem drop_L (l : List Int) (a : Int) (hl : l.length ≤ 1048576) : ∀ (d n : Nat) (acc : List Int), n + d = l.length → acc.length ≤ n → spec_l1Drop.L0 a acc l l.length n = some (acc ++ (l.drop n).filter (fun x => decide (x ≠ a)))
  | 0, n, acc, h, ha => by rw [spec_l1Drop.L0_eq, if_neg (by omega), List.drop_eq_nil_of_le (by omega)]; simp
  | d + 1, n, acc, h, ha => by
    rw [spec_l1Drop.L0_eq, if_pos (by omega), if_pos (by omega), if_pos (by omega), rdn, drop_getD l 0 n (by omega), List.filter_cons]
    by_cases h1 : l.getD n 0 = a
    · rw [if_pos h1, wn (by omega), drop_L l a hl d (n + 1) _ (by omega) (by omega), if_neg (by simpa using h1)]
    · rw [if_neg h1, if_pos (by omega), wn (by omega), drop_L l a hl d (n + 1) _ (by omega) (by simp; omega), if_pos (by simpa using h1), List.append_assoc]
      rfl
theorem drop_F (l : List Int) (a : Int) (hl : l.length ≤ 1048576) : spec_l1Drop.F l a = some (l.filter (fun x => decide (x ≠ a))) := by
  rw [spec_l1Drop.F_eq]
  have := drop_L l a hl l.length 0 [] (by omega) (by simp)
  rw [List.drop_zero] at this
  exact this
theorem idxs_set (g : List Bool) (r : Nat) (hr : r < g.length) : ∀ d n, idxs (g.set r true) d n = (idxs g d n).filter (fun x => decide (x ≠ (r : Int)))
  | 0, n => rfl
  | d + 1, n => by
    rw [idxs_succ, idxs_succ, idxs_set g r hr d (n + 1)]
    by_cases h : r = n
    · subst h
      rw [getD_set_self _ _ _ _ hr, if_pos rfl]
      split
      · rfl
      · rw [List.filter_cons, if_neg (by simp)]
    · rw [getD_set_ne _ _ _ _ _ h]
      split
      · rfl
      · rw [List.filter_cons, if_pos (by simp; omega)]
theorem lefts_set (g : List Bool) (r : Int) (h0 : 0 ≤ r) (hr : r < g.length) : lefts (g.set r.toNat true) = (lefts g).filter (fun x => decide (x ≠ r)) := by
  unfold lefts
  rw [List.length_set, idxs_set g r.toNat (by omega)]
  rw [show ((r.toNat : Nat) : Int) = r from by omega]
theorem filter_less (l : List Int) (r : Int) (h : r ∈ l) : (l.filter (fun x => decide (x ≠ r))).length < l.length := by
  rw [List.length_filter_lt_length_iff_exists]
  exact ⟨r, h, by simp⟩
def hasP (l : List (List Int)) (p : Int) (i : Int) : Bool := decide (p ∈ l.getD i.toNat [])
theorem with_L {P : Int} (p : Int) (is : List Int) (l : List (List Int)) (Q : Int) (hi : is.length ≤ 1000) (his : ∀ j ∈ is, 0 ≤ j ∧ j < l.length) (ho : HyOk P l) : ∀ d n : Nat, n + d = is.length → spec_peWith.L0 p is is.length n Q l = some (((is.drop n).find? (hasP l p)).getD (-1))
  | 0, n, h => by rw [spec_peWith.L0_eq, if_neg (by omega), List.drop_eq_nil_of_le (by omega)]; rfl
  | d + 1, n, h => by
    have hj := his _ (getD_mem is 0 n (by omega))
    have h3 := (ho.edge (is.getD n 0).toNat (by omega)).1
    rw [spec_peWith.L0_eq, if_pos (by omega), if_pos (by omega), if_pos (by omega), rdn, if_pos hj.1, if_pos hj.2, show rd_L1 l (is.getD n 0) = l.getD (is.getD n 0).toNat [] from rfl, has_F _ _ (by omega), bsome, drop_getD is 0 n (by omega), List.find?_cons, wn (by omega), with_L p is l Q hi his ho d (n + 1) (by omega)]
    show _ = some (Option.getD (match hasP l p (is.getD n 0) with | true => _ | false => _) _)
    unfold hasP
    by_cases h1 : p ∈ l.getD (is.getD n 0).toNat []
    · rw [if_pos (by simpa using h1), decide_eq_true h1]; rfl
    · rw [if_neg (by simpa using h1), decide_eq_false h1]
theorem with_F {P : Int} (p : Int) (is : List Int) (l : List (List Int)) (hi : is.length ≤ 1000) (his : ∀ j ∈ is, 0 ≤ j ∧ j < l.length) (ho : HyOk P l) : spec_peWith.F P l is p = some ((is.find? (hasP l p)).getD (-1)) := by
  rw [spec_peWith.F_eq]
  have := with_L p is l P hi his ho is.length 0 (by omega)
  rw [List.drop_zero] at this
  exact this
theorem edgeAt_L {P : Int} (p : Int) (g : List Bool) (l : List (List Int)) (Q : Int) (hg : g.length = l.length) (ho : HyOk P l) (r : Int) : ∀ d n : Nat, n + d = g.length → (idxs g d n).find? (hasP l p) = some r → impl_Hyper_edgeAt.L0 g p n Q l = some r
  | 0, n, h, hf => by cases hf
  | d + 1, n, h, hf => by
    have hl := ho.2.1
    have h3 := (ho.edge n (by omega)).1
    rw [impl_Hyper_edgeAt.L0_eq, if_pos (by omega), if_pos (by omega), rdOfn]
    rw [idxs_succ] at hf
    by_cases h1 : g.getD n false = true
    · rw [if_pos h1] at hf ⊢
      rw [wn (by omega)]
      exact edgeAt_L p g l Q hg ho r d (n + 1) (by omega) hf
    · rw [if_neg h1] at hf ⊢
      rw [if_pos (by omega), rdr, contains_F _ _ (by omega), bsome]
      rw [List.find?_cons] at hf
      unfold hasP at hf
      rw [Int.toNat_natCast] at hf
      by_cases h2 : p ∈ l.getD n []
      · rw [if_pos (by simpa using h2)]
        rw [decide_eq_true h2] at hf
        exact hf
      · rw [if_neg (by simpa using h2), wn (by omega)]
        rw [decide_eq_false h2] at hf
        exact edgeAt_L p g l Q hg ho r d (n + 1) (by omega) hf
theorem edgeAt_F {P : Int} (p : Int) (g : List Bool) (l : List (List Int)) (hg : g.length = l.length) (ho : HyOk P l) (r : Int) (hf : (lefts g).find? (hasP l p) = some r) : impl_Hyper_edgeAt.F P l g p = some r := by
  rw [impl_Hyper_edgeAt.F_eq]
  exact edgeAt_L p g l P hg ho r g.length 0 (by omega) hf
/-- How often a place is counted. -/
def cnt (l : List (List Int)) (q : Nat) (is : List Int) : Nat := (is.map fun i => (l.getD i.toNat []).count (q : Int)).sum
theorem bumps_getD (q : Nat) : ∀ (e D : List Int), (∀ p ∈ e, 0 ≤ p ∧ p < (D.length : Int)) → (bumps D e).getD q 0 = D.getD q 0 + (e.count (q : Int) : Int)
  | [], D, _ => by simp [bumps]
  | p :: e, D, h => by
    have h1 := h p (List.mem_cons_self)
    have e2 : bumps D (p :: e) = bumps (bump D p) e := rfl
    have hl : (bump D p).length = D.length := by unfold bump; rw [List.length_set]
    rw [e2, bumps_getD q e (bump D p) (fun x hx => by rw [hl]; exact h x (List.mem_cons_of_mem _ hx)), bump_getD D p q h1.1 h1.2, List.count_cons]
    by_cases hp : p = (q : Int)
    · rw [if_pos hp, if_pos (by simpa using hp)]; omega
    · rw [if_neg hp, if_neg (by simpa using hp)]; omega
theorem degL_getD {P : Int} {l : List (List Int)} (ho : HyOk P l) (q : Nat) : ∀ (is D : List Int), (D.length : Int) = P → (∀ j ∈ is, 0 ≤ j ∧ j < l.length) → (degL l D is).getD q 0 = D.getD q 0 + (cnt l q is : Int)
  | [], D, _, _ => by simp [degL, cnt]
  | j :: is, D, hD, h => by
    have h1 := h j (List.mem_cons_self)
    have h2 := (ho.edge j.toNat (by omega)).2
    have e2 : degL l D (j :: is) = degL l (bumps D (l.getD j.toNat [])) is := rfl
    have hb : ∀ (e D : List Int), (bumps D e).length = D.length := by
      intro e
      induction e with
      | nil => intro D; rfl
      | cons a e ih => intro D; rw [show bumps D (a :: e) = bumps (bump D a) e from rfl, ih]; unfold bump; rw [List.length_set]
    rw [e2, degL_getD ho q is _ (by rw [hb]; exact hD) (fun x hx => h x (List.mem_cons_of_mem _ hx)), bumps_getD q _ D (by rw [hD]; exact h2)]
    unfold cnt
    simp only [List.map_cons, List.sum_cons]
    omega
theorem degs_getD {P : Int} {l : List (List Int)} (ho : HyOk P l) (is : List Int) (his : ∀ j ∈ is, 0 ≤ j ∧ j < l.length) (q : Nat) : (degs l P is).getD q 0 = (cnt l q is : Int) := by
  have h1 := ho.1
  unfold degs
  rw [degL_getD ho q is _ (by rw [List.length_replicate]; omega) his, List.getD_eq_getElem?_getD, List.getElem?_replicate]
  split <;> simp
theorem cnt_pos (l : List (List Int)) (q : Nat) : ∀ is : List Int, 0 < cnt l q is → ∃ i ∈ is, (q : Int) ∈ l.getD i.toNat []
  | [], h => by simp [cnt] at h
  | j :: is, h => by
    unfold cnt at h
    simp only [List.map_cons, List.sum_cons] at h
    by_cases h1 : (q : Int) ∈ l.getD j.toNat []
    · exact ⟨j, List.mem_cons_self, h1⟩
    · rw [List.count_eq_zero.2 h1, Nat.zero_add] at h
      obtain ⟨i, hi, hq⟩ := cnt_pos l q is h
      exact ⟨i, List.mem_cons_of_mem _ hi, hq⟩
theorem free_mem {P : Int} {l : List (List Int)} (ho : HyOk P l) (is : List Int) (his : ∀ j ∈ is, 0 ≤ j ∧ j < l.length) {p : Int} (h : p ∈ freeL l P is) : 0 ≤ p ∧ p < P ∧ cnt l p.toNat is = 1 ∧ ∃ r, is.find? (hasP l p) = some r ∧ r ∈ is := by
  have h1 := ho.1
  obtain ⟨q, rfl, _, h2, h3⟩ := (mem_frees _ p _ _).1 h
  rw [degs_getD ho is his q] at h3
  obtain ⟨i, hi, hq⟩ := cnt_pos l q is (by omega)
  refine ⟨by omega, by omega, by rw [Int.toNat_natCast]; omega, ?_⟩
  have hs : ∃ x ∈ is, hasP l (q : Int) x = true := ⟨i, hi, by unfold hasP; simpa using hq⟩
  have := List.find?_isSome.2 hs
  obtain ⟨r, hr⟩ := Option.isSome_iff_exists.1 this
  exact ⟨r, hr, List.mem_of_find?_eq_some hr⟩
theorem freeL_len {P : Int} {l : List (List Int)} (is : List Int) : (freeL l P is).length ≤ P.toNat := frees_len _ _ _
end Go.Proofs.Ytlcedciocmjggaa.X
namespace Go.Proofs.Ytlcedciocmjggaa.Pure
open Go.RowKit Go.Proofs.Ytlcedciocmjggaa.X Go.Proofs.YtlcedciocmjggaaW.PrintWords Go.Proofs.YtlcedciocmjggaaW.PrintLast
def hitB (D e : List Int) : Bool := e.any fun p => rd D p == 1
def hitI (l : List (List Int)) (D : List Int) (i : Int) : Bool := hitB D (l.getD i.toNat [])
theorem hitB_cons (D : List Int) (p : Int) (e : List Int) : hitB D (p :: e) = ((rd D p == 1) || hitB D e) := rfl
theorem indexF_L (D e : List Int) (he : ∀ p ∈ e, 0 ≤ p ∧ p < (D.length : Int)) (hl : e.length ≤ 1000) : ∀ d n : Nat, n + d = e.length → ∃ j : Int, slices_IndexFunc_int_int_at_impl_LayersOf_1.L0 e e.length n D = some j ∧ decide (j ≥ 0) = hitB D (e.drop n)
  | 0, n, h => by
    rw [slices_IndexFunc_int_int_at_impl_LayersOf_1.L0_eq, if_neg (by omega), List.drop_eq_nil_of_le (by omega)]
    exact ⟨_, rfl, rfl⟩
  | d + 1, n, h => by
    have hm := he _ (getD_mem e 0 n (by omega))
    obtain ⟨j, j1, j2⟩ := indexF_L D e he hl d (n + 1) (by omega)
    rw [slices_IndexFunc_int_int_at_impl_LayersOf_1.L0_eq, if_pos (by omega), if_pos (by omega), if_pos (by omega), rdn]
    unfold impl_LayersOf_1.f
    rw [if_pos hm.1, if_pos hm.2, bsome, wn (by omega), j1, drop_getD e 0 n (by omega), hitB_cons]
    cases hb : (rd D (e.getD n 0) == 1) with
    | true => rw [if_pos rfl]; exact ⟨_, rfl, by rw [Bool.true_or]; exact decide_eq_true (by omega)⟩
    | false => rw [if_neg (by simp)]; exact ⟨_, rfl, by rw [Bool.false_or]; exact j2⟩
theorem containsF (D e : List Int) (he : ∀ p ∈ e, 0 ≤ p ∧ p < (D.length : Int)) (hl : e.length ≤ 1000) : slices_ContainsFunc_int_int_at_impl_LayersOf_1.F e D = some (hitB D e) := by
  obtain ⟨j, j1, j2⟩ := indexF_L D e he hl e.length 0 (by omega)
  have j1' : slices_IndexFunc_int_int_at_impl_LayersOf_1.L0 e e.length 0 D = some j := j1
  rw [slices_ContainsFunc_int_int_at_impl_LayersOf_1.F_eq, slices_IndexFunc_int_int_at_impl_LayersOf_1.F_eq, j1', bsome, j2, List.drop_zero]
theorem meet_L (fr e : List Int) (hf : fr.length ≤ 1048576) (hl : e.length ≤ 1000) : ∀ d n : Nat, n + d = e.length → spec_peMeet.L0 fr e e.length n = some ((e.drop n).any fun p => decide (p ∈ fr))
  | 0, n, h => by rw [spec_peMeet.L0_eq, if_neg (by omega), List.drop_eq_nil_of_le (by omega)]; rfl
  | d + 1, n, h => by
    rw [spec_peMeet.L0_eq, if_pos (by omega), if_pos (by omega), if_pos (by omega), rdn, has_F _ _ hf, bsome, wn (by omega), meet_L fr e hf hl d (n + 1) (by omega), drop_getD e 0 n (by omega), List.any_cons]
    cases hb : decide (e.getD n 0 ∈ fr) with
    | true => rw [if_pos rfl, Bool.true_or]
    | false => rw [if_neg (by simp), Bool.false_or]
theorem any_same {α : Type} (f g : α → Bool) : ∀ e : List α, (∀ x ∈ e, f x = g x) → e.any f = e.any g
  | [], _ => rfl
  | x :: e, h => by rw [List.any_cons, List.any_cons, h x (List.mem_cons_self ..), any_same f g e (fun y hy => h y (List.mem_cons_of_mem _ hy))]
theorem meetF (D e : List Int) (m : Nat) (hm : D.length = m) (hs : m ≤ 1000) (he : ∀ p ∈ e, 0 ≤ p ∧ p < (m : Int)) (hl : e.length ≤ 1000) : spec_peMeet.F e (frees D m 0) = some (hitB D e) := by
  have hf := frees_len D m 0
  have h0 := meet_L (frees D m 0) e (by omega) hl e.length 0 (by omega)
  have h0' : spec_peMeet.L0 (frees D m 0) e e.length 0 = some ((e.drop 0).any fun p => decide (p ∈ frees D m 0)) := h0
  rw [spec_peMeet.F_eq, h0', List.drop_zero]
  congr 1
  refine any_same _ _ e fun p hp => ?_
  obtain ⟨q, rfl⟩ := Int.eq_ofNat_of_zero_le (he p hp).1
  have h2 := (he _ hp).2
  rw [rdn]
  by_cases h3 : D.getD q 0 = 1
  · rw [h3, decide_eq_true ((mem_frees D _ m 0).2 ⟨q, rfl, by omega, by omega, h3⟩)]; rfl
  · rw [beq_eq_false_iff_ne.2 h3, decide_eq_false]
    intro h4
    obtain ⟨q', e1, _, _, e2⟩ := (mem_frees D _ m 0).1 h4
    have : q = q' := by omega
    subst this
    exact h3 e2
theorem imp_L1 (P : Int) (l : List (List Int)) (g : List Bool) (D : List Int) (x4 : List (List Int)) (hg : g.length = l.length) (hl : l.length ≤ 40) (he : ∀ i, i < l.length → (l.getD i []).length ≤ 1000 ∧ ∀ p ∈ l.getD i [], 0 ≤ p ∧ p < (D.length : Int)) :
    ∀ (d n : Nat) (acc : List Int), n + d = l.length → acc.length ≤ n → impl_LayersOf.L1 x4 g acc l l.length n P l D = impl_LayersOf.L1 x4 g (acc ++ (idxs g d n).filter (hitI l D)) l l.length l.length P l D
  | 0, n, acc, h, ha => by
    have : n = l.length := by omega
    subst this
    rw [show idxs g 0 l.length = [] from rfl, List.filter_nil, List.append_nil]
  | d + 1, n, acc, h, ha => by
    have hn := he n (by omega)
    rw [impl_LayersOf.L1_eq, if_pos (by omega), if_pos (by omega), if_pos (by omega), if_pos (by omega), rdOfn, idxs_succ, wn (by omega)]
    by_cases h1 : g.getD n false = true
    · rw [if_pos h1, if_pos h1, imp_L1 P l g D x4 hg hl he d (n + 1) acc (by omega) (by omega)]
    · rw [if_neg h1, if_neg h1, rdr, containsF D _ hn.2 hn.1, bsome]
      have e0 : hitI l D (n : Int) = hitB D (l.getD n []) := rfl
      cases hb : hitB D (l.getD n []) with
      | true => rw [if_pos rfl, if_pos (by omega), imp_L1 P l g D x4 hg hl he d (n + 1) (acc ++ [(n : Int)]) (by omega) (by simp; omega), List.filter_cons_of_pos (by rw [e0, hb]), List.append_assoc]; rfl
      | false => rw [if_neg (by simp), imp_L1 P l g D x4 hg hl he d (n + 1) acc (by omega) (by omega), List.filter_cons_of_neg (by rw [e0, hb]; simp)]
theorem spc_L1 (Q : Int) (m : Nat) (l : List (List Int)) (D : List Int) (x4 : List (List Int)) (es : List Int) (hes : es.length ≤ 1000) (hm : D.length = m) (hs : m ≤ 1000) (hi : ∀ j ∈ es, 0 ≤ j ∧ j < (l.length : Int)) (he : ∀ i, i < l.length → (l.getD i []).length ≤ 1000 ∧ ∀ p ∈ l.getD i [], 0 ≤ p ∧ p < (m : Int)) :
    ∀ (d n : Nat) (a b : List Int), n + d = es.length → a.length ≤ n → b.length ≤ n → spec_LayersOf.L1 x4 (frees D m 0) a b es es.length n Q l = spec_LayersOf.L1 x4 (frees D m 0) (a ++ (es.drop n).filter (hitI l D)) (b ++ (es.drop n).filter (fun i => !hitI l D i)) es es.length es.length Q l
  | 0, n, a, b, h, ha, hb => by
    have : n = es.length := by omega
    subst this
    rw [List.drop_length, List.filter_nil, List.filter_nil, List.append_nil, List.append_nil]
  | d + 1, n, a, b, h, ha, hb => by
    have hj := hi _ (getD_mem es 0 n (by omega))
    rw [spec_LayersOf.L1_eq, if_pos (by omega), if_pos (by omega), if_pos (by omega), rdn, if_pos hj.1, if_pos hj.2, wn (by omega), drop_getD es 0 n (by omega)]
    obtain ⟨q, hq⟩ := Int.eq_ofNat_of_zero_le hj.1
    have hn := he q (by omega)
    have e0 : hitI l D (es.getD n 0) = hitB D (l.getD q []) := by rw [hq]; rfl
    rw [hq, rdr, meetF D _ m hm hs hn.2 hn.1, bsome, ← hq]
    cases hb0 : hitB D (l.getD q []) with
    | true => rw [if_pos rfl, if_pos (by omega), spc_L1 Q m l D x4 es hes hm hs hi he d (n + 1) _ b (by omega) (by simp; omega) (by omega), List.filter_cons_of_pos (by rw [e0, hb0]), List.filter_cons_of_neg (by rw [e0, hb0]; simp), List.append_assoc]; rfl
    | false => rw [if_neg (by simp), if_pos (by omega), spc_L1 Q m l D x4 es hes hm hs hi he d (n + 1) a _ (by omega) (by omega) (by simp; omega), List.filter_cons_of_neg (by rw [e0, hb0]; simp), List.filter_cons_of_pos (by rw [e0, hb0]; rfl), List.append_assoc]; rfl
def setAll (g : List Bool) (ks : List Int) : List Bool := ks.foldl (fun g k => g.set k.toNat true) g
theorem setAll_len : ∀ (ks : List Int) (g : List Bool), (setAll g ks).length = g.length
  | [], g => rfl
  | k :: ks, g => by
    show (setAll (g.set k.toNat true) ks).length = _
    rw [setAll_len ks, List.length_set]
theorem setAll_lefts : ∀ (ks : List Int) (g : List Bool), (∀ k ∈ ks, 0 ≤ k ∧ k < (g.length : Int)) → lefts (setAll g ks) = (lefts g).filter (fun x => decide (x ∉ ks))
  | [], g, h => by
    show lefts g = _
    rw [List.filter_eq_self.2 (fun x _ => by simp)]
  | k :: ks, g, h => by
    have hk := h k (List.mem_cons_self ..)
    show lefts (setAll (g.set k.toNat true) ks) = _
    rw [setAll_lefts ks _ (fun x hx => by rw [List.length_set]; exact h x (List.mem_cons_of_mem _ hx)), lefts_set g k hk.1 hk.2, List.filter_filter]
    congr 1
    funext x
    by_cases h1 : x = k <;> by_cases h2 : x ∈ ks <;> simp [h1, h2]
theorem imp_L2 (P : Int) (l : List (List Int)) (x4 : List (List Int)) (ks : List Int) (hk : ks.length ≤ 1000) : ∀ (d n : Nat) (g : List Bool), n + d = ks.length → (∀ k ∈ ks, 0 ≤ k ∧ k < (g.length : Int)) → impl_LayersOf.L2 x4 g ks ks ks.length n P l = impl_LayersOf.L2 x4 (setAll g (ks.drop n)) ks ks ks.length ks.length P l
  | 0, n, g, h, hg => by
    have : n = ks.length := by omega
    subst this
    rw [List.drop_length]; rfl
  | d + 1, n, g, h, hg => by
    have hj := hg _ (getD_mem ks 0 n (by omega))
    rw [impl_LayersOf.L2_eq, if_pos (by omega), if_pos (by omega), if_pos (by omega), rdn, if_pos hj.1, if_pos hj.2, wn (by omega), drop_getD ks 0 n (by omega), imp_L2 P l x4 ks hk d (n + 1) _ (by omega) (fun k hk => by rw [List.length_set]; exact hg k hk)]
    rfl
theorem imp_step {P : Int} {l : List (List Int)} (ho : HyOk P l) (g : List Bool) (hg : g.length = l.length) (x4 : List (List Int)) (hx : x4.length ≤ 1000) (ly : List Int) (hly : ly = (lefts g).filter (hitI l (degs l P (lefts g)))) :
    impl_LayersOf.L0 x4 g P l = if (ly.length : Int) = 0 then some (x4, true) else impl_LayersOf.L0 (x4 ++ [ly]) (setAll g ly) P l := by
  have hd := degs_len ho (lefts g) (lefts_fit hg)
  have hl := ho.2.1
  have hm : ∀ k ∈ ly, 0 ≤ k ∧ k < (g.length : Int) := fun k hk => by
    rw [hly] at hk
    have := lefts_fit hg k (List.mem_filter.1 hk).1
    omega
  have hn : ly.length ≤ 1000 := by
    have h1 := lefts_len g
    have h2 := List.length_filter_le (hitI l (degs l P (lefts g))) (lefts g)
    rw [hly]; omega
  have hP := ho.1
  rw [impl_LayersOf.L0_eq, deg_impl g l hg ho, bsome]
  have e1 := imp_L1 P l g (degs l P (lefts g)) x4 hg hl (fun i hi => by
    have := ho.edge i hi
    exact ⟨by omega, fun p hp => by have := this.2 p hp; omega⟩) l.length 0 [] (by omega) (by simp)
  have e1' : impl_LayersOf.L1 x4 g [] l l.length 0 P l (degs l P (lefts g)) = impl_LayersOf.L1 x4 g ly l l.length l.length P l (degs l P (lefts g)) := by
    rw [hly]
    have : lefts g = idxs g l.length 0 := by rw [← hg]; rfl
    rw [List.nil_append] at e1
    rw [this] at e1 ⊢
    exact e1
  rw [e1', impl_LayersOf.L1_eq, if_neg (by omega)]
  by_cases h1 : (ly.length : Int) = 0
  · rw [if_pos h1, if_pos h1]
  · rw [if_neg h1, if_neg h1]
    have e2 := imp_L2 P l x4 ly hn ly.length 0 g (by omega) hm
    have e2' : impl_LayersOf.L2 x4 g ly ly ly.length 0 P l = impl_LayersOf.L2 x4 (setAll g ly) ly ly ly.length ly.length P l := e2
    rw [e2', impl_LayersOf.L2_eq, if_neg (by omega), if_pos (by omega)]
theorem spc_step {P : Int} {l : List (List Int)} (ho : HyOk P l) (es : List Int) (hes : es.length ≤ 1000) (hi : ∀ j ∈ es, 0 ≤ j ∧ j < (l.length : Int)) (x4 : List (List Int)) (hx : x4.length ≤ 1000) :
    spec_LayersOf.L0 x4 es P l = if ((freeL l P es).length : Int) = 0 then some (x4, true) else spec_LayersOf.L0 (x4 ++ [es.filter (hitI l (degs l P es))]) (es.filter fun i => !hitI l (degs l P es) i) P l := by
  have hd := degs_len ho es hi
  have hP := ho.1
  rw [spec_LayersOf.L0_eq, free_F es l hes hi ho, bsome]
  by_cases h1 : ((freeL l P es).length : Int) = 0
  · rw [if_pos h1, if_pos h1]
  · rw [if_neg h1, if_neg h1]
    have e1 := spc_L1 P P.toNat l (degs l P es) x4 es hes hd (by omega) hi (fun i hi => by
      have := ho.edge i hi
      exact ⟨by omega, fun p hp => by have := this.2 p hp; omega⟩) es.length 0 [] [] (by omega) (by simp) (by simp)
    have e1' : spec_LayersOf.L1 x4 (freeL l P es) [] [] es es.length 0 P l = spec_LayersOf.L1 x4 (freeL l P es) (es.filter (hitI l (degs l P es))) (es.filter fun i => !hitI l (degs l P es) i) es es.length es.length P l := e1
    rw [e1', spec_LayersOf.L1_eq, if_neg (by omega), if_pos (by omega)]
theorem layer_nil {P : Int} {l : List (List Int)} (ho : HyOk P l) (es : List Int) (hi : ∀ j ∈ es, 0 ≤ j ∧ j < (l.length : Int)) : (freeL l P es).length = 0 ↔ (es.filter (hitI l (degs l P es))).length = 0 := by
  have hd := degs_len ho es hi
  have hP := ho.1
  constructor
  · intro h
    have h0 : freeL l P es = [] := List.length_eq_zero_iff.1 h
    rw [List.length_eq_zero_iff, List.filter_eq_nil_iff]
    intro i hm hh
    obtain ⟨p, hp, hr⟩ := List.any_eq_true.1 (show (l.getD i.toNat []).any (fun p => rd (degs l P es) p == 1) = true from hh)
    have := (ho.edge i.toNat (by have := hi i hm; omega)).2 p hp
    obtain ⟨q, rfl⟩ := Int.eq_ofNat_of_zero_le this.1
    have hf : (q : Int) ∈ freeL l P es := (mem_frees _ _ _ _).2 ⟨q, rfl, by omega, by omega, by rw [rdn] at hr; exact beq_iff_eq.1 hr⟩
    rw [h0] at hf
    cases hf
  · intro h
    rcases Nat.eq_zero_or_pos (freeL l P es).length with h1 | h1
    · exact h1
    · have hp := getD_mem (freeL l P es) 0 0 h1
      obtain ⟨p0, p1, _, r, hr, hm⟩ := free_mem ho es hi hp
      obtain ⟨q, e1, _, e2, e3⟩ := (mem_frees _ _ _ _).1 hp
      have hh : hitI l (degs l P es) r = true := by
        refine List.any_eq_true.2 ⟨(freeL l P es).getD 0 0, ?_, ?_⟩
        · have := List.find?_some hr
          unfold hasP at this
          exact of_decide_eq_true this
        · rw [e1, rdn, e3]; rfl
      have : r ∈ es.filter (hitI l (degs l P es)) := List.mem_filter.2 ⟨hm, hh⟩
      rw [List.length_eq_zero_iff.1 h] at this
      cases this
theorem rest_eq {l : List (List Int)} (D : List Int) (g : List Bool) (hg : g.length = l.length) : lefts (setAll g ((lefts g).filter (hitI l D))) = (lefts g).filter fun i => !hitI l D i := by
  rw [setAll_lefts _ g (fun k hk => by have := lefts_fit hg k (List.mem_filter.1 hk).1; omega)]
  refine List.filter_congr fun x hx => ?_
  cases hh : hitI l D x with
  | true => rw [decide_eq_false (by simp [List.mem_filter, hx, hh])]; rfl
  | false => rw [decide_eq_true (by simp [List.mem_filter, hh])]; rfl
theorem split_len (p : Int → Bool) : ∀ es : List Int, (es.filter p).length + (es.filter fun i => !p i).length = es.length
  | [] => rfl
  | x :: es => by
    have := split_len p es
    cases h : p x <;> simp [h] <;> omega
theorem layers_one {P : Int} {l : List (List Int)} (ho : HyOk P l) (g : List Bool) (x4 : List (List Int)) (hg : g.length = l.length) (hx : x4.length + (lefts g).length ≤ 40) :
    (impl_LayersOf.L0 x4 g P l = some (x4, true) ∧ spec_LayersOf.L0 x4 (lefts g) P l = some (x4, true)) ∨
    ∃ ly : List Int, 0 < ly.length ∧ ly.length + (lefts (setAll g ly)).length = (lefts g).length ∧ impl_LayersOf.L0 x4 g P l = impl_LayersOf.L0 (x4 ++ [ly]) (setAll g ly) P l ∧ spec_LayersOf.L0 x4 (lefts g) P l = spec_LayersOf.L0 (x4 ++ [ly]) (lefts (setAll g ly)) P l := by
  have hi := lefts_fit hg
  have hs := split_len (hitI l (degs l P (lefts g))) (lefts g)
  have hn := layer_nil ho (lefts g) hi
  have hre := rest_eq (l := l) (degs l P (lefts g)) g hg
  rw [imp_step ho g hg x4 (by omega) _ rfl, spc_step ho (lefts g) (by omega) hi x4 (by omega)]
  by_cases h1 : (freeL l P (lefts g)).length = 0
  · left
    rw [if_pos (by have := hn.1 h1; omega), if_pos (by omega)]
    exact ⟨rfl, rfl⟩
  · right
    have h2 : ¬ ((lefts g).filter (hitI l (degs l P (lefts g)))).length = 0 := fun h => h1 (hn.2 h)
    rw [if_neg (by omega), if_neg (by omega)]
    refine ⟨(lefts g).filter (hitI l (degs l P (lefts g))), by omega, by rw [hre]; exact hs, rfl, by rw [hre]⟩
theorem layers_both {P : Int} {l : List (List Int)} (ho : HyOk P l) : ∀ (d : Nat) (g : List Bool) (x4 : List (List Int)), g.length = l.length → (lefts g).length ≤ d → x4.length + (lefts g).length ≤ 40 → (∀ r ∈ x4, r.length ≤ 40) →
    ∃ out : List (List Int), impl_LayersOf.L0 x4 g P l = some (out, true) ∧ spec_LayersOf.L0 x4 (lefts g) P l = some (out, true) ∧ out.length ≤ 40 ∧ ∀ r ∈ out, r.length ≤ 40 := by
  intro d
  induction d with
  | zero =>
    intro g x4 hg hd hx hr
    rcases layers_one ho g x4 hg hx with h | ⟨ly, h0, h1, _, _⟩
    · exact ⟨x4, h.1, h.2, by omega, hr⟩
    · omega
  | succ d ih =>
    intro g x4 hg hd hx hr
    rcases layers_one ho g x4 hg hx with h | ⟨ly, h0, h1, h2, h3⟩
    · exact ⟨x4, h.1, h.2, by omega, hr⟩
    · rw [h2, h3]
      refine ih (setAll g ly) (x4 ++ [ly]) (by rw [setAll_len]; exact hg) (by omega) (by rw [List.length_append, List.length_singleton]; omega) (fun r hm => ?_)
      rcases List.mem_append.1 hm with hm | hm
      · exact hr r hm
      · rw [List.mem_singleton.1 hm]; omega
theorem tot_small (B : Nat) : ∀ l : List (List Int), (∀ r ∈ l, r.length ≤ B) → tot l ≤ B * l.length
  | [], _ => Nat.zero_le _
  | r :: l, h => by
    have h1 := tot_small B l (fun x hx => h x (List.mem_cons_of_mem _ hx))
    have h2 := h r (List.mem_cons_self ..)
    show r.length + tot l ≤ B * (l.length + 1)
    rw [Nat.mul_succ]; omega
theorem sz_small (l : List (List Int)) (hl : l.length ≤ 40) (h : ∀ r ∈ l, r.length ≤ 40) : SzOk l := by
  refine ⟨by omega, fun i hi => ?_, ?_⟩
  · have := h _ (getD_mem l [] i hi); omega
  · have := tot_small 40 l h; omega
theorem layersOf_both (a : Int) (l : List (List Int)) (ho : SzOk l) : ∃ q : List (List Int) × Bool, impl_LayersOf.F a l = some q ∧ spec_LayersOf.F a l = some q ∧ SzOk q.1 := by
  rw [impl_LayersOf.F_eq, spec_LayersOf.F_eq, hyper_impl a l ho.1, hyper_spec a l ho.1, bsome, bsome]
  by_cases h : hyperB a l = true
  · have hk := hyok h
    have hl := hk.2.1
    have h0 := lefts_len (List.replicate l.length false)
    rw [List.length_replicate] at h0
    obtain ⟨out, o1, o2, o3, o4⟩ := layers_both hk l.length (List.replicate l.length false) [] (by simp) h0 (by simp; omega) (fun r hr => absurd hr (by simp))
    rw [h, if_pos rfl, if_pos rfl, none_f a l ho.1, bsome, all_F a l ho.1, bsome, o1, o2]
    exact ⟨_, rfl, rfl, sz_small out o3 o4⟩
  · rw [if_neg h, if_neg h]
    exact ⟨_, rfl, rfl, by simp, by simp, by simp [tot]⟩
theorem FnExactLayersOf : X.laws_FnExactLayersOf.Pure := by
  intro a l w0 w1
  refine Sup.rounds (laws_FnExactLayersOf.F_sup a l) ?_
  rw [laws_FnExactLayersOf.F_eq]
  rcases sz_hyper a l w1 with h | ⟨r, h, h1, h2, ho⟩
  · rw [h, bsome]; rfl
  · obtain ⟨q, hq1, hq2, hq3⟩ := layersOf_both a l ho
    have hm := hq3.2.2
    rw [h, bsome, if_neg (by omega)]
    simp only [toHyper_F a l ho, bsome, hq1, hq2, eqIntSS_F q.1 hq3.1 hq3.2.1, if_true, bne_self_eq_false, Bool.false_eq_true, if_false, eqHyper_F a l ho.1 ho.2.1, markHyper_F a l ho, show ¬ (1 + (tot l : Int) < 0) from by omega, markSS_F q.1 1 (by omega) hq3.1 (by omega), heldSS_F q.1 1 (by omega) hq3.1 (by omega), show ¬ (1 + (tot q.1 : Int) < 0) from by omega]
end Go.Proofs.Ytlcedciocmjggaa.Pure
