/- The plain part of the law FnExactIsPeelOrder: the program's and the reference's answers are the same, and the arguments stay, for all arguments. WITH: HasF Contains Peels -/
import Derived.Test.YtlcedciocmjggaaXg200a
import Derived.Test.YtlcedciocmjggaaXg200b
import Derived.Test.YtlcedciocmjggaaXg3a00a
import Derived.Test.YtlcedciocmjggaaXg3f04a
import Derived.Test.YtlcedciocmjggaaXg3f0ea
import Derived.Test.YtlcedciocmjggaaXpBase
import Derived.Test.YtlcedciocmjggaaXpDegrees
import Derived.Test.YtlcedciocmjggaaXpHyper
import Derived.Test.YtlcedciocmjggaaXpHyperMarks
import Derived.Test.YtlcedciocmjggaaXpRowEq
import Derived.Test.YtlcedciocmjggaaXpRowMarks
import Derived.Test.YtlcedciocmjggaaXpWithin
import Derived.Test.YtlcedciocmjggaaXx0
namespace Go.Proofs.Ytlcedciocmjggaa.X
open Go.RowKit Go.Proofs.YtlcedciocmjggaaW.PrintWords Go.Proofs.YtlcedciocmjggaaW.PrintLast
set_option linter.unusedVariables false
set_option linter.unusedSimpArgs false
theorem hasF_drop (l : List Int) (v : Int) (n : Nat) (h : n < l.length) : (v ∈ l.drop n) ↔ (v = l.getD n 0 ∨ v ∈ l.drop (n + 1)) := by
  rw [List.drop_eq_getElem_cons h, List.mem_cons, List.getD_eq_getElem?_getD, List.getElem?_eq_getElem h]; rfl
theorem has_FL (l : List Int) (v : Int) (hl : l.length ≤ 1048576) : ∀ d n : Nat, n + d = l.length → spec_l1Has.L0 v l l.length n = some (decide (v ∈ l.drop n))
  | 0, n, h => by
    rw [spec_l1Has.L0_eq, if_neg (by omega), List.drop_eq_nil_of_le (by omega)]; simp
  | d + 1, n, h => by
    rw [spec_l1Has.L0_eq, if_pos (by omega), if_pos (by omega), if_pos (by omega), rdn]
    have hd := hasF_drop l v n (by omega)
    by_cases h1 : l.getD n 0 = v
    · rw [if_pos h1, decide_eq_true (hd.2 (Or.inl h1.symm))]
    · rw [if_neg h1, wn (by omega), has_FL l v hl d (n + 1) (by omega)]
      congr 1
      rw [decide_eq_decide, hd]
      exact ⟨Or.inr, fun h2 => h2.elim (fun h3 => absurd h3.symm h1) id⟩
theorem has_F (l : List Int) (v : Int) (hl : l.length ≤ 1048576) : spec_l1Has.F l v = some (decide (v ∈ l)) := by
  rw [spec_l1Has.F_eq]
  have := has_FL l v hl l.length 0 (by omega)
  rw [List.drop_zero] at this
  exact this
theorem mem_drop_step (l : List Int) (v : Int) (n : Nat) (h : n < l.length) : (v ∈ l.drop n) ↔ (v = l.getD n 0 ∨ v ∈ l.drop (n + 1)) := by
  rw [List.drop_eq_getElem_cons h, List.mem_cons, List.getD_eq_getElem?_getD, List.getElem?_eq_getElem h]
  rfl
theorem index_L (l : List Int) (v : Int) (hl : l.length ≤ 1048576) : ∀ d n : Nat, n + d = l.length → ∃ j : Int, slices_Index_int_int.L0 l v l.length n = some j ∧ decide (j ≥ 0) = decide (v ∈ l.drop n)
  | 0, n, h => by
    rw [slices_Index_int_int.L0_eq, if_neg (by omega), List.drop_eq_nil_of_le (by omega)]
    exact ⟨-1, rfl, by simp⟩
  | d + 1, n, h => by
    have e2 : slices_Index_int_int.L0 l v l.length n = if v = l.getD n 0 then some (n : Int) else slices_Index_int_int.L0 l v l.length ((n + 1 : Nat) : Int) := by
      rw [slices_Index_int_int.L0_eq, if_pos (by omega), if_pos (by omega), if_pos (by omega), rdn, wn (by omega)]
    have hm := mem_drop_step l v n (by omega)
    rw [e2]
    by_cases hq : v = l.getD n 0
    · rw [if_pos hq]
      exact ⟨n, rfl, by rw [decide_eq_true (hm.mpr (.inl hq)), decide_eq_true (by omega)]⟩
    · rw [if_neg hq]
      obtain ⟨j, h1, h2⟩ := index_L l v hl d (n + 1) (by omega)
      refine ⟨j, h1, h2.trans ?_⟩
      rw [decide_eq_decide, hm]
      exact ⟨.inr, fun x => x.resolve_left hq⟩
theorem contains_F (l : List Int) (v : Int) (hl : l.length ≤ 1048576) : slices_Contains_int_int.F l v = some (decide (v ∈ l)) := by
  obtain ⟨j, h1, h2⟩ := index_L l v hl l.length 0 (by omega)
  rw [show ((0 : Nat) : Int) = 0 from rfl] at h1
  rw [slices_Contains_int_int.F_eq, slices_Index_int_int.F_eq, h1, bsome, h2]
  rfl
def frees (D : List Int) : Nat → Nat → List Int
  | 0, _ => []
  | d + 1, n => if D.getD n 0 = 1 then (n : Int) :: frees D d (n + 1) else frees D d (n + 1)
theorem frees_succ (D : List Int) (d n : Nat) : frees D (d + 1) n = if D.getD n 0 = 1 then (n : Int) :: frees D d (n + 1) else frees D d (n + 1) := rfl
theorem mem_frees (D : List Int) (x : Int) : ∀ d n, x ∈ frees D d n ↔ ∃ q : Nat, x = q ∧ n ≤ q ∧ q < n + d ∧ D.getD q 0 = 1
  | 0, n => by
    constructor
    · intro h; cases h
    · rintro ⟨q, _, h1, h2, _⟩; omega
  | d + 1, n => by
    rw [frees_succ]
    by_cases h : D.getD n 0 = 1
    · rw [if_pos h, List.mem_cons, mem_frees D x d (n + 1)]
      constructor
      · rintro (rfl | ⟨q, h1, h2, h3, h4⟩)
        · exact ⟨n, rfl, by omega, by omega, h⟩
        · exact ⟨q, h1, by omega, by omega, h4⟩
      · rintro ⟨q, h1, h2, h3, h4⟩
        rcases Nat.lt_or_ge n q with h5 | h5
        · exact Or.inr ⟨q, h1, by omega, by omega, h4⟩
        · left; omega
    · rw [if_neg h, mem_frees D x d (n + 1)]
      constructor
      · rintro ⟨q, h1, h2, h3, h4⟩; exact ⟨q, h1, by omega, by omega, h4⟩
      · rintro ⟨q, h1, h2, h3, h4⟩
        refine ⟨q, h1, ?_, by omega, h4⟩
        rcases Nat.lt_or_ge n q with h5 | h5
        · omega
        · obtain rfl : q = n := by omega
          exact absurd h4 h
theorem frees_len (D : List Int) : ∀ d n, (frees D d n).length ≤ d
  | 0, n => by simp [frees]
  | d + 1, n => by
    rw [frees_succ]
    have := frees_len D d (n + 1)
    split
    · simp only [List.length_cons]; omega
    · omega
def freeL (l : List (List Int)) (P : Int) (is : List Int) : List Int := frees (degs l P is) P.toNat 0
theorem singles_L (D : List Int) (hD : D.length ≤ 1000) : ∀ (d n : Nat) (acc : List Int), n + d = D.length → acc.length ≤ n → impl_Hyper_singles.L0 acc D D.length n = some (acc ++ frees D d n)
  | 0, n, acc, h, ha => by rw [impl_Hyper_singles.L0_eq, if_neg (by omega)]; simp [frees]
  | d + 1, n, acc, h, ha => by
    rw [impl_Hyper_singles.L0_eq, if_pos (by omega), if_pos (by omega), if_pos (by omega), rdn, frees_succ]
    by_cases h1 : D.getD n 0 = 1
    · rw [if_pos h1, if_pos h1, if_pos (by omega), wn (by omega), singles_L D hD d (n + 1) _ (by omega) (by simp; omega), List.append_assoc]
      rfl
    · rw [if_neg h1, if_neg h1, wn (by omega), singles_L D hD d (n + 1) _ (by omega) (by omega)]
theorem peFree_L (D : List Int) (hD : D.length ≤ 1000) : ∀ (d n : Nat) (acc : List Int), n + d = D.length → acc.length ≤ n → spec_peFree.L0 acc D D.length n = some (acc ++ frees D d n)
  | 0, n, acc, h, ha => by rw [spec_peFree.L0_eq, if_neg (by omega)]; simp [frees]
  | d + 1, n, acc, h, ha => by
    rw [spec_peFree.L0_eq, if_pos (by omega), if_pos (by omega), if_pos (by omega), rdn, frees_succ]
    by_cases h1 : D.getD n 0 = 1
    · rw [if_pos h1, if_pos h1, if_pos (by omega), wn (by omega), peFree_L D hD d (n + 1) _ (by omega) (by simp; omega), List.append_assoc]
      rfl
    · rw [if_neg h1, if_neg h1, wn (by omega), peFree_L D hD d (n + 1) _ (by omega) (by omega)]
theorem degs_len {P : Int} {l : List (List Int)} (ho : HyOk P l) (is : List Int) (his : ∀ j ∈ is, 0 ≤ j ∧ j < l.length) : (degs l P is).length = P.toNat := by
  have := (degs_bd ho is his).1
  omega
theorem singles_F {P : Int} (g : List Bool) (l : List (List Int)) (hg : g.length = l.length) (ho : HyOk P l) : impl_Hyper_singles.F P l g = some (freeL l P (lefts g)) := by
  have h1 := ho.1
  have hl := degs_len ho (lefts g) (lefts_fit hg)
  rw [impl_Hyper_singles.F_eq, deg_impl g l hg ho, bsome]
  have := singles_L (degs l P (lefts g)) (by omega) P.toNat 0 [] (by omega) (by simp)
  exact this
theorem free_F {P : Int} (is : List Int) (l : List (List Int)) (hi : is.length ≤ 1000) (his : ∀ j ∈ is, 0 ≤ j ∧ j < l.length) (ho : HyOk P l) : spec_peFree.F P l is = some (freeL l P is) := by
  have h1 := ho.1
  have hl := degs_len ho is his
  rw [spec_peFree.F_eq, deg_spec is l hi his ho, bsome]
  have := peFree_L (degs l P is) (by omega) P.toNat 0 [] (by omega) (by simp)
  exact this
theorem left_L (g : List Bool) (hg : g.length ≤ 1048576) : ∀ (d n : Nat) (acc : List Int), n + d = g.length → acc.length ≤ n → impl_left.L0 acc g g.length n = some (acc ++ idxs g d n)
  | 0, n, acc, h, ha => by rw [impl_left.L0_eq, if_neg (by omega)]; simp [idxs]
  | d + 1, n, acc, h, ha => by
    rw [impl_left.L0_eq, if_pos (by omega), if_pos (by omega), if_pos (by omega), rdOfn, idxs_succ]
    by_cases h1 : g.getD n false = true
    · rw [if_pos h1, if_pos h1, wn (by omega), left_L g hg d (n + 1) _ (by omega) (by omega)]
    · rw [if_neg h1, if_neg h1, if_pos (by omega), wn (by omega), left_L g hg d (n + 1) _ (by omega) (by simp; omega), List.append_assoc]
      rfl
theorem left_F (g : List Bool) (hg : g.length ≤ 1048576) : impl_left.F g = some (lefts g) := by
  rw [impl_left.F_eq]
  have := left_L g hg g.length 0 [] (by omega) (by simp)
  exact this
theorem drop_L (l : List Int) (a : Int) (hl : l.length ≤ 1048576) : ∀ (d n : Nat) (acc : List Int), n + d = l.length → acc.length ≤ n → spec_l1Drop.L0 a acc l l.length n = some (acc ++ (l.drop n).filter (fun x => decide (x ≠ a)))
  | 0, n, acc, h, ha => by rw [spec_l1Drop.L0_eq, if_neg (by omega), List.drop_eq_nil_of_le (by omega)]; simp
  | d + 1, n, acc, h, ha => by
    rw [spec_l1Drop.L0_eq, if_pos (by omega), if_pos (by omega), if_pos (by omega), rdn, drop_getD l 0 n (by omega), List.filter_cons]
    by_cases h1 : l.getD n 0 = a
    · rw [if_pos h1, wn (by omega), drop_L l a hl d (n + 1) _ (by omega) (by omega), if_neg (by simpa using h1)]
    · rw [if_neg h1, if_pos (by omega), wn (by omega), drop_L l a hl d (n + 1) _ (by omega) (by simp; omega), if_pos (by simpa using h1), List.append_assoc]
      rfl
theorem drop_F (l : List Int) (a : Int) (hl : l.length ≤ 1048576) : spec_l1Drop.F l a = some (l.filter (fun x => decide (x ≠ a))) := by
  rw [spec_l1Drop.F_eq]
  have := drop_L l a hl l.length 0 [] (by omega) (by simp)
  rw [List.drop_zero] at this
  exact this
theorem idxs_set (g : List Bool) (r : Nat) (hr : r < g.length) : ∀ d n, idxs (g.set r true) d n = (idxs g d n).filter (fun x => decide (x ≠ (r : Int)))
  | 0, n => rfl
  | d + 1, n => by
    rw [idxs_succ, idxs_succ, idxs_set g r hr d (n + 1)]
    by_cases h : r = n
    · subst h
      rw [getD_set_self _ _ _ _ hr, if_pos rfl]
      split
      · rfl
      · rw [List.filter_cons, if_neg (by simp)]
    · rw [getD_set_ne _ _ _ _ _ h]
      split
      · rfl
      · rw [List.filter_cons, if_pos (by simp; omega)]
theorem lefts_set (g : List Bool) (r : Int) (h0 : 0 ≤ r) (hr : r < g.length) : lefts (g.set r.toNat true) = (lefts g).filter (fun x => decide (x ≠ r)) := by
  unfold lefts
  rw [List.length_set, idxs_set g r.toNat (by omega)]
  rw [show ((r.toNat : Nat) : Int) = r from by omega]
theorem filter_less (l : List Int) (r : Int) (h : r ∈ l) : (l.filter (fun x => decide (x ≠ r))).length < l.length := by
  rw [List.length_filter_lt_length_iff_exists]
  exact ⟨r, h, by simp⟩
def hasP (l : List (List Int)) (p : Int) (i : Int) : Bool := decide (p ∈ l.getD i.toNat [])
theorem with_L {P : Int} (p : Int) (is : List Int) (l : List (List Int)) (Q : Int) (hi : is.length ≤ 1000) (his : ∀ j ∈ is, 0 ≤ j ∧ j < l.length) (ho : HyOk P l) : ∀ d n : Nat, n + d = is.length → spec_peWith.L0 p is is.length n Q l = some (((is.drop n).find? (hasP l p)).getD (-1))
  | 0, n, h => by rw [spec_peWith.L0_eq, if_neg (by omega), List.drop_eq_nil_of_le (by omega)]; rfl
  | d + 1, n, h => by
    have hj := his _ (getD_mem is 0 n (by omega))
    have h3 := (ho.edge (is.getD n 0).toNat (by omega)).1
    rw [spec_peWith.L0_eq, if_pos (by omega), if_pos (by omega), if_pos (by omega), rdn, if_pos hj.1, if_pos hj.2, show rd_L1 l (is.getD n 0) = l.getD (is.getD n 0).toNat [] from rfl, has_F _ _ (by omega), bsome, drop_getD is 0 n (by omega), List.find?_cons, wn (by omega), with_L p is l Q hi his ho d (n + 1) (by omega)]
    show _ = some (Option.getD (match hasP l p (is.getD n 0) with | true => _ | false => _) _)
    unfold hasP
    by_cases h1 : p ∈ l.getD (is.getD n 0).toNat []
    · rw [if_pos (by simpa using h1), decide_eq_true h1]; rfl
    · rw [if_neg (by simpa using h1), decide_eq_false h1]
theorem with_F {P : Int} (p : Int) (is : List Int) (l : List (List Int)) (hi : is.length ≤ 1000) (his : ∀ j ∈ is, 0 ≤ j ∧ j < l.length) (ho : HyOk P l) : spec_peWith.F P l is p = some ((is.find? (hasP l p)).getD (-1)) := by
  rw [spec_peWith.F_eq]
  have := with_L p is l P hi his ho is.length 0 (by omega)
  rw [List.drop_zero] at this
  exact this
theorem edgeAt_L {P : Int} (p : Int) (g : List Bool) (l : List (List Int)) (Q : Int) (hg : g.length = l.length) (ho : HyOk P l) (r : Int) : ∀ d n : Nat, n + d = g.length → (idxs g d n).find? (hasP l p) = some r → impl_Hyper_edgeAt.L0 g p n Q l = some r
  | 0, n, h, hf => by cases hf
  | d + 1, n, h, hf => by
    have hl := ho.2.1
    have h3 := (ho.edge n (by omega)).1
    rw [impl_Hyper_edgeAt.L0_eq, if_pos (by omega), if_pos (by omega), rdOfn]
    rw [idxs_succ] at hf
    by_cases h1 : g.getD n false = true
    · rw [if_pos h1] at hf ⊢
      rw [wn (by omega)]
      exact edgeAt_L p g l Q hg ho r d (n + 1) (by omega) hf
    · rw [if_neg h1] at hf ⊢
      rw [if_pos (by omega), rdr, contains_F _ _ (by omega), bsome]
      rw [List.find?_cons] at hf
      unfold hasP at hf
      rw [Int.toNat_natCast] at hf
      by_cases h2 : p ∈ l.getD n []
      · rw [if_pos (by simpa using h2)]
        rw [decide_eq_true h2] at hf
        exact hf
      · rw [if_neg (by simpa using h2), wn (by omega)]
        rw [decide_eq_false h2] at hf
        exact edgeAt_L p g l Q hg ho r d (n + 1) (by omega) hf
theorem edgeAt_F {P : Int} (p : Int) (g : List Bool) (l : List (List Int)) (hg : g.length = l.length) (ho : HyOk P l) (r : Int) (hf : (lefts g).find? (hasP l p) = some r) : impl_Hyper_edgeAt.F P l g p = some r := by
  rw [impl_Hyper_edgeAt.F_eq]
  exact edgeAt_L p g l P hg ho r g.length 0 (by omega) hf
/-- How often a place is counted. -/
def cnt (l : List (List Int)) (q : Nat) (is : List Int) : Nat := (is.map fun i => (l.getD i.toNat []).count (q : Int)).sum
theorem bumps_getD (q : Nat) : ∀ (e D : List Int), (∀ p ∈ e, 0 ≤ p ∧ p < (D.length : Int)) → (bumps D e).getD q 0 = D.getD q 0 + (e.count (q : Int) : Int)
  | [], D, _ => by simp [bumps]
  | p :: e, D, h => by
    have h1 := h p (List.mem_cons_self)
    have e2 : bumps D (p :: e) = bumps (bump D p) e := rfl
    have hl : (bump D p).length = D.length := by unfold bump; rw [List.length_set]
    rw [e2, bumps_getD q e (bump D p) (fun x hx => by rw [hl]; exact h x (List.mem_cons_of_mem _ hx)), bump_getD D p q h1.1 h1.2, List.count_cons]
    by_cases hp : p = (q : Int)
    · rw [if_pos hp, if_pos (by simpa using hp)]; omega
    · rw [if_neg hp, if_neg (by simpa using hp)]; omega
theorem degL_getD {P : Int} {l : List (List Int)} (ho : HyOk P l) (q : Nat) : ∀ (is D : List Int), (D.length : Int) = P → (∀ j ∈ is, 0 ≤ j ∧ j < l.length) → (degL l D is).getD q 0 = D.getD q 0 + (cnt l q is : Int)
  | [], D, _, _ => by simp [degL, cnt]
  | j :: is, D, hD, h => by
    have h1 := h j (List.mem_cons_self)
    have h2 := (ho.edge j.toNat (by omega)).2
    have e2 : degL l D (j :: is) = degL l (bumps D (l.getD j.toNat [])) is := rfl
    have hb : ∀ (e D : List Int), (bumps D e).length = D.length := by
      intro e
      induction e with
      | nil => intro D; rfl
      | cons a e ih => intro D; rw [show bumps D (a :: e) = bumps (bump D a) e from rfl, ih]; unfold bump; rw [List.length_set]
    rw [e2, degL_getD ho q is _ (by rw [hb]; exact hD) (fun x hx => h x (List.mem_cons_of_mem _ hx)), bumps_getD q _ D (by rw [hD]; exact h2)]
    unfold cnt
    simp only [List.map_cons, List.sum_cons]
    omega
theorem degs_getD {P : Int} {l : List (List Int)} (ho : HyOk P l) (is : List Int) (his : ∀ j ∈ is, 0 ≤ j ∧ j < l.length) (q : Nat) : (degs l P is).getD q 0 = (cnt l q is : Int) := by
  have h1 := ho.1
  unfold degs
  rw [degL_getD ho q is _ (by rw [List.length_replicate]; omega) his, List.getD_eq_getElem?_getD, List.getElem?_replicate]
  split <;> simp
theorem cnt_pos (l : List (List Int)) (q : Nat) : ∀ is : List Int, 0 < cnt l q is → ∃ i ∈ is, (q : Int) ∈ l.getD i.toNat []
  | [], h => by simp [cnt] at h
  | j :: is, h => by
    unfold cnt at h
    simp only [List.map_cons, List.sum_cons] at h
    by_cases h1 : (q : Int) ∈ l.getD j.toNat []
    · exact ⟨j, List.mem_cons_self, h1⟩
    · rw [List.count_eq_zero.2 h1, Nat.zero_add] at h
      obtain ⟨i, hi, hq⟩ := cnt_pos l q is h
      exact ⟨i, List.mem_cons_of_mem _ hi, hq⟩
theorem free_mem {P : Int} {l : List (List Int)} (ho : HyOk P l) (is : List Int) (his : ∀ j ∈ is, 0 ≤ j ∧ j < l.length) {p : Int} (h : p ∈ freeL l P is) : 0 ≤ p ∧ p < P ∧ cnt l p.toNat is = 1 ∧ ∃ r, is.find? (hasP l p) = some r ∧ r ∈ is := by
  have h1 := ho.1
  obtain ⟨q, rfl, _, h2, h3⟩ := (mem_frees _ p _ _).1 h
  rw [degs_getD ho is his q] at h3
  obtain ⟨i, hi, hq⟩ := cnt_pos l q is (by omega)
  refine ⟨by omega, by omega, by rw [Int.toNat_natCast]; omega, ?_⟩
  have hs : ∃ x ∈ is, hasP l (q : Int) x = true := ⟨i, hi, by unfold hasP; simpa using hq⟩
  have := List.find?_isSome.2 hs
  obtain ⟨r, hr⟩ := Option.isSome_iff_exists.1 this
  exact ⟨r, hr, List.mem_of_find?_eq_some hr⟩
theorem freeL_len {P : Int} {l : List (List Int)} (is : List Int) : (freeL l P is).length ≤ P.toNat := frees_len _ _ _
end Go.Proofs.Ytlcedciocmjggaa.X
namespace Go.Proofs.Ytlcedciocmjggaa.Pure
open Go.RowKit Go.Proofs.Ytlcedciocmjggaa.X Go.Proofs.YtlcedciocmjggaaW.PrintWords Go.Proofs.YtlcedciocmjggaaW.PrintLast
def stepsOf (l : List S90) : List S88 := l.map fun s => ⟨s.f0, s.f1⟩
theorem stepsOf_len (l : List S90) : (stepsOf l).length = l.length := by simp [stepsOf]
theorem stepsOf_getD (l : List S90) (n : Nat) (h : n < l.length) : (stepsOf l).getD n z88 = ⟨(l.getD n z90).f0, (l.getD n z90).f1⟩ := by
  simp [stepsOf, List.getD_eq_getElem?_getD, List.getElem?_eq_getElem h]
theorem rd_90 (xs : List S90) (n : Nat) : rd_T90 xs (n : Int) = xs.getD n z90 := rfl
theorem rd_88 (xs : List S88) (n : Nat) : rd_T88 xs (n : Int) = xs.getD n z88 := rfl
theorem toSteps_L (l : List S90) (hl : l.length ≤ 1048576) : ∀ d n : Nat, n + d = l.length → laws_toPeelStepS.L0 l ((stepsOf l).take n ++ List.replicate ((stepsOf l).length - n) z88) n = some (stepsOf l)
  | 0, n, h => by
    have hs := stepsOf_len l
    rw [laws_toPeelStepS.L0_eq, if_neg (by omega), List.take_of_length_le (by omega), show (stepsOf l).length - n = 0 from by omega, List.replicate_zero, List.append_nil]
  | d + 1, n, h => by
    have hs := stepsOf_len l
    have hx := set_step (stepsOf l) z88 z88 n (by omega)
    rw [stepsOf_getD l n (by omega)] at hx
    rw [laws_toPeelStepS.L0_eq, if_pos (by omega), if_pos (by omega), rd_90]
    unfold laws_toPeelStep.f
    rw [bsome, if_pos (by rw [List.length_append, List.length_take, List.length_replicate]; omega), Int.toNat_natCast, wn (by omega)]
    show laws_toPeelStepS.L0 l (((stepsOf l).take n ++ List.replicate ((stepsOf l).length - n) z88).set n ⟨(l.getD n z90).f0, (l.getD n z90).f1⟩) _ = _
    rw [hx]
    exact toSteps_L l hl d (n + 1) (by omega)
theorem toSteps_F (l : List S90) (hl : l.length ≤ 1048576) : laws_toPeelStepS.F l = some (stepsOf l) := by
  rw [laws_toPeelStepS.F_eq, if_pos (by omega), if_pos (by omega), Int.toNat_natCast]
  have := toSteps_L l hl l.length 0 (by omega)
  rw [List.take_zero, List.nil_append, Nat.sub_zero, stepsOf_len] at this
  exact this
theorem eqSteps_L (l : List S88) (hl : l.length ≤ 1048576) : ∀ d n : Nat, n + d = l.length → laws_eqPeelStepS.L0 l l n = some true
  | 0, n, h => by rw [laws_eqPeelStepS.L0_eq, if_neg (by omega)]
  | d + 1, n, h => by
    rw [laws_eqPeelStepS.L0_eq, if_pos (by omega), if_pos (by omega), if_pos (by omega)]
    unfold laws_eqPeelStep.f
    rw [if_pos rfl, if_pos rfl, bsome, if_pos rfl, wn (by omega)]
    exact eqSteps_L l hl d (n + 1) (by omega)
theorem eqSteps_F (l : List S88) (hl : l.length ≤ 1048576) : laws_eqPeelStepS.F l l = some true := by
  rw [laws_eqPeelStepS.F_eq, if_pos rfl]
  exact eqSteps_L l hl l.length 0 (by omega)
theorem cnt_cons (l : List (List Int)) (q : Nat) (i : Int) (is : List Int) : cnt l q (i :: is) = (l.getD i.toNat []).count (q : Int) + cnt l q is := by
  simp [cnt]
theorem cnt_one (l : List (List Int)) (q : Nat) : ∀ (is : List Int) (i : Int), i ∈ is → (q : Int) ∈ l.getD i.toNat [] → 1 ≤ cnt l q is
  | j :: is, i, h, hq => by
    rw [cnt_cons]
    rcases List.mem_cons.1 h with rfl | h
    · have := List.count_pos_iff.2 hq; omega
    · have := cnt_one l q is i h hq; omega
theorem cnt_two (l : List (List Int)) (q : Nat) : ∀ (is : List Int) (i j : Int), i ∈ is → j ∈ is → i ≠ j → (q : Int) ∈ l.getD i.toNat [] → (q : Int) ∈ l.getD j.toNat [] → 2 ≤ cnt l q is
  | k :: is, i, j, hi, hj, hne, qi, qj => by
    rw [cnt_cons]
    rcases List.mem_cons.1 hi with e1 | h1 <;> rcases List.mem_cons.1 hj with e2 | h2
    · exact absurd (e1.trans e2.symm) hne
    · have := List.count_pos_iff.2 qi
      have := cnt_one l q is j h2 qj
      rw [← e1]; omega
    · have := List.count_pos_iff.2 qj
      have := cnt_one l q is i h1 qi
      rw [← e2]; omega
    · have := cnt_two l q is i j h1 h2 hne qi qj
      omega
theorem free_iff {P : Int} {l : List (List Int)} (ho : HyOk P l) (es : List Int) (hi : ∀ j ∈ es, 0 ≤ j ∧ j < (l.length : Int)) (e : Int) (he : e ∈ es) (p : Nat) (hp : (p : Int) ∈ l.getD e.toNat []) (hP : (p : Int) < P) (hD : (degs l P es).getD p 0 = 1) : (es.find? (hasP l p)).getD (-1) = e := by
  have hf : (p : Int) ∈ freeL l P es := (mem_frees _ _ _ _).2 ⟨p, rfl, by omega, by omega, hD⟩
  obtain ⟨_, _, h1, r, hr, hm⟩ := free_mem ho es hi hf
  rw [hr, Option.getD_some]
  rw [Int.toNat_natCast] at h1
  by_cases h2 : r = e
  · exact h2
  · have := List.find?_some hr
    unfold hasP at this
    have := cnt_two l p es r e hm he h2 (of_decide_eq_true this) hp
    omega
theorem order_L {P : Int} {l : List (List Int)} (ho : HyOk P l) (S : List S88) (hS : S.length ≤ 1048576) : ∀ (d n : Nat) (g : List Bool), n + d = S.length → g.length = l.length → ∃ b : Bool, impl_IsPeelOrder.L0 g S S.length n P l = some (b, true) ∧ spec_peOrder.L0 (lefts g) S S.length n P l = some b
  | 0, n, g, h, hg => by
    have hl := ho.2.1
    rw [impl_IsPeelOrder.L0_eq, spec_peOrder.L0_eq, if_neg (by omega), if_neg (by omega), left_F g (by omega), bsome]
    exact ⟨_, rfl, rfl⟩
  | d + 1, n, g, h, hg => by
    have hl := ho.2.1
    have hP := ho.1
    have hn := lefts_len g
    have hi := lefts_fit hg
    have hd := degs_len ho (lefts g) hi
    have hfl := freeL_len (P := P) (l := l) (lefts g)
    generalize hs : S.getD n z88 = s
    obtain ⟨e, p⟩ := s
    have e0 : (rd_T88 S (n : Int)).f0 = e := by rw [rd_88, hs]
    have e1 : (rd_T88 S (n : Int)).f1 = p := by rw [rd_88, hs]
    have hsp := spec_peOrder.L0_eq (lefts g) S S.length n P l
    rw [if_pos (by omega), if_pos (by omega), if_pos (by omega), e0, e1, has_F _ _ (by omega), bsome, wn (by omega)] at hsp
    rw [impl_IsPeelOrder.L0_eq, if_pos (by omega), if_pos (by omega), if_pos (by omega), e0, e1, w64 (x := (l.length : Int) - 1) (by omega) (by omega), in_f, bsome, wn (by omega), hsp]
    by_cases h1 : 0 ≤ e ∧ e ≤ (l.length : Int) - 1
    · rw [decide_eq_true h1, if_pos rfl, if_pos h1.1, if_pos (by omega), if_pos (show e < (l.length : Int) from by omega)]
      obtain ⟨q, rfl⟩ := Int.eq_ofNat_of_zero_le h1.1
      rw [rdOfn]
      by_cases h2 : g.getD q false = true
      · rw [if_pos h2, decide_eq_false (fun hm => by have := (mem_lefts hm).2.2; rw [Int.toNat_natCast, h2] at this; cases this)]
        exact ⟨false, rfl, rfl⟩
      · have hm : (q : Int) ∈ lefts g := (mem_idxs g _ _ _).2 ⟨q, rfl, by omega, by omega, by simpa using h2⟩
        have hq := ho.edge q (by omega)
        rw [if_neg h2, decide_eq_true hm, if_pos rfl, rdr, contains_F _ _ (by omega), bsome, free_F (lefts g) l (by omega) hi ho, bsome, has_F _ _ (by omega), bsome]
        by_cases h3 : p ∈ l.getD q []
        · have hb := hq.2 p h3
          obtain ⟨m, rfl⟩ := Int.eq_ofNat_of_zero_le hb.1
          rw [decide_eq_true h3, if_pos rfl, deg_impl g l hg ho, bsome, if_pos hb.1, if_pos (by omega), rdn]
          by_cases h4 : (degs l P (lefts g)).getD m 0 = 1
          · have hf : (m : Int) ∈ freeL l P (lefts g) := (mem_frees _ _ _ _).2 ⟨m, rfl, by omega, by omega, h4⟩
            obtain ⟨b, b1, b2⟩ := order_L ho S hS d (n + 1) (g.set q true) (by omega) (by rw [List.length_set]; exact hg)
            have hls := lefts_set g (q : Int) (by omega) (by omega)
            rw [Int.toNat_natCast] at hls
            rw [if_pos h4, decide_eq_true hf, if_pos rfl, with_F _ _ l (by omega) hi ho, bsome, free_iff ho (lefts g) hi (q : Int) hm m h3 hb.2 h4, if_pos rfl, drop_F _ _ (by omega), bsome, ← hls]
            exact ⟨b, b1, b2⟩
          · rw [if_neg h4, decide_eq_false (fun hf => by
              obtain ⟨m', e2, _, _, e3⟩ := (mem_frees _ _ _ _).1 hf
              have : m = m' := by omega
              subst this
              exact h4 e3)]
            exact ⟨false, rfl, rfl⟩
        · rw [decide_eq_false h3]
          refine ⟨false, rfl, ?_⟩
          by_cases h5 : p ∈ freeL l P (lefts g)
          · obtain ⟨_, _, _, r, hr, hrm⟩ := free_mem ho (lefts g) hi h5
            rw [decide_eq_true h5, if_pos rfl, with_F _ _ l (by omega) hi ho, bsome, hr, Option.getD_some, if_neg (fun hh => by
              have := List.find?_some hr
              unfold hasP at this
              rw [hh, Int.toNat_natCast] at this
              exact h3 (of_decide_eq_true this))]
          · rw [decide_eq_false h5, if_neg (by simp)]
    · rw [decide_eq_false h1, if_neg (by simp), decide_eq_false (fun hm => h1 (by have := hi _ hm; omega)), if_neg (by simp)]
      exact ⟨false, rfl, rfl⟩
theorem isPeelOrder_both (a : Int) (l : List (List Int)) (S : List S88) (ho : SzOk l) (hS : S.length ≤ 1048576) : ∃ q : Bool × Bool, impl_IsPeelOrder.F a l S = some q ∧ spec_IsPeelOrder.F a l S = some q := by
  rw [impl_IsPeelOrder.F_eq, spec_IsPeelOrder.F_eq, hyper_impl a l ho.1, hyper_spec a l ho.1, bsome, bsome]
  by_cases h : hyperB a l = true
  · have hk := hyok h
    obtain ⟨b, b1, b2⟩ := order_L hk S hS S.length 0 (List.replicate l.length false) (by omega) (by simp)
    have b1' : impl_IsPeelOrder.L0 (List.replicate l.length false) S S.length 0 a l = some (b, true) := b1
    have b2' : spec_peOrder.L0 (lefts (List.replicate l.length false)) S S.length 0 a l = some b := b2
    rw [if_pos h, if_pos h, none_f a l ho.1, bsome, b1', spec_peOrder.F_eq, all_F a l ho.1, bsome, b2', bsome]
    exact ⟨_, rfl, rfl⟩
  · rw [if_neg h, if_neg h]
    exact ⟨_, rfl, rfl⟩
theorem FnExactIsPeelOrder : X.laws_FnExactIsPeelOrder.Pure := by
  intro a l cs w0 w1 w2
  refine Sup.rounds (laws_FnExactIsPeelOrder.F_sup a l cs) ?_
  rw [laws_FnExactIsPeelOrder.F_eq]
  rcases sz_hyper a l w1 with h | ⟨r, h, h1, h2, ho⟩
  · rw [h, bsome]; rfl
  · have hw := w2.1
    rw [h, bsome, if_neg (by omega)]
    unfold laws_szPeelStepS.f
    rw [w64 (x := r - (cs.length : Int)) (by omega) (by omega)]
    by_cases h3 : r - (cs.length : Int) < 0
    · rw [if_pos h3, bsome]; rfl
    · have hc : cs.length ≤ 1048576 := by omega
      have hs := stepsOf_len cs
      obtain ⟨q, hq1, hq2⟩ := isPeelOrder_both a l (stepsOf cs) ho (by omega)
      rw [if_neg h3, bsome, if_neg h3]
      simp only [toHyper_F a l ho, toSteps_F cs hc, bsome, hq1, hq2, eqSteps_F (stepsOf cs) (by omega), if_true, bne_self_eq_false, Bool.false_eq_true, if_false, eqHyper_F a l ho.1 ho.2.1]
end Go.Proofs.Ytlcedciocmjggaa.Pure
