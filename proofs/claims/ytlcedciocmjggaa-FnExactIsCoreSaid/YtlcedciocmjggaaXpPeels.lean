/- Places that one edge alone has, the first edge with a place, what is left behind a step: the program's way and the reference's tell the same. -/
import Derived.Test.YtlcedciocmjggaaXg3c00a
import Derived.Test.YtlcedciocmjggaaXg3e00a
import Derived.Test.YtlcedciocmjggaaXg3e04a
import Derived.Test.YtlcedciocmjggaaXpBase
import Derived.Test.YtlcedciocmjggaaXpContains
import Derived.Test.YtlcedciocmjggaaXpDegrees
import Derived.Test.YtlcedciocmjggaaXpHasF
import Derived.Test.YtlcedciocmjggaaXpRowEq
import Derived.Test.YtlcedciocmjggaaXx0
namespace Go.Proofs.Ytlcedciocmjggaa.X
open Go.RowKit Go.Proofs.YtlcedciocmjggaaW.PrintWords Go.Proofs.YtlcedciocmjggaaW.PrintLast
set_option linter.unusedVariables false
set_option linter.unusedSimpArgs false
def frees (D : List Int) : Nat → Nat → List Int
  | 0, _ => []
  | d + 1, n => if D.getD n 0 = 1 then (n : Int) :: frees D d (n + 1) else frees D d (n + 1)
theorem frees_succ (D : List Int) (d n : Nat) : frees D (d + 1) n = if D.getD n 0 = 1 then (n : Int) :: frees D d (n + 1) else frees D d (n + 1) := rfl
theorem mem_frees (D : List Int) (x : Int) : ∀ d n, x ∈ frees D d n ↔ ∃ q : Nat, x = q ∧ n ≤ q ∧ q < n + d ∧ D.getD q 0 = 1
  | 0, n => by
    constructor
    · intro h; cases h
    · rintro ⟨q, _, h1, h2, _⟩; omega
  | d + 1, n => by
    rw [frees_succ]
    by_cases h : D.getD n 0 = 1
    · rw [if_pos h, List.mem_cons, mem_frees D x d (n + 1)]
      constructor
      · rintro (rfl | ⟨q, h1, h2, h3, h4⟩)
        · exact ⟨n, rfl, by omega, by omega, h⟩
        · exact ⟨q, h1, by omega, by omega, h4⟩
      · rintro ⟨q, h1, h2, h3, h4⟩
        rcases Nat.lt_or_ge n q with h5 | h5
        · exact Or.inr ⟨q, h1, by omega, by omega, h4⟩
        · left; omega
    · rw [if_neg h, mem_frees D x d (n + 1)]
      constructor
      · rintro ⟨q, h1, h2, h3, h4⟩; exact ⟨q, h1, by omega, by omega, h4⟩
      · rintro ⟨q, h1, h2, h3, h4⟩
        refine ⟨q, h1, ?_, by omega, h4⟩
        rcases Nat.lt_or_ge n q with h5 | h5
        · omega
        · obtain rfl : q = n := by omega
          exact absurd h4 h
theorem frees_len (D : List Int) : ∀ d n, (frees D d n).length ≤ d
  | 0, n => by simp [frees]
  | d + 1, n => by
    rw [frees_succ]
    have := frees_len D d (n + 1)
    split
    · simp only [List.length_cons]; omega
    · omega
def freeL (l : List (List Int)) (P : Int) (is : List Int) : List Int := frees (degs l P is) P.toNat 0
theorem singles_L (D : List Int) (hD : D.length ≤ 1000) : ∀ (d n : Nat) (acc : List Int), n + d = D.length → acc.length ≤ n → impl_Hyper_singles.L0 acc D D.length n = some (acc ++ frees D d n)
  | 0, n, acc, h, ha => by rw [impl_Hyper_singles.L0_eq, if_neg (by omega)]; simp [frees]
  | d + 1, n, acc, h, ha => by
    rw [impl_Hyper_singles.L0_eq, if_pos (by omega), if_pos (by omega), if_pos (by omega), rdn, frees_succ]
    by_cases h1 : D.getD n 0 = 1
    · rw [if_pos h1, if_pos h1, if_pos (by omega), wn (by omega), singles_L D hD d (n + 1) _ (by omega) (by simp; omega), List.append_assoc]
      rfl
    · rw [if_neg h1, if_neg h1, wn (by omega), singles_L D hD d (n + 1) _ (by omega) (by omega)]
theorem peFree_L (D : List Int) (hD : D.length ≤ 1000) : ∀ (d n : Nat) (acc : List Int), n + d = D.length → acc.length ≤ n → spec_peFree.L0 acc D D.length n = some (acc ++ frees D d n)
  | 0, n, acc, h, ha => by rw [spec_peFree.L0_eq, if_neg (by omega)]; simp [frees]
  | d + 1, n, acc, h, ha => by
    rw [spec_peFree.L0_eq, if_pos (by omega), if_pos (by omega), if_pos (by omega), rdn, frees_succ]
    by_cases h1 : D.getD n 0 = 1
    · rw [if_pos h1, if_pos h1, if_pos (by omega), wn (by omega), peFree_L D hD d (n + 1) _ (by omega) (by simp; omega), List.append_assoc]
      rfl
    · rw [if_neg h1, if_neg h1, wn (by omega), peFree_L D hD d (n + 1) _ (by omega) (by omega)]
theorem degs_len {P : Int} {l : List (List Int)} (ho : HyOk P l) (is : List Int) (his : ∀ j ∈ is, 0 ≤ j ∧ j < l.length) : (degs l P is).length = P.toNat := by
  have := (degs_bd ho is his).1
  omega
theorem singles_F {P : Int} (g : List Bool) (l : List (List Int)) (hg : g.length = l.length) (ho : HyOk P l) : impl_Hyper_singles.F P l g = some (freeL l P (lefts g)) := by
  have h1 := ho.1
  have hl := degs_len ho (lefts g) (lefts_fit hg)
  rw [impl_Hyper_singles.F_eq, deg_impl g l hg ho, bsome]
  have := singles_L (degs l P (lefts g)) (by omega) P.toNat 0 [] (by omega) (by simp)
  exact this
theorem free_F {P : Int} (is : List Int) (l : List (List Int)) (hi : is.length ≤ 1000) (his : ∀ j ∈ is, 0 ≤ j ∧ j < l.length) (ho : HyOk P l) : spec_peFree.F P l is = some (freeL l P is) := by
  have h1 := ho.1
  have hl := degs_len ho is his
  rw [spec_peFree.F_eq, deg_spec is l hi his ho, bsome]
  have := peFree_L (degs l P is) (by omega) P.toNat 0 [] (by omega) (by simp)
  exact this
theorem left_L (g : List Bool) (hg : g.length ≤ 1048576) : ∀ (d n : Nat) (acc : List Int), n + d = g.length → acc.length ≤ n → impl_left.L0 acc g g.length n = some (acc ++ idxs g d n)
  | 0, n, acc, h, ha => by rw [impl_left.L0_eq, if_neg (by omega)]; simp [idxs]
  | d + 1, n, acc, h, ha => by
    rw [impl_left.L0_eq, if_pos (by omega), if_pos (by omega), if_pos (by omega), rdOfn, idxs_succ]
    by_cases h1 : g.getD n false = true
    · rw [if_pos h1, if_pos h1, wn (by omega), left_L g hg d (n + 1) _ (by omega) (by omega)]
    · rw [if_neg h1, if_neg h1, if_pos (by omega), wn (by omega), left_L g hg d (n + 1) _ (by omega) (by simp; omega), List.append_assoc]
      rfl
theorem left_F (g : List Bool) (hg : g.length ≤ 1048576) : impl_left.F g = some (lefts g) := by
  rw [impl_left.F_eq]
  have := left_L g hg g.length 0 [] (by omega) (by simp)
  exact this
theorem drop_L (l : List Int) (a : Int) (hl : l.length ≤ 1048576) : ∀ (d n : Nat) (acc : List Int), n + d = l.length → acc.length ≤ n → spec_l1Drop.L0 a acc l l.length n = some (acc ++ (l.drop n).filter (fun x => decide (x ≠ a)))
  | 0, n, acc, h, ha => by rw [spec_l1Drop.L0_eq, if_neg (by omega), List.drop_eq_nil_of_le (by omega)]; simp
  | d + 1, n, acc, h, ha => by
    rw [spec_l1Drop.L0_eq, if_pos (by omega), if_pos (by omega), if_pos (by omega), rdn, drop_getD l 0 n (by omega), List.filter_cons]
    by_cases h1 : l.getD n 0 = a
    · rw [if_pos h1, wn (by omega), drop_L l a hl d (n + 1) _ (by omega) (by omega), if_neg (by simpa using h1)]
    · rw [if_neg h1, if_pos (by omega), wn (by omega), drop_L l a hl d (n + 1) _ (by omega) (by simp; omega), if_pos (by simpa using h1), List.append_assoc]
      rfl
theorem drop_F (l : List Int) (a : Int) (hl : l.length ≤ 1048576) : spec_l1Drop.F l a = some (l.filter (fun x => decide (x ≠ a))) := by
  rw [spec_l1Drop.F_eq]
  have := drop_L l a hl l.length 0 [] (by omega) (by simp)
  rw [List.drop_zero] at this
  exact this
theorem idxs_set (g : List Bool) (r : Nat) (hr : r < g.length) : ∀ d n, idxs (g.set r true) d n = (idxs g d n).filter (fun x => decide (x ≠ (r : Int)))
  | 0, n => rfl
  | d + 1, n => by
    rw [idxs_succ, idxs_succ, idxs_set g r hr d (n + 1)]
    by_cases h : r = n
    · subst h
      rw [getD_set_self _ _ _ _ hr, if_pos rfl]
      split
      · rfl
      · rw [List.filter_cons, if_neg (by simp)]
    · rw [getD_set_ne _ _ _ _ _ h]
      split
      · rfl
      · rw [List.filter_cons, if_pos (by simp; omega)]
theorem lefts_set (g : List Bool) (r : Int) (h0 : 0 ≤ r) (hr : r < g.length) : lefts (g.set r.toNat true) = (lefts g).filter (fun x => decide (x ≠ r)) := by
  unfold lefts
  rw [List.length_set, idxs_set g r.toNat (by omega)]
  rw [show ((r.toNat : Nat) : Int) = r from by omega]
theorem filter_less (l : List Int) (r : Int) (h : r ∈ l) : (l.filter (fun x => decide (x ≠ r))).length < l.length := by
  rw [List.length_filter_lt_length_iff_exists]
  exact ⟨r, h, by simp⟩
def hasP (l : List (List Int)) (p : Int) (i : Int) : Bool := decide (p ∈ l.getD i.toNat [])
theorem with_L {P : Int} (p : Int) (is : List Int) (l : List (List Int)) (Q : Int) (hi : is.length ≤ 1000) (his : ∀ j ∈ is, 0 ≤ j ∧ j < l.length) (ho : HyOk P l) : ∀ d n : Nat, n + d = is.length → spec_peWith.L0 p is is.length n Q l = some (((is.drop n).find? (hasP l p)).getD (-1))
  | 0, n, h => by rw [spec_peWith.L0_eq, if_neg (by omega), List.drop_eq_nil_of_le (by omega)]; rfl
  | d + 1, n, h => by
    have hj := his _ (getD_mem is 0 n (by omega))
    have h3 := (ho.edge (is.getD n 0).toNat (by omega)).1
    rw [spec_peWith.L0_eq, if_pos (by omega), if_pos (by omega), if_pos (by omega), rdn, if_pos hj.1, if_pos hj.2, show rd_L1 l (is.getD n 0) = l.getD (is.getD n 0).toNat [] from rfl, has_F _ _ (by omega), bsome, drop_getD is 0 n (by omega), List.find?_cons, wn (by omega), with_L p is l Q hi his ho d (n + 1) (by omega)]
    show _ = some (Option.getD (match hasP l p (is.getD n 0) with | true => _ | false => _) _)
    unfold hasP
    by_cases h1 : p ∈ l.getD (is.getD n 0).toNat []
    · rw [if_pos (by simpa using h1), decide_eq_true h1]; rfl
    · rw [if_neg (by simpa using h1), decide_eq_false h1]
theorem with_F {P : Int} (p : Int) (is : List Int) (l : List (List Int)) (hi : is.length ≤ 1000) (his : ∀ j ∈ is, 0 ≤ j ∧ j < l.length) (ho : HyOk P l) : spec_peWith.F P l is p = some ((is.find? (hasP l p)).getD (-1)) := by
  rw [spec_peWith.F_eq]
  have := with_L p is l P hi his ho is.length 0 (by omega)
  rw [List.drop_zero] at this
  exact this
theorem edgeAt_L {P : Int} (p : Int) (g : List Bool) (l : List (List Int)) (Q : Int) (hg : g.length = l.length) (ho : HyOk P l) (r : Int) : ∀ d n : Nat, n + d = g.length → (idxs g d n).find? (hasP l p) = some r → impl_Hyper_edgeAt.L0 g p n Q l = some r
  | 0, n, h, hf => by cases hf
  | d + 1, n, h, hf => by
    have hl := ho.2.1
    have h3 := (ho.edge n (by omega)).1
    rw [impl_Hyper_edgeAt.L0_eq, if_pos (by omega), if_pos (by omega), rdOfn]
    rw [idxs_succ] at hf
    by_cases h1 : g.getD n false = true
    · rw [if_pos h1] at hf ⊢
      rw [wn (by omega)]
      exact edgeAt_L p g l Q hg ho r d (n + 1) (by omega) hf
    · rw [if_neg h1] at hf ⊢
      rw [if_pos (by omega), rdr, contains_F _ _ (by omega), bsome]
      rw [List.find?_cons] at hf
      unfold hasP at hf
      rw [Int.toNat_natCast] at hf
      by_cases h2 : p ∈ l.getD n []
      · rw [if_pos (by simpa using h2)]
        rw [decide_eq_true h2] at hf
        exact hf
      · rw [if_neg (by simpa using h2), wn (by omega)]
        rw [decide_eq_false h2] at hf
        exact edgeAt_L p g l Q hg ho r d (n + 1) (by omega) hf
theorem edgeAt_F {P : Int} (p : Int) (g : List Bool) (l : List (List Int)) (hg : g.length = l.length) (ho : HyOk P l) (r : Int) (hf : (lefts g).find? (hasP l p) = some r) : impl_Hyper_edgeAt.F P l g p = some r := by
  rw [impl_Hyper_edgeAt.F_eq]
  exact edgeAt_L p g l P hg ho r g.length 0 (by omega) hf
/-- How often a place is counted. -/
def cnt (l : List (List Int)) (q : Nat) (is : List Int) : Nat := (is.map fun i => (l.getD i.toNat []).count (q : Int)).sum
theorem bumps_getD (q : Nat) : ∀ (e D : List Int), (∀ p ∈ e, 0 ≤ p ∧ p < (D.length : Int)) → (bumps D e).getD q 0 = D.getD q 0 + (e.count (q : Int) : Int)
  | [], D, _ => by simp [bumps]
  | p :: e, D, h => by
    have h1 := h p (List.mem_cons_self)
    have e2 : bumps D (p :: e) = bumps (bump D p) e := rfl
    have hl : (bump D p).length = D.length := by unfold bump; rw [List.length_set]
    rw [e2, bumps_getD q e (bump D p) (fun x hx => by rw [hl]; exact h x (List.mem_cons_of_mem _ hx)), bump_getD D p q h1.1 h1.2, List.count_cons]
    by_cases hp : p = (q : Int)
    · rw [if_pos hp, if_pos (by simpa using hp)]; omega
    · rw [if_neg hp, if_neg (by simpa using hp)]; omega
theorem degL_getD {P : Int} {l : List (List Int)} (ho : HyOk P l) (q : Nat) : ∀ (is D : List Int), (D.length : Int) = P → (∀ j ∈ is, 0 ≤ j ∧ j < l.length) → (degL l D is).getD q 0 = D.getD q 0 + (cnt l q is : Int)
  | [], D, _, _ => by simp [degL, cnt]
  | j :: is, D, hD, h => by
    have h1 := h j (List.mem_cons_self)
    have h2 := (ho.edge j.toNat (by omega)).2
    have e2 : degL l D (j :: is) = degL l (bumps D (l.getD j.toNat [])) is := rfl
    have hb : ∀ (e D : List Int), (bumps D e).length = D.length := by
      intro e
      induction e with
      | nil => intro D; rfl
      | cons a e ih => intro D; rw [show bumps D (a :: e) = bumps (bump D a) e from rfl, ih]; unfold bump; rw [List.length_set]
    rw [e2, degL_getD ho q is _ (by rw [hb]; exact hD) (fun x hx => h x (List.mem_cons_of_mem _ hx)), bumps_getD q _ D (by rw [hD]; exact h2)]
    unfold cnt
    simp only [List.map_cons, List.sum_cons]
    omega
theorem degs_getD {P : Int} {l : List (List Int)} (ho : HyOk P l) (is : List Int) (his : ∀ j ∈ is, 0 ≤ j ∧ j < l.length) (q : Nat) : (degs l P is).getD q 0 = (cnt l q is : Int) := by
  have h1 := ho.1
  unfold degs
  rw [degL_getD ho q is _ (by rw [List.length_replicate]; omega) his, List.getD_eq_getElem?_getD, List.getElem?_replicate]
  split <;> simp
theorem cnt_pos (l : List (List Int)) (q : Nat) : ∀ is : List Int, 0 < cnt l q is → ∃ i ∈ is, (q : Int) ∈ l.getD i.toNat []
  | [], h => by simp [cnt] at h
  | j :: is, h => by
    unfold cnt at h
    simp only [List.map_cons, List.sum_cons] at h
    by_cases h1 : (q : Int) ∈ l.getD j.toNat []
    · exact ⟨j, List.mem_cons_self, h1⟩
    · rw [List.count_eq_zero.2 h1, Nat.zero_add] at h
      obtain ⟨i, hi, hq⟩ := cnt_pos l q is h
      exact ⟨i, List.mem_cons_of_mem _ hi, hq⟩
theorem free_mem {P : Int} {l : List (List Int)} (ho : HyOk P l) (is : List Int) (his : ∀ j ∈ is, 0 ≤ j ∧ j < l.length) {p : Int} (h : p ∈ freeL l P is) : 0 ≤ p ∧ p < P ∧ cnt l p.toNat is = 1 ∧ ∃ r, is.find? (hasP l p) = some r ∧ r ∈ is := by
  have h1 := ho.1
  obtain ⟨q, rfl, _, h2, h3⟩ := (mem_frees _ p _ _).1 h
  rw [degs_getD ho is his q] at h3
  obtain ⟨i, hi, hq⟩ := cnt_pos l q is (by omega)
  refine ⟨by omega, by omega, by rw [Int.toNat_natCast]; omega, ?_⟩
  have hs : ∃ x ∈ is, hasP l (q : Int) x = true := ⟨i, hi, by unfold hasP; simpa using hq⟩
  have := List.find?_isSome.2 hs
  obtain ⟨r, hr⟩ := Option.isSome_iff_exists.1 this
  exact ⟨r, hr, List.mem_of_find?_eq_some hr⟩
theorem freeL_len {P : Int} {l : List (List Int)} (is : List Int) : (freeL l P is).length ≤ P.toNat := frees_len _ _ _
end Go.Proofs.Ytlcedciocmjggaa.X
