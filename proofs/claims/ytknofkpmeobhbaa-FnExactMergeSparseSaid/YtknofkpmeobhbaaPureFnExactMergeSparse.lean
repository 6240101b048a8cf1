/- The plain part of the law FnExactMergeSparse: the program's and the reference's answers are the same and share nothing, for all arguments. WITH: Marks Ints SzSparse Merges -/
import Derived.Test.YtknofkpmeobhbaaXg1a
import Derived.Test.YtknofkpmeobhbaaXg1c
import Derived.Test.YtknofkpmeobhbaaXg1e
import Derived.Test.YtknofkpmeobhbaaXg1f
import Derived.Test.YtknofkpmeobhbaaXg1g
import Derived.Test.YtknofkpmeobhbaaXg1h
import Derived.Test.YtknofkpmeobhbaaXpBase
import Derived.Test.YtknofkpmeobhbaaXpSpBuild
import Derived.Test.YtknofkpmeobhbaaXpSpNumbers
import Derived.Test.YtknofkpmeobhbaaXpSpSorted
import Derived.Test.YtknofkpmeobhbaaXx0
set_option linter.unusedVariables false
set_option linter.unusedSimpArgs false
namespace Go.Proofs.Ytknofkpmeobhbaa.X
open Go.RowKit Go.Proofs.YtknofkpmeobhbaaW.PrintWords Go.Proofs.YtknofkpmeobhbaaW.PrintLast
/-- The numbers from k on, as many as the list is long. -/
def marked (n : Nat) (k : Int) : List Int := (List.range n).map fun i : Nat => k + (i : Int)
theorem marked_len (n : Nat) (k : Int) : (marked n k).length = n := by simp [marked]
theorem marked_getD (n : Nat) (k : Int) (i : Nat) (h : i < n) : (marked n k).getD i 0 = k + i := by
  unfold marked
  simp [List.getD_eq_getElem?_getD, h]
theorem mark_set (l : List Int) (k : Int) (n : Nat) (h : n < l.length) : (marked n k ++ l.drop n).set n (k + n) = marked (n + 1) k ++ l.drop (n + 1) := by
  apply List.ext_getElem?
  intro i
  rw [List.getElem?_set]
  by_cases hi : n = i
  · subst hi
    rw [if_pos rfl, if_pos (by simp [marked_len]; omega), List.getElem?_append_left (by simp [marked_len])]
    simp [marked]
  · rw [if_neg hi]
    rcases Nat.lt_or_ge i n with h1 | h1
    · rw [List.getElem?_append_left (by simpa [marked_len] using h1), List.getElem?_append_left (by simp [marked_len]; omega)]
      simp [marked, h1, show i < n + 1 from by omega]
    · rw [List.getElem?_append_right (by simpa [marked_len] using h1), List.getElem?_append_right (by simp [marked_len]; omega), marked_len, marked_len, List.getElem?_drop, List.getElem?_drop]
      congr 1
      omega
theorem mark_L (l : List Int) (k : Int) (hl : l.length ≤ 4194304) (hk : 0 ≤ k ∧ k ≤ 4194304) : ∀ d n : Nat, n + d = l.length → laws_markIntS.L0 (marked n k ++ l.drop n) (k + n) n = some (k + l.length, marked l.length k)
  | 0, n, h => by
    have : n = l.length := by omega
    subst this
    rw [laws_markIntS.L0_eq, if_neg (by simp [marked_len])]
    simp
  | d + 1, n, h => by
    rw [laws_markIntS.L0_eq, if_pos (by simp [marked_len]; omega), if_pos (by omega), Int.toNat_natCast, mark_set l k n (by omega), wn (by omega), w64 (by omega) (by omega)]
    have := mark_L l k hl hk d (n + 1) (by omega)
    rw [show k + (n : Int) + 1 = k + ((n + 1 : Nat) : Int) from by omega]
    exact this
theorem mark_F (l : List Int) (k : Int) (hl : l.length ≤ 4194304) (hk : 0 ≤ k ∧ k ≤ 4194304) : laws_markIntS.F l k = some (k + l.length, marked l.length k) := by
  rw [laws_markIntS.F_eq]
  have := mark_L l k hl hk l.length 0 (by omega)
  simpa [marked] using this
theorem held_L (m : Nat) (k : Int) (hl : m ≤ 4194304) (hk : 0 ≤ k ∧ k ≤ 4194304) : ∀ d n : Nat, n + d = m → laws_heldIntS.L0 (marked m k) (k + n) n = some (k + m)
  | 0, n, h => by
    have : n = m := by omega
    subst this
    rw [laws_heldIntS.L0_eq, if_neg (by simp [marked_len])]
  | d + 1, n, h => by
    rw [laws_heldIntS.L0_eq, if_pos (by rw [marked_len]; omega), if_pos (by omega), rdn, marked_getD m k n (by omega), if_pos rfl, wn (by omega), w64 (by omega) (by omega)]
    have := held_L m k hl hk d (n + 1) (by omega)
    rw [show k + (n : Int) + 1 = k + ((n + 1 : Nat) : Int) from by omega]
    exact this
theorem held_F (m : Nat) (k : Int) (hl : m ≤ 4194304) (hk : 0 ≤ k ∧ k ≤ 4194304) : laws_heldIntS.F (marked m k) k = some (k + m) := by
  rw [laws_heldIntS.F_eq]
  have := held_L m k hl hk m 0 (by omega)
  simpa using this
theorem szIntS_f (l : List Int) (a : Int) (hl : l.length ≤ 9223372036854775807) (h0 : 0 ≤ a) (h1 : a ≤ 1048576) :
    laws_szIntS.f l a = some (-1) ∨ (laws_szIntS.f l a = some (a - l.length) ∧ (l.length : Int) ≤ a) := by
  unfold laws_szIntS.f
  rw [w64 (by omega) (by omega)]
  by_cases h : a - (l.length : Int) < 0
  · rw [if_pos h]; exact Or.inl rfl
  · rw [if_neg h]; exact Or.inr ⟨rfl, by omega⟩
theorem toIntS_L (l : List Int) (hl : l.length ≤ 1048576) : ∀ d n : Nat, n + d = l.length → laws_toIntS.L0 l (l.take n ++ List.replicate (l.length - n) 0) n = some l
  | 0, n, h => by
    rw [laws_toIntS.L0_eq, if_neg (by omega)]
    have : n = l.length := by omega
    subst this
    simp
  | d + 1, n, h => by
    rw [laws_toIntS.L0_eq, if_pos (by omega), if_pos (by omega), if_pos (by simp; omega), rdn, Int.toNat_natCast, set_step l 0 0 n (by omega), wn (by omega)]
    exact toIntS_L l hl d (n + 1) (by omega)
theorem toIntS_F (l : List Int) (hl : l.length ≤ 1048576) : laws_toIntS.F l = some l := by
  rw [laws_toIntS.F_eq, if_pos (by omega), if_pos (by omega)]
  have := toIntS_L l hl l.length 0 (by omega)
  simpa using this
theorem eqIntS_L (l : List Int) (hl : l.length ≤ 9223372036854775807) : ∀ d n : Nat, n + d = l.length → laws_eqIntS.L0 l l n = some true
  | 0, n, h => by rw [laws_eqIntS.L0_eq, if_neg (by omega)]
  | d + 1, n, h => by
    rw [laws_eqIntS.L0_eq, if_pos (by omega), if_pos (by omega), if_pos (by omega), if_pos rfl, wn (by omega)]
    exact eqIntS_L l hl d (n + 1) (by omega)
theorem eqIntS_F (l : List Int) (hl : l.length ≤ 9223372036854775807) : laws_eqIntS.F l l = some true := by
  rw [laws_eqIntS.F_eq, if_pos rfl]
  exact eqIntS_L l hl l.length 0 (by omega)
theorem szBits_f (n : Int) (l : List Int) (a : Int) (hl : l.length ≤ 9223372036854775807) (h0 : 0 ≤ a) (h1 : a ≤ 1048576) : laws_szBits.f n l a = some (-1) ∨ (laws_szBits.f n l a = some (a - l.length) ∧ (l.length : Int) ≤ a) := by
  unfold laws_szBits.f
  rcases szIntS_f l a hl h0 h1 with h | ⟨h, hb⟩
  · left; rw [h]; rfl
  · right
    rw [h, bsome, if_neg (by omega)]
    exact ⟨rfl, hb⟩
theorem szSparse_f (n m wd nl : Int) (wl : List Int) (nh : Int) (wh : List Int) (h1 : wl.length ≤ 9223372036854775807) (h2 : wh.length ≤ 9223372036854775807) :
    laws_szSparse.f n m wd nl wl nh wh 1048576 = some (-1) ∨ ∃ t, laws_szSparse.f n m wd nl wl nh wh 1048576 = some t ∧ ¬ t < 0 ∧ wl.length ≤ 1048576 ∧ wh.length ≤ 1048576 := by
  unfold laws_szSparse.f
  rcases szBits_f nl wl 1048576 h1 (by omega) (by omega) with h | ⟨h, hb⟩
  · left; rw [h]; rfl
  · rw [h, bsome, if_neg (by omega)]
    rcases szBits_f nh wh (1048576 - wl.length) h2 (by omega) (by omega) with g | ⟨g, gb⟩
    · left; rw [g]; rfl
    · right
      rw [g, bsome, if_neg (by omega)]
      exact ⟨_, rfl, by omega, by omega, by omega⟩
theorem toSparse_F (n m wd nl : Int) (wl : List Int) (nh : Int) (wh : List Int) (h1 : wl.length ≤ 1048576) (h2 : wh.length ≤ 1048576) : laws_toSparse.F n m wd nl wl nh wh = some (n, m, wd, nl, wl, nh, wh) := by
  rw [laws_toSparse.F_eq, laws_toBits.F_eq, laws_toBits.F_eq, toIntS_F wl h1, toIntS_F wh h2]
  rfl
theorem eqSparse_F (n m wd nl : Int) (wl : List Int) (nh : Int) (wh : List Int) (h1 : wl.length ≤ 1048576) (h2 : wh.length ≤ 1048576) : laws_eqSparse.F n m wd nl wl nh wh n m wd nl wl nh wh = some true := by
  rw [laws_eqSparse.F_eq, laws_eqBits.F_eq, laws_eqBits.F_eq, eqIntS_F wl (by omega), eqIntS_F wh (by omega)]
  simp only [if_true, bsome]
theorem pw_of : ∀ {l : List Int}, (∀ i, i + 1 < l.length → l.getD i 0 ≤ l.getD (i + 1) 0) → l.Pairwise (fun a b => decide (a ≤ b) = true)
  | [], _ => List.Pairwise.nil
  | a :: l, h => by
    have ht : l.Pairwise (fun a b => decide (a ≤ b) = true) := pw_of (fun i hi => h (i + 1) (by rw [List.length_cons]; omega))
    refine List.Pairwise.cons ?_ ht
    intro b hb
    cases l with
    | nil => cases hb
    | cons c l =>
      have h0 : a ≤ c := h 0 (by rw [List.length_cons, List.length_cons]; omega)
      rcases List.mem_cons.1 hb with rfl | hb
      · exact decide_eq_true h0
      · exact decide_eq_true (Int.le_trans h0 (of_decide_eq_true (List.rel_of_pairwise_cons ht hb)))
theorem adj_of {l : List Int} (h : l.Pairwise (fun a b => decide (a ≤ b) = true)) : ∀ i, i + 1 < l.length → l.getD i 0 ≤ l.getD (i + 1) 0 := by
  intro i hi
  have := of_decide_eq_true (List.pairwise_iff_getElem.1 h i (i + 1) (by omega) hi (by omega))
  rw [List.getD_eq_getElem?_getD, List.getD_eq_getElem?_getD, List.getElem?_eq_getElem (by omega), List.getElem?_eq_getElem hi]
  exact this
def mgd (x y : List Int) : List Int := x.merge y (fun a b => decide (a ≤ b))
theorem le_tr : ∀ a b c : Int, decide (a ≤ b) = true → decide (b ≤ c) = true → decide (a ≤ c) = true := fun _ _ _ h1 h2 => decide_eq_true (Int.le_trans (of_decide_eq_true h1) (of_decide_eq_true h2))
theorem le_tot : ∀ a b : Int, (decide (a ≤ b) || decide (b ≤ a)) = true := fun a b => by
  by_cases h : a ≤ b
  · rw [decide_eq_true h, Bool.true_or]
  · rw [decide_eq_true (show b ≤ a from by omega), Bool.or_true]
theorem mgd_pw {x y : List Int} (hx : x.Pairwise (fun a b => decide (a ≤ b) = true)) (hy : y.Pairwise (fun a b => decide (a ≤ b) = true)) : (mgd x y).Pairwise (fun a b => decide (a ≤ b) = true) := List.pairwise_merge (le := fun a b => decide (a ≤ b)) le_tr le_tot _ _ hx hy
theorem sort_append {x y : List Int} (hx : x.Pairwise (fun a b => decide (a ≤ b) = true)) (hy : y.Pairwise (fun a b => decide (a ≤ b) = true)) : (x ++ y).mergeSort (fun a b => decide (a ≤ b)) = mgd x y :=
  List.Perm.eq_of_pairwise (le := fun a b => decide (a ≤ b) = true) (fun _ _ _ _ h1 h2 => Int.le_antisymm (of_decide_eq_true h1) (of_decide_eq_true h2)) (List.pairwise_mergeSort le_tr le_tot _) (mgd_pw hx hy) ((List.mergeSort_perm _ _).trans (List.merge_perm_append _).symm)
theorem dropc (x : List Int) (i : Nat) (h : i < x.length) : x.drop i = x.getD i 0 :: x.drop (i + 1) := by
  rw [List.drop_eq_getElem_cons h, List.getD_eq_getElem?_getD, List.getElem?_eq_getElem h]; rfl
theorem merge_L (x y : List Int) (hx : x.length ≤ 60) (hy : y.length ≤ 60) : ∀ (d i k : Nat), i ≤ x.length → k ≤ y.length → (x.length - i) + (y.length - k) = d → ∀ acc : List Int, acc.length = i + k →
    spec_spMerge.L0 x y acc i k = some (acc ++ mgd (x.drop i) (y.drop k))
  | 0, i, k, hi, hk, e, acc, ha => by
    rw [spec_spMerge.L0_eq, if_neg (by omega), decide_eq_false (by omega), spec_spMerge.J1_eq, if_neg (by decide), List.drop_of_length_le (by omega), List.drop_of_length_le (by omega)]
    simp [mgd]
  | d + 1, i, k, hi, hk, e, acc, ha => by
    have hJ : spec_spMerge.L0 x y acc i k = spec_spMerge.J1 x y acc i k true := by
      rw [spec_spMerge.L0_eq]
      by_cases c : (i : Int) < (x.length : Int)
      · rw [if_pos c]
      · rw [if_neg c, decide_eq_true (by omega)]
    rw [hJ, spec_spMerge.J1_eq, if_pos rfl]
    have left : i < x.length → (k = y.length ∨ k < y.length ∧ x.getD i 0 ≤ y.getD k 0) → spec_spMerge.L0 x y (acc ++ [rd x (i : Int)]) (wrap64 ((i : Int) + 1)) k = some (acc ++ mgd (x.drop i) (y.drop k)) := fun h1 h2 => by
      rw [rdn, wn (by omega), merge_L x y hx hy d (i + 1) k (by omega) hk (by omega) _ (by rw [List.length_append, List.length_singleton]; omega), dropc x i h1, List.append_assoc]
      rcases h2 with rfl | ⟨h3, h4⟩
      · rw [List.drop_of_length_le (Nat.le_refl _)]
        simp [mgd]
      · rw [dropc y k h3]
        unfold mgd
        rw [List.cons_merge_cons_pos (fun a b => decide (a ≤ b)) _ _ (decide_eq_true h4)]
        rfl
    have right : k < y.length → (i = x.length ∨ i < x.length ∧ ¬ x.getD i 0 ≤ y.getD k 0) → spec_spMerge.L0 x y (acc ++ [rd y (k : Int)]) i (wrap64 ((k : Int) + 1)) = some (acc ++ mgd (x.drop i) (y.drop k)) := fun h1 h2 => by
      rw [rdn, wn (by omega), merge_L x y hx hy d i (k + 1) hi (by omega) (by omega) _ (by rw [List.length_append, List.length_singleton]; omega), dropc y k h1, List.append_assoc]
      rcases h2 with rfl | ⟨h3, h4⟩
      · rw [List.drop_of_length_le (Nat.le_refl _)]
        simp [mgd]
      · rw [dropc x i h3]
        unfold mgd
        rw [List.cons_merge_cons_neg (fun a b => decide (a ≤ b)) _ _ (by rw [decide_eq_false h4]; decide)]
        rfl
    have hacc : acc.length < 17592186044416 := by omega
    by_cases ck : k = y.length
    · rw [if_pos (by omega), if_pos (by omega), if_pos (by omega), if_pos hacc]
      exact left (by omega) (.inl ck)
    · rw [if_neg (by omega)]
      by_cases ci : i < x.length
      · rw [if_pos (by omega), if_pos (by omega), if_pos (by omega), if_pos (by omega), rdn, rdn]
        by_cases c : x.getD i 0 ≤ y.getD k 0
        · rw [if_pos c, if_pos hacc]
          exact left ci (.inr ⟨by omega, c⟩)
        · rw [if_neg c, if_pos hacc]
          exact right (by omega) (.inr ⟨ci, c⟩)
      · rw [if_neg (by omega), if_pos (by omega), if_pos (by omega), if_pos hacc]
        exact right (by omega) (.inl (by omega))
theorem spMerge_F (x y : List Int) (hx : x.length ≤ 60) (hy : y.length ≤ 60) : spec_spMerge.F x y = some (mgd x y) := by
  rw [spec_spMerge.F_eq]
  have := merge_L x y hx hy _ 0 0 (by omega) (by omega) rfl [] rfl
  rw [List.drop_zero, List.drop_zero, List.nil_append] at this
  exact this
theorem concat_F (x y : List Int) (hx : x.length ≤ 60) (hy : y.length ≤ 60) : slices_Concat_int_int.F [x, y] = some (x ++ y) := by
  have r0 : rd_L2 [x, y] 0 = x := rfl
  have r1 : rd_L2 [x, y] 1 = y := rfl
  have w1 : wrap64 (0 + 1) = 1 := by unfold wrap64; omega
  have w2 : wrap64 (1 + 1) = 2 := by unfold wrap64; omega
  have s1 : wrap64 (0 + (x.length : Int)) = (x.length : Int) := by rw [w64 (by omega) (by omega)]; omega
  have s2 : wrap64 ((x.length : Int) + (y.length : Int)) = (x.length : Int) + (y.length : Int) := w64 (by omega) (by omega)
  have hl : (([x, y] : List (List Int)).length : Int) = 2 := rfl
  have g : slices_Grow_int_int__nil.f ((x.length : Int) + (y.length : Int)) = some [] := by
    unfold slices_Grow_int_int__nil.f
    rw [if_pos (by omega), if_pos (by omega)]
  have e1 : slices_Concat_int_int.L0 [x, y] 0 [x, y] 2 0 = slices_Concat_int_int.L0 [x, y] x.length [x, y] 2 1 := by
    rw [slices_Concat_int_int.L0_eq, if_pos (by decide), if_pos (by decide), hl, if_pos (by decide), r0, s1, if_neg (by omega), w1]
  have e2 : slices_Concat_int_int.L0 [x, y] x.length [x, y] 2 1 = slices_Concat_int_int.L0 [x, y] ((x.length : Int) + (y.length : Int)) [x, y] 2 2 := by
    rw [slices_Concat_int_int.L0_eq, if_pos (by decide), if_pos (by decide), hl, if_pos (by decide), r1, s2, if_neg (by omega), w2]
  have e3 : slices_Concat_int_int.L0 [x, y] ((x.length : Int) + (y.length : Int)) [x, y] 2 2 = slices_Concat_int_int.L1 [] [x, y] 2 0 := by
    rw [slices_Concat_int_int.L0_eq, if_neg (by decide), g, bsome, hl]
  have e4 : slices_Concat_int_int.L1 [] [x, y] 2 0 = slices_Concat_int_int.L1 x [x, y] 2 1 := by
    rw [slices_Concat_int_int.L1_eq, if_pos (by decide), if_pos (by decide), hl, if_pos (by decide), r0, if_pos (by rw [List.length_nil]; omega), w1, List.nil_append]
  have e5 : slices_Concat_int_int.L1 x [x, y] 2 1 = slices_Concat_int_int.L1 (x ++ y) [x, y] 2 2 := by
    rw [slices_Concat_int_int.L1_eq, if_pos (by decide), if_pos (by decide), hl, if_pos (by decide), r1, if_pos (by omega), w2]
  rw [slices_Concat_int_int.F_eq, hl, e1, e2, e3, e4, e5, slices_Concat_int_int.L1_eq, if_neg (by decide)]
theorem mem_facts {l : List Int} {m v : Int} (h : SortedFacts l m) (hv : v ∈ l) : 0 ≤ v ∧ v ≤ m - 1 := by
  obtain ⟨i, hi, rfl⟩ := List.mem_iff_getElem.1 hv
  have := h.2.2.1 i hi
  rw [List.getD_eq_getElem?_getD, List.getElem?_eq_getElem hi] at this
  exact this
theorem merge_facts {x y : List Int} {m m2 : Int} (hx : SortedFacts x m) (hy : SortedFacts y m2) (hl : x.length + y.length ≤ 60) : SortedFacts (mgd x y) (mx m m2) := by
  have h1 := hx.1
  have h2 := hy.1
  have hm : m ≤ mx m m2 ∧ m2 ≤ mx m m2 ∧ mx m m2 ≤ 100000 := by unfold mx; split <;> omega
  refine ⟨⟨by omega, hm.2.2⟩, by unfold mgd; rw [List.length_merge]; exact hl, fun i hi => ?_, adj_of (mgd_pw (pw_of hx.2.2.2) (pw_of hy.2.2.2))⟩
  have hv : (mgd x y).getD i 0 ∈ mgd x y := getD_mem _ 0 i hi
  generalize (mgd x y).getD i 0 = v at hv ⊢
  unfold mgd at hv
  rcases List.mem_merge.1 hv with h | h
  · have := mem_facts hx h; omega
  · have := mem_facts hy h; omega
end Go.Proofs.Ytknofkpmeobhbaa.X
namespace Go.Proofs.Ytknofkpmeobhbaa.Pure
open Go.RowKit Go.Proofs.Ytknofkpmeobhbaa.X Go.Proofs.YtknofkpmeobhbaaW.PrintWords Go.Proofs.YtknofkpmeobhbaaW.PrintLast
theorem szSparse_g (n m wd nl : Int) (wl : List Int) (nh : Int) (wh : List Int) (a : Int) (h1 : wl.length ≤ 9223372036854775807) (h2 : wh.length ≤ 9223372036854775807) (ha : 0 ≤ a) (hb : a ≤ 1048576) :
    laws_szSparse.f n m wd nl wl nh wh a = some (-1) ∨ ∃ t, laws_szSparse.f n m wd nl wl nh wh a = some t ∧ (0 ≤ t ∧ t ≤ 1048576) ∧ wl.length ≤ 1048576 ∧ wh.length ≤ 1048576 ∧ (wl.length : Int) + wh.length ≤ a := by
  unfold laws_szSparse.f
  rcases szBits_f nl wl a h1 (by omega) (by omega) with h | ⟨h, hb⟩
  · left; rw [h]; rfl
  · rw [h, bsome, if_neg (by omega)]
    rcases szBits_f nh wh (a - wl.length) h2 (by omega) (by omega) with g | ⟨g, gb⟩
    · left; rw [g]; rfl
    · right
      rw [g, bsome, if_neg (by omega)]
      exact ⟨_, rfl, ⟨by omega, by omega⟩, by omega, by omega, by omega⟩
theorem merge_both (n m wd nl : Int) (wl : List Int) (nh : Int) (wh : List Int) (n2 m2 wd2 nl2 : Int) (wl2 : List Int) (nh2 : Int) (wh2 : List Int) (h1 : wl.length ≤ 1048576) (h2 : wh.length ≤ 1048576) (h3 : wl2.length ≤ 1048576) (h4 : wh2.length ≤ 1048576) :
    ∃ (x y z d : Int) (u : List Int) (e : Int) (v : List Int) (ok : Bool), spec_MergeSparse.F n m wd nl wl nh wh n2 m2 wd2 nl2 wl2 nh2 wh2 = some (x, y, z, d, u, e, v, ok) ∧ impl_MergeSparse.F n m wd nl wl nh wh n2 m2 wd2 nl2 wl2 nh2 wh2 = some (x, y, z, d, u, e, v, ok) ∧ u.length ≤ 262144 ∧ v.length ≤ 262144 := by
  obtain ⟨g1, l, s1, s2, s3, s4⟩ := numbers_all n m wd nl wl nh wh h1 h2
  obtain ⟨g2, y, t1, t2, t3, t4⟩ := numbers_all n2 m2 wd2 nl2 wl2 nh2 wh2 h3 h4
  have bad : spec_MergeSparse.J0 true n m wd nl wl nh wh n2 m2 wd2 nl2 wl2 nh2 wh2 = some (0, 0, 0, 0, [], 0, [], false) := by rw [spec_MergeSparse.J0_eq, if_pos rfl]
  have hc := concat_F l y s4 t4
  have hs : slices_Sort_int_int.f (l ++ y) = some ((l ++ y).mergeSort fun x y => decide (x ≤ y)) := by
    unfold slices_Sort_int_int.f
    rw [if_pos (by rw [List.length_append]; omega)]
  rw [spec_MergeSparse.F_eq, impl_MergeSparse.F_eq, impl_twoLists.F_eq, s1, s2, t1, t2, bsome, bsome, bsome, bsome, bad]
  cases g1 with
  | false =>
    refine ⟨0, 0, 0, 0, [], 0, [], false, rfl, ?_, by simp, by simp⟩
    simp only [Bool.false_eq_true, if_false, bsome, hc, hs]
  | true =>
    cases g2 with
    | false =>
      refine ⟨0, 0, 0, 0, [], 0, [], false, rfl, ?_, by simp, by simp⟩
      simp only [Bool.false_eq_true, if_true, if_false, bsome, hc, hs]
    | true =>
      obtain ⟨q1, q2, q3⟩ := s3 rfl
      obtain ⟨u1, u2, u3⟩ := t3 rfl
      have hw : wrap64 (n + n2) = n + n2 := w64 (by omega) (by omega)
      have hlen : ((l ++ y).length : Int) = n + n2 := by rw [List.length_append]; omega
      simp only [if_true, bsome, hc, hs, hw, hlen]
      by_cases hb : n + n2 > 60
      · rw [decide_eq_true hb, bad, if_pos hb]
        exact ⟨0, 0, 0, 0, [], 0, [], false, rfl, rfl, by simp, by simp⟩
      · obtain ⟨w, ul, uh, _, _, k1, k2, k3, k4⟩ := build_both _ _ (merge_facts q2 u2 (by omega))
        have hm : spec_l1Most.f m m2 = some (mx m m2) := by
          unfold spec_l1Most.f mx
          by_cases c : m > m2
          · rw [if_pos c, if_neg (by omega)]
          · rw [if_neg c]
            by_cases c2 : m < m2
            · rw [if_pos c2]
            · rw [if_neg c2, show m2 = m from by omega]
        rw [decide_eq_false hb, if_neg hb, spec_MergeSparse.J0_eq, if_neg (by decide), q1, bsome, u1, bsome, spMerge_F l y s4 t4, bsome, hm, bsome, k1, bsome, sort_append (pw_of q2.2.2.2) (pw_of u2.2.2.2), k2, bsome]
        exact ⟨_, _, _, _, _, _, _, _, rfl, rfl, Nat.le_trans k3 (by decide), k4⟩
theorem FnExactMergeSparse : X.laws_FnExactMergeSparse.Pure := by
  intro n m wd nl wl nh wh n2 m2 wd2 nl2 wl2 nh2 wh2 w0 w1 w2 w3 w4 w5 w6 v0 v1 v2 v3 v4 v5 v6
  refine Sup.rounds (laws_FnExactMergeSparse.F_sup n m wd nl wl nh wh n2 m2 wd2 nl2 wl2 nh2 wh2) ?_
  rw [laws_FnExactMergeSparse.F_eq]
  rcases szSparse_g n m wd nl wl nh wh 1048576 w4.1 w6.1 (by omega) (by omega) with h | ⟨t, h, ht, h1, h2, hs⟩
  · rw [h, bsome]; rfl
  · rw [h, bsome, if_neg (by omega)]
    rcases szSparse_g n2 m2 wd2 nl2 wl2 nh2 wh2 t v4.1 v6.1 (by omega) (by omega) with g | ⟨t2, g, ht2, h3, h4, hs2⟩
    · rw [g, bsome]; rfl
    · obtain ⟨x, y, z, d, u, e, v, ok, e1, e2, e3, e4⟩ := merge_both n m wd nl wl nh wh n2 m2 wd2 nl2 wl2 nh2 wh2 h1 h2 h3 h4
      rw [g, bsome, if_neg (by omega)]
      have n1 : ¬ (1 : Int) + (u.length : Int) < 0 := by omega
      have n4 : ¬ (1 : Int) + (u.length : Int) + (v.length : Int) < 0 := by omega
      have n2_ : ¬ (1 : Int) + (wl.length : Int) + (wh.length : Int) < 0 := by omega
      have n3 : ¬ (1 : Int) + (wl.length : Int) + (wh.length : Int) + (wl2.length : Int) + (wh2.length : Int) < 0 := by omega
      simp only [toSparse_F n m wd nl wl nh wh h1 h2, toSparse_F n2 m2 wd2 nl2 wl2 nh2 wh2 h3 h4, bsome, e1, e2, bne_self_eq_false, Bool.false_eq_true, if_false, if_true, eqSparse_F n m wd nl wl nh wh h1 h2, eqSparse_F n2 m2 wd2 nl2 wl2 nh2 wh2 h3 h4, eqSparse_F x y z d u e v (Nat.le_trans e3 (by decide)) (Nat.le_trans e4 (by decide)), laws_markSparse.F_eq, laws_markBits.F_eq, mark_F wl 1 (by omega) (by omega), mark_F wh (1 + wl.length) (by omega) (by omega), if_neg n2_, mark_F wl2 (1 + wl.length + wh.length) (by omega) (by omega), mark_F wh2 (1 + wl.length + wh.length + wl2.length) (by omega) (by omega), if_neg n3, mark_F u 1 (by omega) (by omega), mark_F v (1 + u.length) (by omega) (by omega), laws_heldSparse.F_eq, laws_heldBits.F_eq, held_F u.length 1 (by omega) (by omega), if_neg n1, held_F v.length (1 + u.length) (by omega) (by omega), if_neg n4]
end Go.Proofs.Ytknofkpmeobhbaa.Pure
