/- The plain part of the law FnSparseIsItsList: a set that is built of drawn numbers is read back as these, and tells of each where it stands. WITH: DrawSorted PSame SpRound -/
import Derived.Test.YtcgakiihochafaaXg1a
import Derived.Test.YtcgakiihochafaaXg1b
import Derived.Test.YtcgakiihochafaaXg1c
import Derived.Test.YtcgakiihochafaaXg1d
import Derived.Test.YtcgakiihochafaaXg1e
import Derived.Test.YtcgakiihochafaaXg1f
import Derived.Test.YtcgakiihochafaaXg1wP
import Derived.Test.YtcgakiihochafaaXpBase
import Derived.Test.YtcgakiihochafaaXpBelow
import Derived.Test.YtcgakiihochafaaXpBitAt
import Derived.Test.YtcgakiihochafaaXpBitNat
import Derived.Test.YtcgakiihochafaaXpBitReps
import Derived.Test.YtcgakiihochafaaXpBitsGood
import Derived.Test.YtcgakiihochafaaXpDraws
import Derived.Test.YtcgakiihochafaaXpFld
import Derived.Test.YtcgakiihochafaaXpSpBuild
import Derived.Test.YtcgakiihochafaaXpSpMarks
import Derived.Test.YtcgakiihochafaaXpSpRead
import Derived.Test.YtcgakiihochafaaXpSpSorted
import Derived.Test.YtcgakiihochafaaXpSpWidth
import Derived.Test.YtcgakiihochafaaXpWithin
set_option linter.unusedVariables false
set_option linter.unusedSimpArgs false
namespace Go.Proofs.Ytcgakiihochafaa.X
open Go.RowKit Go.Proofs.YtcgakiihochafaaW.PrintWords Go.Proofs.YtcgakiihochafaaW.PrintLast
theorem own_S (z : List Int) (h : z.length ≤ 1000) : spec_l1Own.f z = some z := by
  unfold spec_l1Own.f
  rw [bsome, if_pos (by simp; omega), List.nil_append]
theorem sorted1_t (l : List Int) (m : Int) (x6 x7 a s : Int) : ∀ (d x8 : Nat) (x5 : List Int), x8 + d = x5.length → x5.length ≤ 62 → ∃ y : List Int, spec_l1Cur_sorted.L1 m x5 x6 x7 x8 l a s = spec_l1Cur_sorted.L0 m y (wrap64 (x6 - 1)) l a s ∧ y.length = x5.length + 1
  | 0, x8, x5, h, hl => by
    rw [spec_l1Cur_sorted.L1_eq, if_neg (by omega), if_pos (by omega), if_pos (by omega), Int.toNat_natCast, own_S _ (by rw [List.length_take]; omega)]
    simp only [bsome]
    rw [if_pos (by simp [List.length_take]; omega), if_pos (by simp [List.length_take, List.length_drop]; omega)]
    exact ⟨_, rfl, by simp [List.length_take, List.length_drop]; omega⟩
  | d + 1, x8, x5, h, hl => by
    rw [spec_l1Cur_sorted.L1_eq, if_pos (by omega), if_pos (by omega)]
    by_cases c : rd x5 x8 ≤ x7
    · rw [if_pos c, wn (by omega)]
      exact sorted1_t l m x6 x7 a s d (x8 + 1) x5 (by omega) hl
    · rw [if_neg c, if_pos (by omega), Int.toNat_natCast, own_S _ (by rw [List.length_take]; omega)]
      simp only [bsome]
      rw [if_pos (by simp [List.length_take]; omega), if_pos (by simp [List.length_take, List.length_drop]; omega)]
      exact ⟨_, rfl, by simp [List.length_take, List.length_drop]; omega⟩
theorem sorted0_t (l : List Int) (hl : Bytes l) (m : Int) : ∀ (n : Nat) (x5 : List Int) (a s : Int), x5.length + n ≤ 61 → 0 ≤ a → a + 2 * n ≤ 100000000 → ∃ (r : List Int) (a' s' : Int), spec_l1Cur_sorted.L0 m x5 n l a s = some (r, a', s') ∧ r.length ≤ 61
  | 0, x5, a, s, h, h0, h1 => by
    obtain ⟨b, a1, s1, e, q0, q1⟩ := one_t l hl a s 12 h0 (by omega)
    have e0 : spec_l1Cur_sorted.J3 m x5 false l a1 s1 = some (x5, a1, s1) := by rw [spec_l1Cur_sorted.J3_eq, if_neg (by decide)]
    rw [spec_l1Cur_sorted.L0_eq, if_neg (by omega), e, bsome]
    simp only
    cases b with
    | false => rw [if_neg (by decide), e0]; exact ⟨_, _, _, rfl, by omega⟩
    | true =>
      rw [if_pos rfl]
      by_cases c : (x5.length : Int) > 0
      · rw [decide_eq_true c, spec_l1Cur_sorted.J3_eq, if_pos rfl]
        obtain ⟨p, a2, s2, e2, p0, p1, r0, r1⟩ := pick_t l hl a1 s1 (x5.length : Int) q0 (by omega)
        obtain ⟨x, a3, s3, e3, _⟩ := among_t l hl a2 s2 [-1, 0, m, wrap64 (m - 1)] (by simp) r0 (by omega)
        rw [e2, bsome]
        simp only
        rw [e3, bsome]
        simp only
        rw [if_pos p0, if_pos (by omega)]
        exact ⟨_, _, _, rfl, by rw [List.length_set]; omega⟩
      · rw [decide_eq_false c, e0]; exact ⟨_, _, _, rfl, by omega⟩
  | n + 1, x5, a, s, h, h0, h1 => by
    obtain ⟨t, ht⟩ : ∃ t, spec_l1Most.f m 1 = some t := by unfold spec_l1Most.f; split <;> exact ⟨_, rfl⟩
    obtain ⟨p, a1, s1, e, p0, p1, q0, q1⟩ := pick_t l hl a s t h0 (by omega)
    obtain ⟨y, e2, hy⟩ := sorted1_t l m ((n + 1 : Nat) : Int) p a1 s1 x5.length 0 x5 (by omega) (by omega)
    rw [spec_l1Cur_sorted.L0_eq, if_pos (by omega), ht, bsome, e, bsome]
    simp only
    rw [show ((0 : Nat) : Int) = 0 from rfl] at e2
    rw [e2, wp (by omega)]
    exact sorted0_t l hl m n y a1 s1 (by omega) q0 (by omega)
theorem sorted_t (l : List Int) (hl : Bytes l) (m a s : Int) (h0 : 0 ≤ a) (h1 : a ≤ 1000) : ∃ (r : List Int) (a' s' : Int), spec_l1Cur_sorted.F l a s m = some (r, a', s') ∧ r.length ≤ 61 := by
  obtain ⟨p, a1, s1, e, p0, p1, q0, q1⟩ := pick_t l hl a s 9 h0 (by omega)
  obtain ⟨b, a2, s2, e2, r0, r1⟩ := one_t l hl a1 s1 24 q0 (by omega)
  obtain ⟨n, rfl⟩ := Int.eq_ofNat_of_zero_le p0
  rw [spec_l1Cur_sorted.F_eq, e, bsome]
  simp only
  rw [e2, bsome]
  simp only
  cases b with
  | true =>
    obtain ⟨p', a3, s3, e3, t0, t1, u0, u1⟩ := pick_t l hl a2 s2 2 r0 (by omega)
    obtain ⟨k, rfl⟩ := Int.eq_ofNat_of_zero_le t0
    rw [if_pos rfl, e3, bsome, spec_l1Cur_sorted.J0_eq, w64 (x := 60 + (k : Int)) (by omega) (by omega)]
    have := sorted0_t l hl m (60 + k) [] a3 s3 (by simp; omega) u0 (by omega)
    rw [show (((60 + k : Nat) : Int)) = 60 + (k : Int) from by omega] at this
    exact this
  | false =>
    rw [if_neg (by decide), spec_l1Cur_sorted.J0_eq]
    exact sorted0_t l hl m n [] a2 s2 (by simp; omega) r0 (by omega)
theorem limit_t (l : List Int) (hl : Bytes l) : ∃ m a s : Int, spec_l1Cur_limit.f l 0 0 = some (m, a, s) ∧ 0 ≤ a ∧ a ≤ 4 := by
  obtain ⟨p, a1, s1, e, p0, p1, q0, q1⟩ := pick_t l hl 0 0 8 (by omega) (by omega)
  unfold spec_l1Cur_limit.f
  rw [e, bsome]
  simp only
  by_cases c : p = 0
  · obtain ⟨x, a2, s2, e2, _, r0, r1⟩ := among_t l hl a1 s1 [-1, 0, 1, 2, 100000, 100001] (by simp) q0 (by omega)
    rw [if_pos c, e2, bsome]
    exact ⟨_, _, _, rfl, r0, by simp only; omega⟩
  · rw [if_neg c]
    by_cases c1 : p = 1
    · obtain ⟨x, a2, s2, e2, _, _, r0, r1⟩ := pick_t l hl a1 s1 100000 q0 (by omega)
      rw [if_pos c1, e2, bsome]
      exact ⟨_, _, _, rfl, r0, by simp only; omega⟩
    · obtain ⟨x, a2, s2, e2, _, _, r0, r1⟩ := pick_t l hl a1 s1 150 q0 (by omega)
      rw [if_neg c1, e2, bsome]
      exact ⟨_, _, _, rfl, r0, by simp only; omega⟩
theorem drawSparse_t (l : List Int) (hl : Bytes l) : ∃ (r : List Int) (m : Int), spec_DrawBuildSparse.F l = some (r, m) ∧ r.length ≤ 61 := by
  obtain ⟨m, a, s, e, h0, h1⟩ := limit_t l hl
  obtain ⟨r, a', s', e2, hr⟩ := sorted_t l hl m a s h0 (by omega)
  rw [spec_DrawBuildSparse.F_eq, e, bsome]
  simp only
  rw [e2, bsome]
  exact ⟨_, _, rfl, hr⟩
theorem pSameA_L (l : List Int) (hl : l.length ≤ 1048576) : ∀ d n : Nat, n + d = l.length → laws_pSameInts.L0 l l l.length n = some true
  | 0, n, h => by rw [laws_pSameInts.L0_eq, if_neg (by omega)]
  | d + 1, n, h => by
    rw [laws_pSameInts.L0_eq, if_pos (by omega), if_pos (by omega), if_pos (by omega), if_pos (by omega), if_pos rfl, wn (by omega)]
    exact pSameA_L l hl d (n + 1) (by omega)
theorem pSameA_F (l : List Int) (hl : l.length ≤ 1048576) : laws_pSameInts.F l l = some true := by
  rw [laws_pSameInts.F_eq, if_pos rfl]
  exact pSameA_L l hl l.length 0 (by omega)
theorem valS_eq (i len w L : Nat) (h : len ≤ i) (hi : i ≤ 4096) (hw : w ≤ 16) (hL : L < 2 ^ w) :
    Go.bits .or .i64 (shl .i64 (wrap64 ((i : Int) - (len : Int))) (w : Int)) (L : Int) = (((i - len) * 2 ^ w + L : Nat) : Int) := by
  have e : wrap64 ((i : Int) - (len : Int)) = ((i - len : Nat) : Int) := by rw [w64 (by omega) (by omega)]; omega
  have h1 : 2 ^ w ≤ 2 ^ 16 := Nat.pow_le_pow_right (by omega) hw
  have h16 : 2 ^ 16 = 65536 := by decide
  have hq : (i - len) * 2 ^ w ≤ 4096 * 65536 := Nat.mul_le_mul (by omega) (by omega)
  have h62 : 2 ^ 62 = 4611686018427387904 := by decide
  have e2 := shlN (i - len) w (by omega) (by omega)
  have e3 := Nat.two_pow_add_eq_or_of_lt hL (i - len)
  rw [e, e2]
  generalize hQ : (i - len) * 2 ^ w = Q at *
  rw [Nat.mul_comm, hQ] at e3
  rw [orN Q L (by omega) (by omega), ← e3]
theorem sortedP_L (l : List Int) (m : Int) (hf : SortedFacts l m) : ∀ d n : Nat, n + d = l.length → impl_sortedOk.L0 l m l l.length n = some true
  | 0, n, h => by
    rw [impl_sortedOk.L0_eq, if_neg (by omega), limitOk_f, bsome, if_pos (decide_eq_true hf.1), decide_eq_true (by have := hf.2.1; omega)]
  | d + 1, n, h => by
    have hm := hf.1
    have hl := hf.2.1
    have h1 := hf.2.2.1 n (by omega)
    have ih := sortedP_L l m hf d (n + 1) (by omega)
    have e3 : wrap64 (m - 1) = m - 1 := w64 (by omega) (by omega)
    rw [impl_sortedOk.L0_eq, if_pos (by omega), if_pos (by omega), if_pos (by omega), in_f, bsome, rdn, wn (by omega), e3, if_pos (decide_eq_true h1)]
    by_cases h2 : n = 0
    · rw [if_neg (by omega)]; exact ih
    · have e2 : wrap64 ((n : Int) - 1) = ((n - 1 : Nat) : Int) := by rw [w64 (by omega) (by omega)]; omega
      have h3 := hf.2.2.2 (n - 1) (by omega)
      rw [show n - 1 + 1 = n from by omega] at h3
      rw [if_pos (by omega), e2, if_pos (by omega), if_pos (by omega), rdn, if_neg (by omega)]
      exact ih
theorem sortedP (l : List Int) (m : Int) (hf : SortedFacts l m) : impl_sortedOk.F l m = some true := by
  rw [impl_sortedOk.F_eq]
  exact sortedP_L l m hf l.length 0 (by omega)
theorem div16_lt {j Z len : Nat} (h : (len : Int) = ((Z : Int) + 15) / 16) (hj : j < Z) : j / 16 < len := by omega
theorem equalP_L (a b : List Int) (h : a.length = b.length) (hl : a.length ≤ 1048576) (he : a = b) : ∀ d n : Nat, n + d = a.length → slices_Equal_int_int.L0 a b a.length n = some true
  | 0, n, hn => by rw [slices_Equal_int_int.L0_eq, if_neg (by omega)]
  | d + 1, n, hn => by
    rw [slices_Equal_int_int.L0_eq, if_pos (by omega), if_pos (by omega), if_pos (by omega), if_pos (by omega), if_pos (by rw [he]), wn (by omega)]
    exact equalP_L a b h hl he d (n + 1) (by omega)
theorem sameP_F (n : Int) (a : List Int) (hl : a.length ≤ 1048576) : impl_sameBits.F n a n a = some true := by
  have h : slices_Equal_int_int.L0 a a a.length 0 = some true := equalP_L a a rfl hl rfl a.length 0 (by omega)
  rw [impl_sameBits.F_eq, if_pos rfl, slices_Equal_int_int.F_eq, if_pos rfl, h]
  rfl
theorem hiAt_lt (l : List Int) (m : Int) (w : Nat) (hf : SortedFacts l m) : ∀ d p : Nat, p + d < l.length → hiAt l w p + d ≤ hiAt l w (p + d)
  | 0, p, h => Nat.le_refl _
  | d + 1, p, h => by
    have ih := hiAt_lt l m w hf d p (by omega)
    have h1 := hf.2.2.2 (p + d) (by omega)
    have h2 : (l.getD (p + d) 0).toNat / 2 ^ w ≤ (l.getD (p + d + 1) 0).toNat / 2 ^ w := Nat.div_le_div_right (by omega)
    unfold hiAt at *
    rw [← Nat.add_assoc p d 1]
    omega
section
variable (l : List Int) (m : Int) (w NH : Nat) (nl : Int) (wl wh : List Int) (hf : SortedFacts l m) (hw : w ≤ 16) (hN : NH ≤ 4096) (hL : Words wl) (hH : Words wh) (hl : ∀ j, j < l.length * w → j / 16 < wl.length) (hh : ∀ j, j < NH → j / 16 < wh.length)
  (iL : ∀ q j, q < l.length → j < w → bitAt wl (q * w + j) = ((l.getD q 0).toNat % 2 ^ w).testBit j) (iH : ∀ i, i < NH → (bitAt wh i = true ↔ ∃ q, q < l.length ∧ i = hiAt l w q)) (hT : ∀ q, q < l.length → hiAt l w q < NH)
include hf hw hN hL hH hl hh iL iH hT in
theorem readBack_L : ∀ (d i q : Nat), i + d = NH → q ≤ l.length → q ≤ i → (∀ p, p < q → hiAt l w p < i) → (∀ p, q ≤ p → p < l.length → i ≤ hiAt l w p) →
    impl_Sparse_numbers.L0 w (l.take q) NH i l.length m w nl wl NH wh = impl_Sparse_numbers.L0 w l NH NH l.length m w nl wl NH wh
  | 0, i, q, h, hq, hqi, h1, h2 => by
    have hi : i = NH := by omega
    subst hi
    have : q = l.length := by
      rcases Nat.lt_or_ge q l.length with c | c
      · have := h2 q (Nat.le_refl _) c
        have := hT q c
        omega
      · omega
    rw [this, List.take_length]
  | d + 1, i, q, h, hq, hqi, h1, h2 => by
    have hi : i < NH := by omega
    have hiI : (i : Int) < (NH : Int) := by omega
    have hl60 := hf.2.1
    have e5 := bitsAt5_F l.length m w nl wl NH wh i hH (hh i hi) (by omega)
    have hwn : wrap64 ((i : Int) + 1) = ((i + 1 : Nat) : Int) := wn (by omega)
    have hql : (l.take q).length = q := by rw [List.length_take]; omega
    by_cases c : q < l.length ∧ hiAt l w q = i
    · obtain ⟨c, ci⟩ := c
      have hv := (iH i hi).2 ⟨q, c, ci.symm⟩
      have hcI : ((l.take q).length : Int) < (l.length : Int) := by omega
      have hb : q * w + w ≤ l.length * w := by
        have : (q + 1) * w ≤ l.length * w := Nat.mul_le_mul_right w c
        rwa [Nat.add_mul, Nat.one_mul] at this
      have hb2 : l.length * w ≤ 60 * 16 := Nat.mul_le_mul hl60 hw
      have hp : ∀ j, j < w → (q * w + j) / 16 < wl.length := fun j hj => hl _ (Nat.lt_of_lt_of_le (Nat.add_lt_add_left hj _) hb)
      have f2 := bitsField3_F l.length m w nl wl NH wh (q * w) w hL hp (Nat.lt_of_le_of_lt (Nat.le_trans hb hb2) (by decide)) (Nat.le_trans hw (by decide))
      have e1 : wrap64 ((q : Int) * (w : Int)) = ((q * w : Nat) : Int) := by
        rw [(Int.natCast_mul q w).symm]
        exact w64n (Nat.le_trans (Nat.le_trans (Nat.le_add_right _ _) hb) (Nat.le_trans hb2 (by decide)))
      have hfld : fld (fun j => bitAt wl (q * w + j)) w = (l.getD q 0).toNat % 2 ^ w := by
        rw [fldS_same _ (fun j => ((l.getD q 0).toNat % 2 ^ w).testBit j) w (fun j hj => iL q j c hj), fldS_bits, Nat.mod_mod]
      have v2 := valS_eq i q w ((l.getD q 0).toNat % 2 ^ w) hqi (by omega) hw (Nat.mod_lt _ (Nat.two_pow_pos w))
      have hval : (((i - q) * 2 ^ w + (l.getD q 0).toNat % 2 ^ w : Nat) : Int) = l.getD q 0 := by
        have h0 := (hf.2.2.1 q c).1
        have e2 : i - q = (l.getD q 0).toNat / 2 ^ w := by
          rw [← ci]; exact Nat.add_sub_cancel _ _
        rw [e2, Nat.div_add_mod']
        omega
      have hw0 : (0 : Int) ≤ (w : Int) := Int.natCast_nonneg _
      rw [impl_Sparse_numbers.L0_eq, if_pos hiI, e5, bsome, hv, if_pos rfl, if_pos hcI, if_pos hw0, hql, e1, f2, bsome, if_pos (by omega), hfld, v2, hwn, hval, ← take_succ_getD l 0 q c]
      refine readBack_L d (i + 1) (q + 1) (by omega) (by omega) (by omega) (fun p hp => ?_) (fun p hp hp2 => ?_)
      · by_cases cp : p = q
        · subst cp; omega
        · have := h1 p (by omega); omega
      · have := hiAt_lt l m w hf (p - q) q (by omega)
        rw [show q + (p - q) = p from by omega] at this
        omega
    · have hv : bitAt wh i = false := by
        cases hb : bitAt wh i with
        | false => rfl
        | true =>
          exfalso
          obtain ⟨p, hp, e⟩ := (iH i hi).1 hb
          rcases Nat.lt_or_ge p q with cp | cp
          · have := h1 p cp; omega
          · have h3 := h2 q (Nat.le_refl _) (by omega)
            have h4 := hiAt_lt l m w hf (p - q) q (by omega)
            rw [show q + (p - q) = p from by omega] at h4
            exact c ⟨by omega, by omega⟩
      rw [impl_Sparse_numbers.L0_eq, if_pos hiI, e5, bsome, hv, if_neg (by decide), hwn]
      refine readBack_L d (i + 1) q (by omega) hq (by omega) (fun p hp => by have := h1 p hp; omega) (fun p hp hp2 => ?_)
      have h3 := h2 p hp hp2
      rcases Nat.lt_or_ge i (hiAt l w p) with h4 | h4
      · omega
      · exfalso
        have h5 := hiAt_lt l m w hf (p - q) q (by omega)
        rw [show q + (p - q) = p from by omega] at h5
        have h6 := h2 q (Nat.le_refl _) (by omega)
        exact c ⟨by omega, by omega⟩
end
/-- The set that is built of sorted numbers, and what the program reads in it. -/
theorem round_trip (l : List Int) (m : Int) (hf : SortedFacts l m) : ∃ (w : Nat) (ul uh : List Int), w ≤ 16 ∧ (m - 1) / 2 ^ w + 1 ≤ 2 * (max l.length 1 : Nat) ∧
    spec_spOf.F l m = some ((l.length : Int), m, (w : Int), ((l.length * w : Nat) : Int), ul, (l.length : Int) + (m - 1) / 2 ^ w + 1, uh) ∧
    impl_sparse.F l m = some ((l.length : Int), m, (w : Int), ((l.length * w : Nat) : Int), ul, (l.length : Int) + (m - 1) / 2 ^ w + 1, uh) ∧ ul.length ≤ 1000 ∧ uh.length ≤ 262144 ∧
    impl_Sparse_numbers.F l.length m w ((l.length * w : Nat) : Int) ul ((l.length : Int) + (m - 1) / 2 ^ w + 1) uh = some (l, true) := by
  obtain ⟨w, ul, uh, hw, h1, h2, h3, h4, h5⟩ := build_both l m hf
  have hlen := hf.2.1
  have hm := hf.1
  have hmax := widthMax l.length m w hlen hm h1
  refine ⟨w, ul, uh, hw, hmax, h2, h3, h4, h5, ?_⟩
  have hb : l.length * w ≤ 60 * 16 := Nat.mul_le_mul hlen hw
  have hq1 : 0 ≤ (m - 1) / 2 ^ w := Int.ediv_nonneg (by omega) (by exact_mod_cast Nat.zero_le _)
  obtain ⟨NH, hNH⟩ := Int.eq_ofNat_of_zero_le (a := (l.length : Int) + (m - 1) / 2 ^ w + 1) (by omega)
  have hN : NH ≤ 4096 := by omega
  have e1 : wrap64 ((l.length : Int) * (w : Int)) = ((l.length * w : Nat) : Int) := by
    rw [(Int.natCast_mul l.length w).symm, w64 (by omega) (by omega)]
  have e2 : shr .i64 (wrap64 (m - 1)) (w : Int) = (m - 1) / 2 ^ w := by
    rw [w64 (by omega) (by omega)]
    obtain ⟨q, hq⟩ := Int.eq_ofNat_of_zero_le (a := m - 1) (by omega)
    rw [hq, shrN q w (by omega)]
    simp
  have e3 : wrap64 (wrap64 ((l.length : Int) + (m - 1) / 2 ^ w) + 1) = (NH : Int) := by
    rw [w64 (x := (l.length : Int) + (m - 1) / 2 ^ w) (by omega) (by omega), w64 (by omega) (by omega), hNH]
  obtain ⟨y6, y7, ul', uh', g1, r6, r7, l6, l7, i6, i7⟩ := spOf_L l m w hw hf NH hNH.symm l.length 0 (List.replicate (l.length * w) false) (List.replicate NH false) (Nat.zero_add _) (by simp) (by simp) (fun q j hq => absurd hq (Nat.not_lt_zero q))
    (fun i hi => by rw [rep_false]; exact ⟨fun h => (by cases h), fun ⟨q, hq, _⟩ => absurd hq (Nat.not_lt_zero q)⟩)
  have hS : spec_spOf.F l m = some ((l.length : Int), m, (w : Int), ((l.length * w : Nat) : Int), ul', (NH : Int), uh') := by
    rw [spec_spOf.F_eq, h1, bsome, e1, if_pos (by omega), if_pos (by omega), if_pos (by omega), e2, e3, if_pos (by omega), if_pos (by omega), Int.toNat_natCast, Int.toNat_natCast]
    exact g1
  have hE := h2.symm.trans hS
  simp only [Option.some.injEq, Prod.mk.injEq, true_and] at hE
  obtain ⟨rfl, _, rfl⟩ := hE
  rw [hNH] at h3 ⊢
  have G1 := good_rep r6 (by rw [l6]; exact Nat.le_trans hb (by decide))
  have G2 := good_rep r7 (by rw [l7]; exact hN)
  rw [l6] at G1
  rw [l7] at G2
  obtain ⟨a1, a2, a3⟩ := goodB_facts G1
  obtain ⟨b1, b2, b3⟩ := goodB_facts G2
  have hl : ∀ j, j < l.length * w → j / 16 < ul.length := fun j hj => div16_lt a2 hj
  have hh : ∀ j, j < NH → j / 16 < uh.length := fun j hj => div16_lt b2 hj
  have hT : ∀ q, q < l.length → hiAt l w q < NH := fun q hq => by
    obtain ⟨v, hv, _, _, _, hp, _⟩ := step_facts l m w hw hf NH hNH.symm q hq
    unfold hiAt
    rw [hv, Int.toNat_natCast]
    exact hp
  have hwd : impl_WidthFor.F (l.length : Int) m = some ((w : Int), true) := by
    obtain ⟨r, s1, s2, s3⟩ := width_both (l.length : Int) m (by omega) hm
    have : (r : Int) = (w : Int) := Option.some.inj (s1.symm.trans h1)
    rw [s2, this]
  have ek : wrap64 ((w : Int) * (l.length : Int)) = ((l.length * w : Nat) : Int) := by
    rw [(Int.natCast_mul w l.length).symm, Nat.mul_comm]
    exact w64n (Nat.le_trans hb (by decide))
  have hu1 : ul.length ≤ 1048576 := Nat.le_trans h4 (by decide)
  have hu2 : uh.length ≤ 1048576 := Nat.le_trans h5 (by decide)
  have hread := readBack_L l m w NH ((l.length * w : Nat) : Int) ul uh hf hw hN a3 b3 hl hh
    (fun q j hq hj => by
      have hx : q * w + j < l.length * w := by
        have : (q + 1) * w ≤ l.length * w := Nat.mul_le_mul_right w hq
        rw [Nat.add_mul, Nat.one_mul] at this
        exact Nat.lt_of_lt_of_le (Nat.add_lt_add_left hj _) this
      rw [bitAt_rep r6 _ (by rw [l6]; exact hx)]
      exact i6 q j hq hj)
    (fun i hi => by rw [bitAt_rep r7 _ (by rw [l7]; exact hi)]; exact i7 i hi) hT NH 0 0 (Nat.zero_add _) (Nat.zero_le _) (Nat.le_refl _) (fun p hp => absurd hp (Nat.not_lt_zero p)) (fun p _ _ => Nat.zero_le _)
  rw [impl_Sparse_numbers.F_eq, hwd, bsome, if_pos rfl, if_pos rfl, isBits_F _ ul hu1, isBits_F _ uh hu2, bsome, bsome, if_pos G1, if_pos G2, ek, impl_Sparse_numbers.J0_eq, if_neg (by simp)]
  rw [List.take_zero, show ((0 : Nat) : Int) = 0 from rfl] at hread
  rw [hread, impl_Sparse_numbers.L0_eq, if_neg (Int.lt_irrefl _), if_pos rfl, sortedP l m hf, bsome, Bool.not_true, impl_Sparse_numbers.J2_eq, if_neg (by decide), h3, bsome]
  simp only
  rw [sameP_F _ ul hu1, bsome, if_pos rfl, sameP_F _ uh hu2]
  rfl
end Go.Proofs.Ytcgakiihochafaa.X
namespace Go.Proofs.Ytcgakiihochafaa.Pure
open Go.RowKit Go.Proofs.Ytcgakiihochafaa.X Go.Proofs.YtcgakiihochafaaW.PrintWords Go.Proofs.YtcgakiihochafaaW.PrintLast
theorem belowP (l : List Int) (m v : Int) (hf : SortedFacts l m) : ∃ c : Nat, impl_below.F l v = some (c : Int) ∧ c ≤ l.length ∧ (∀ k, k < c → l.getD k 0 < v) ∧ ∀ k, c ≤ k → k < l.length → v ≤ l.getD k 0 := by
  obtain ⟨c, b, e, hc, g1, g2⟩ := search_L l v hf.2.1 hf.2.2.2 l.length 0 l.length (by omega) (by omega) (by omega) (fun k hk => by omega) (fun k hk hk2 => by omega)
  refine ⟨c, ?_, hc, g1, g2⟩
  rw [impl_below.F_eq, slices_BinarySearch_int_int.F_eq]
  rw [show ((0 : Nat) : Int) = 0 from rfl] at e
  rw [e]
  rfl
theorem monoP (l : List Int) (m : Int) (hf : SortedFacts l m) (i j : Nat) (h : i ≤ j) (hj : j < l.length) : l.getD i 0 ≤ l.getD j 0 := by
  have := mono_of l hf.2.2.2 (j - i) i (by omega)
  rwa [show i + (j - i) = j from by omega] at this
theorem wrapE (e : Nat) (h0 : 0 < e) (h : e ≤ 100) : wrap64 (((e - 1 : Nat) : Int) + 1) = (e : Int) := by rw [w64 (by omega) (by omega)]; omega
theorem wrapC (c : Nat) (h0 : 0 < c) (h : c ≤ 100) : wrap64 ((c : Int) - 1) = ((c - 1 : Nat) : Int) := by rw [w64 (by omega) (by omega)]; omega
section
variable (l : List Int) (m : Int) (hf : SortedFacts l m) (wd nl : Int) (wl : List Int) (nh : Int) (wh : List Int) (hr : impl_Sparse_numbers.F l.length m wd nl wl nh wh = some (l, true))
include hf hr in
theorem loop_L : ∀ d i : Nat, i + d = l.length → laws_FnSparseIsItsList.L0 l l l.length i l.length m wd nl wl nh wh = some true
  | 0, i, h => by rw [laws_FnSparseIsItsList.L0_eq, if_neg (by omega)]
  | d + 1, i, h => by
    have ih := loop_L d (i + 1) (by omega)
    have hi : i < l.length := by omega
    have hl60 := hf.2.1
    have hm := hf.1
    have hx := hf.2.2.1 i hi
    obtain ⟨x, hxe⟩ : ∃ x, l.getD i 0 = x := ⟨_, rfl⟩
    rw [hxe] at hx
    obtain ⟨c, c1, c2, c3, c4⟩ := belowP l m x hf
    obtain ⟨e, e1, e2, e3, e4⟩ := belowP l m (x + 1) hf
    have hci : c ≤ i := by
      rcases Nat.lt_or_ge i c with h1 | h1
      · have := c3 i h1; omega
      · exact h1
    have hei : i < e := by
      rcases Nat.lt_or_ge i e with h1 | h1
      · exact h1
      · have := e4 i h1 hi; omega
    have hcx : l.getD c 0 = x := by
      have h1 := c4 c (Nat.le_refl _) (by omega)
      have h2 := monoP l m hf c i hci hi
      omega
    have hex : l.getD (e - 1) 0 = x := by
      have h1 := e3 (e - 1) (by omega)
      have h2 := monoP l m hf i (e - 1) (by omega) (by omega)
      omega
    have s1 : impl_SparseAt.F l.length m wd nl wl nh wh i = some (x, true) := by
      rw [impl_SparseAt.F_eq, hr, bsome]
      dsimp only
      rw [if_pos rfl, in_f, bsome, w64 (x := (l.length : Int) - 1) (by omega) (by omega), if_pos (decide_eq_true (by omega)), if_pos (by omega), if_pos (by omega), rdn, hxe]
    have s2 : impl_CountBelow.F l.length m wd nl wl nh wh x = some ((c : Int), true) := by
      rw [impl_CountBelow.F_eq, hr, bsome]
      dsimp only
      rw [if_pos rfl, in_f, bsome, if_pos (decide_eq_true (by omega)), c1, bsome]
    have s3 : impl_LastAtMost.F l.length m wd nl wl nh wh x = some (((e - 1 : Nat) : Int), true) := by
      rw [impl_LastAtMost.F_eq, hr, bsome]
      dsimp only
      rw [if_pos rfl, in_f, bsome, w64 (x := m - 1) (by omega) (by omega), if_pos (decide_eq_true (by omega)), w64 (x := x + 1) (by omega) (by omega), e1, bsome, if_neg (by omega), bsome, w64 (x := (e : Int) - 1) (by omega) (by omega), show (e : Int) - 1 = ((e - 1 : Nat) : Int) from by omega]
    have s4 : impl_FirstAtLeast.F l.length m wd nl wl nh wh x = some ((c : Int), true) := by
      rw [impl_FirstAtLeast.F_eq, hr, bsome]
      dsimp only
      rw [if_pos rfl, in_f, bsome, w64 (x := m - 1) (by omega) (by omega), if_pos (decide_eq_true (by omega)), c1, bsome, if_neg (by omega), bsome]
    have tail : (if (wrap64 (((e - 1 : Nat) : Int) + 1)) < (l.length : Int) then (if 0 ≤ (wrap64 (((e - 1 : Nat) : Int) + 1)) then (if (rd l (wrap64 (((e - 1 : Nat) : Int) + 1))) = x then (none) else (laws_FnSparseIsItsList.L0 l l l.length (wrap64 ((i : Int) + 1)) l.length m wd nl wl nh wh)) else (none)) else (laws_FnSparseIsItsList.L0 l l l.length (wrap64 ((i : Int) + 1)) l.length m wd nl wl nh wh)) = some true := by
      rw [wrapE e (by omega) (by omega), wn (by omega), ih]
      by_cases h1 : (e : Int) < (l.length : Int)
      · have h2 := e4 e (Nat.le_refl _) (by omega)
        rw [if_pos h1, if_pos (by omega), rdn, if_neg (by omega)]
      · rw [if_neg h1]
    rw [laws_FnSparseIsItsList.L0_eq, if_pos (by omega), if_pos (by omega), if_pos (by omega), rdn, hxe, s1, s2, s3, s4]
    clear s1 s2 s3 s4
    simp only [bsome, if_true]
    rw [if_neg (by omega), if_neg (by omega), if_pos (by omega), if_pos (by omega), rdn, hcx, if_pos rfl, if_pos (by omega), if_pos (by omega), rdn, hex, if_pos rfl, tail]
    by_cases h1 : (c : Int) > 0
    · have h2 := c3 (c - 1) (by omega)
      rw [if_pos h1, wrapC c (by omega) (by omega), if_pos (by omega), if_pos (by omega), rdn, if_neg (by omega)]
    · rw [if_neg h1]
end
theorem bits_few (n w : Nat) (A : Int) (hn : 0 < n) (h60 : n ≤ 60) (hw : w ≤ 16) (hA : 0 ≤ A) (h : A + 1 ≤ 2 * (max n 1 : Nat)) : ¬ wrap64 (((n * w : Nat) : Int) + ((n : Int) + A + 1)) > wrap64 ((n : Int) * wrap64 ((w : Int) + 3)) := by
  have hb : n * w ≤ 60 * 16 := Nat.mul_le_mul h60 hw
  have e : wrap64 ((w : Int) + 3) = ((w + 3 : Nat) : Int) := by rw [w64 (by omega) (by omega)]; omega
  have e2 : (n : Int) * ((w + 3 : Nat) : Int) = ((n * w : Nat) : Int) + 3 * (n : Int) := by
    rw [← Int.natCast_mul, Nat.mul_add]; omega
  have h3 : (max n 1 : Nat) = n := by omega
  rw [h3] at h
  rw [e, e2]
  generalize n * w = Z at *
  rw [w64 (by omega) (by omega), w64 (by omega) (by omega)]
  omega
theorem FnSparseIsItsList : X.laws_FnSparseIsItsList.Pure := by
  intro l0 l1 w0 w1
  refine Sup.rounds (laws_FnSparseIsItsList.F_sup l0 l1) ?_
  rw [laws_FnSparseIsItsList.F_eq]
  unfold laws_big.f
  by_cases h : (l0.length : Int) > 1048576
  · rw [if_pos h, bsome, if_pos rfl]
  · rw [if_neg h, bsome]
    by_cases h2 : (l1.length : Int) > wrap64 (1048576 - (l0.length : Int))
    · rw [if_pos (decide_eq_true h2)]
    · rw [w64 (by omega) (by omega)] at h2
      rw [w64 (by omega) (by omega), if_neg (by rw [decide_eq_false h2]; simp)]
      have hB : Bytes l0 := ⟨by omega, fun i hi => wfI_u8 (w0.2 _ (getD_mem l0 0 i hi))⟩
      obtain ⟨l, m, e1, hl⟩ := drawSparse_t l0 hB
      have pB : ∀ (n : Int) (u : List Int), u.length ≤ 1048576 → laws_pSameBits.F n u n u = some true := fun n u hu => by rw [laws_pSameBits.F_eq, if_pos rfl, pSameA_F u hu, bsome]
      have pS : ∀ (a b c d : Int) (u : List Int) (f : Int) (v : List Int), u.length ≤ 1048576 → v.length ≤ 1048576 → laws_pSameSparse.F a b c d u f v a b c d u f v = some true := fun a b c d u f v hu hv => by
        rw [laws_pSameSparse.F_eq, if_pos rfl, if_pos rfl, if_pos rfl, pB d u hu, bsome, if_pos rfl, pB f v hv, bsome]
      obtain ⟨b, t1, t2, t3⟩ := sorted_both l m (by omega)
      rw [e1, bsome]
      cases b with
      | false =>
        have g1 : impl_BuildSparse.F l m = some (0, 0, 0, 0, [], 0, [], false) := by rw [impl_BuildSparse.F_eq, t2]; rfl
        have g2 : spec_BuildSparse.F l m = some (0, 0, 0, 0, [], 0, [], false) := by rw [spec_BuildSparse.F_eq, t1]; rfl
        simp only [g1, g2, bsome, bne_self_eq_false, Bool.false_eq_true, if_false, pS 0 0 0 0 [] 0 [] (by simp) (by simp), if_true]
      | true =>
        have hf := t3 rfl
        obtain ⟨w, ul, uh, hw, hmax, h3, h4, h5, h6, hr⟩ := round_trip l m hf
        have hq1 : 0 ≤ (m - 1) / 2 ^ w := Int.ediv_nonneg (by have := hf.1.1; omega) (by exact_mod_cast Nat.zero_le _)
        obtain ⟨A, hA⟩ : ∃ A, (m - 1) / 2 ^ w = A := ⟨_, rfl⟩
        rw [hA] at hmax h3 h4 hr hq1
        clear hA
        have hu1 : ul.length ≤ 1048576 := Nat.le_trans h5 (by decide)
        have hu2 : uh.length ≤ 1048576 := Nat.le_trans h6 (by decide)
        have g1 : impl_BuildSparse.F l m = some ((l.length : Int), m, (w : Int), ((l.length * w : Nat) : Int), ul, (l.length : Int) + A + 1, uh, true) := by rw [impl_BuildSparse.F_eq, t2, bsome, if_pos rfl, h4]; rfl
        have g2 : spec_BuildSparse.F l m = some ((l.length : Int), m, (w : Int), ((l.length * w : Nat) : Int), ul, (l.length : Int) + A + 1, uh, true) := by rw [spec_BuildSparse.F_eq, t1, bsome, if_pos rfl, h3]; rfl
        have g3 : impl_SparseList.F l.length m w ((l.length * w : Nat) : Int) ul ((l.length : Int) + A + 1) uh = some (l, true) := by rw [impl_SparseList.F_eq, hr, bsome, if_pos rfl]
        have g4 : impl_SparseBits.F l.length m w ((l.length * w : Nat) : Int) ul ((l.length : Int) + A + 1) uh = some (wrap64 (((l.length * w : Nat) : Int) + ((l.length : Int) + A + 1)), true) := by rw [impl_SparseBits.F_eq, impl_IsSparse.F_eq, hr, bsome, bsome, if_pos rfl]
        have hloop := loop_L l m hf w ((l.length * w : Nat) : Int) ul ((l.length : Int) + A + 1) uh hr l.length 0 (Nat.zero_add _)
        rw [show ((0 : Nat) : Int) = 0 from rfl] at hloop
        simp only [g1, g2, bsome, bne_self_eq_false, Bool.false_eq_true, if_false, pS _ _ _ _ ul _ uh hu1 hu2, if_true, g3, g4, pSameA_F l (Nat.le_trans hl (by decide)), hloop]
        by_cases c1 : (l.length : Int) > 0
        · rw [if_pos c1]
          by_cases c2 : (l.length : Int) ≤ m
          · rw [if_pos c2, if_neg (bits_few l.length w A (by omega) hf.2.1 hw hq1 hmax)]
          · rw [if_neg c2]
        · rw [if_neg c1]
end Go.Proofs.Ytcgakiihochafaa.Pure
