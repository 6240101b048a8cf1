/- The plain part of the law FnExactMeetSparse: the program's and the reference's answers are the same and share nothing, for all arguments. WITH: SzSparse Meets HasF -/
import Derived.Test.YtcjhnpbehkfknaaXg1a
import Derived.Test.YtcjhnpbehkfknaaXg1b
import Derived.Test.YtcjhnpbehkfknaaXg1c
import Derived.Test.YtcjhnpbehkfknaaXg1e
import Derived.Test.YtcjhnpbehkfknaaXg1f
import Derived.Test.YtcjhnpbehkfknaaXg1g
import Derived.Test.YtcjhnpbehkfknaaXg1h
import Derived.Test.YtcjhnpbehkfknaaXpBase
import Derived.Test.YtcjhnpbehkfknaaXpContains
import Derived.Test.YtcjhnpbehkfknaaXpHas
import Derived.Test.YtcjhnpbehkfknaaXpInts
import Derived.Test.YtcjhnpbehkfknaaXpMarks
import Derived.Test.YtcjhnpbehkfknaaXpSpNumbers
import Derived.Test.YtcjhnpbehkfknaaXpSpSorted
set_option linter.unusedVariables false
set_option linter.unusedSimpArgs false
namespace Go.Proofs.Ytcjhnpbehkfknaa.X
open Go.RowKit Go.Proofs.YtcjhnpbehkfknaaW.PrintWords Go.Proofs.YtcjhnpbehkfknaaW.PrintLast
theorem szBits_f (n : Int) (l : List Int) (a : Int) (hl : l.length ≤ 9223372036854775807) (h0 : 0 ≤ a) (h1 : a ≤ 1048576) : laws_szBits.f n l a = some (-1) ∨ (laws_szBits.f n l a = some (a - l.length) ∧ (l.length : Int) ≤ a) := by
  unfold laws_szBits.f
  rcases szIntS_f l a hl h0 h1 with h | ⟨h, hb⟩
  · left; rw [h]; rfl
  · right
    rw [h, bsome, if_neg (by omega)]
    exact ⟨rfl, hb⟩
theorem szSparse_f (n m wd nl : Int) (wl : List Int) (nh : Int) (wh : List Int) (h1 : wl.length ≤ 9223372036854775807) (h2 : wh.length ≤ 9223372036854775807) :
    laws_szSparse.f n m wd nl wl nh wh 1048576 = some (-1) ∨ ∃ t, laws_szSparse.f n m wd nl wl nh wh 1048576 = some t ∧ ¬ t < 0 ∧ wl.length ≤ 1048576 ∧ wh.length ≤ 1048576 := by
  unfold laws_szSparse.f
  rcases szBits_f nl wl 1048576 h1 (by omega) (by omega) with h | ⟨h, hb⟩
  · left; rw [h]; rfl
  · rw [h, bsome, if_neg (by omega)]
    rcases szBits_f nh wh (1048576 - wl.length) h2 (by omega) (by omega) with g | ⟨g, gb⟩
    · left; rw [g]; rfl
    · right
      rw [g, bsome, if_neg (by omega)]
      exact ⟨_, rfl, by omega, by omega, by omega⟩
theorem toSparse_F (n m wd nl : Int) (wl : List Int) (nh : Int) (wh : List Int) (h1 : wl.length ≤ 1048576) (h2 : wh.length ≤ 1048576) : laws_toSparse.F n m wd nl wl nh wh = some (n, m, wd, nl, wl, nh, wh) := by
  rw [laws_toSparse.F_eq, laws_toBits.F_eq, laws_toBits.F_eq, toIntS_F wl h1, toIntS_F wh h2]
  rfl
theorem eqSparse_F (n m wd nl : Int) (wl : List Int) (nh : Int) (wh : List Int) (h1 : wl.length ≤ 1048576) (h2 : wh.length ≤ 1048576) : laws_eqSparse.F n m wd nl wl nh wh n m wd nl wl nh wh = some true := by
  rw [laws_eqSparse.F_eq, laws_eqBits.F_eq, laws_eqBits.F_eq, eqIntS_F wl (by omega), eqIntS_F wh (by omega)]
  simp only [if_true, bsome]
def ddn (z : List Int) : Nat → List Int
  | 0 => []
  | n + 1 => if 0 < n ∧ z.getD n 0 = z.getD (n - 1) 0 then ddn z n else ddn z n ++ [z.getD n 0]
theorem ddn_len (z : List Int) : ∀ n, (ddn z n).length ≤ n
  | 0 => Nat.le_refl _
  | n + 1 => by
    have := ddn_len z n
    rw [ddn]; split
    · omega
    · rw [List.length_append, List.length_singleton]; omega
theorem ddn_pos (z : List Int) : ∀ n, 0 < n → 0 < (ddn z n).length
  | 1, _ => by simp [ddn]
  | n + 2, _ => by
    have := ddn_pos z (n + 1) (by omega)
    rw [ddn]; split
    · exact this
    · simp
theorem ddn_pre (x y : List Int) : ∀ n, (∀ i, i < n → x.getD i 0 = y.getD i 0) → ddn x n = ddn y n
  | 0, _ => rfl
  | n + 1, h => by
    rw [ddn, ddn, ddn_pre x y n (fun i hi => h i (by omega)), h n (by omega)]
    by_cases h0 : 0 < n
    · rw [h (n - 1) (by omega)]
    · rw [if_neg (fun c => h0 c.1), if_neg (fun c => h0 c.1)]
theorem getD_take (l : List Int) (n i : Nat) (h : i < n) : (l.take n).getD i 0 = l.getD i 0 := by
  rw [List.getD_eq_getElem?_getD, List.getElem?_take_of_lt h, List.getD_eq_getElem?_getD]
theorem getD_drop (l : List Int) (n i : Nat) : (l.drop n).getD i 0 = l.getD (n + i) 0 := by
  rw [List.getD_eq_getElem?_getD, List.getElem?_drop, List.getD_eq_getElem?_getD]
theorem zer_take (m : Nat) : ∀ (k o : Nat) (xs : List Int), m ≤ o → (zer (0 : Int) xs o k).take m = xs.take m
  | 0, _, _, _ => rfl
  | k + 1, o, xs, h => by
    rw [zer, zer_take m k (o + 1) _ (by omega), List.take_set_of_le (by omega)]
theorem set_take (l : List Int) (k : Nat) (v : Int) (h : k < l.length) : (l.set k v).take (k + 1) = l.take k ++ [v] := by
  rw [take_succ_getD _ 0 k (by rw [List.length_set]; exact h), List.take_set_of_le (Nat.le_refl _), getD_set_self _ _ _ _ h]
theorem compact1_L (z : List Int) (s : Nat) (hs : s < z.length) (hz : z.length ≤ 1048576) : ∀ (d j : Nat) (x0 : List Int) (k : Nat), s + j + d = z.length → 1 ≤ j → x0.length = z.length → k = (ddn z (s + j)).length → k < s + j → x0.take k = ddn z (s + j) →
    slices_Compact_int_int.L1 x0 k (z.drop s) j = some (ddn z z.length)
  | 0, j, x0, k, h, hj, hl, hk, hkj, ht => by
    have hd : (z.drop s).length = z.length - s := List.length_drop
    have e : s + j = z.length := by omega
    rw [slices_Compact_int_int.L1_eq, if_neg (by omega), if_pos (by omega), if_pos (by omega), Int.toNat_natCast, zer_take k _ k x0 (Nat.le_refl _), ht, e]
  | d + 1, j, x0, k, h, hj, hl, hk, hkj, ht => by
    have hd : (z.drop s).length = z.length - s := List.length_drop
    obtain ⟨q, rfl⟩ : ∃ q, j = q + 1 := ⟨j - 1, by omega⟩
    have e1 : rd (z.drop s) ((q + 1 : Nat) : Int) = z.getD (s + (q + 1)) 0 := by rw [rdn, getD_drop]
    have e2 : rd (z.drop s) (q : Int) = z.getD (s + (q + 1) - 1) 0 := by rw [rdn, getD_drop]; congr 1
    rw [slices_Compact_int_int.L1_eq, if_pos (by omega), if_pos (by omega), wp (by omega), if_pos (by omega), if_pos (by omega), e1, e2, wn (by omega)]
    by_cases c : z.getD (s + (q + 1)) 0 = z.getD (s + (q + 1) - 1) 0
    · have hn : ddn z (s + (q + 1) + 1) = ddn z (s + (q + 1)) := by rw [ddn, if_pos ⟨by omega, c⟩]
      rw [if_pos c]
      refine compact1_L z s hs hz d (q + 1 + 1) x0 k (by omega) (by omega) hl ?_ (by omega) ?_
      · rw [show s + (q + 1 + 1) = s + (q + 1) + 1 from by omega, hn]; exact hk
      · rw [show s + (q + 1 + 1) = s + (q + 1) + 1 from by omega, hn]; exact ht
    · have hn : ddn z (s + (q + 1) + 1) = ddn z (s + (q + 1)) ++ [z.getD (s + (q + 1)) 0] := by rw [ddn, if_neg (fun x => c x.2)]
      rw [if_neg c, if_pos (by omega), if_pos (by omega), Int.toNat_natCast, wn (by omega)]
      refine compact1_L z s hs hz d (q + 1 + 1) _ (k + 1) (by omega) (by omega) (by rw [List.length_set]; exact hl) ?_ (by omega) ?_
      · rw [show s + (q + 1 + 1) = s + (q + 1) + 1 from by omega, hn, List.length_append, List.length_singleton, ← hk]
      · rw [show s + (q + 1 + 1) = s + (q + 1) + 1 from by omega, hn, set_take _ _ _ (by omega), ht]
theorem compact0_L (z : List Int) (hz : z.length ≤ 1048576) : ∀ (d k : Nat), k + d = z.length → 1 ≤ k → ddn z k = z.take k → slices_Compact_int_int.L0 z k = some (ddn z z.length)
  | 0, k, h, h1, hk => by
    have e : k = z.length := by omega
    rw [slices_Compact_int_int.L0_eq, if_neg (by omega), ← e, hk, e, List.take_length]
  | d + 1, k, h, h1, hk => by
    obtain ⟨q, rfl⟩ : ∃ q, k = q + 1 := ⟨k - 1, by omega⟩
    rw [slices_Compact_int_int.L0_eq, if_pos (by omega), if_pos (by omega), wp (by omega), if_pos (by omega), if_pos (by omega), rdn, rdn]
    by_cases c : z.getD (q + 1) 0 = z.getD q 0
    · have hn : ddn z (q + 1 + 1) = ddn z (q + 1) := by rw [ddn, if_pos ⟨by omega, c⟩]
      have hl : (ddn z (q + 1)).length = q + 1 := by rw [hk, List.length_take]; omega
      rw [if_pos c, if_pos (by omega), Int.toNat_natCast]
      refine compact1_L z (q + 1) (by omega) hz d 1 z (q + 1) (by omega) (by omega) rfl ?_ (by omega) ?_
      · rw [hn, hl]
      · rw [hn, hk]
    · have hn : ddn z (q + 1 + 1) = z.take (q + 1 + 1) := by
        rw [ddn, if_neg (fun x => c x.2), hk, take_succ_getD z 0 (q + 1) (by omega)]
      rw [if_neg c, wn (by omega)]
      exact compact0_L z hz d (q + 1 + 1) (by omega) (by omega) hn
theorem compact_F (z : List Int) (hz : z.length ≤ 1048576) : slices_Compact_int_int.F z = some (ddn z z.length) := by
  rw [slices_Compact_int_int.F_eq]
  by_cases h : (z.length : Int) < 2
  · rw [if_pos h]
    match z, h with
    | [], _ => rfl
    | [a], _ => simp [ddn]
  · rw [if_neg h]
    refine compact0_L z hz (z.length - 1) 1 (by omega) (by omega) ?_
    rw [take_succ_getD z 0 0 (by omega)]
    simp [ddn]
def com (y x : List Int) : List Int := x.filter fun v => decide (v ∈ y)
theorem meet1_F (v : Int) (y : List Int) (hy : y.length ≤ 1048576) : impl_MeetSparse_1.F v y = some (!decide (v ∈ y)) := by
  rw [impl_MeetSparse_1.F_eq, contains_F y v hy, bsome]
theorem com_snoc (y x : List Int) (n : Nat) (h : n < x.length) : com y (x.take (n + 1)) = if x.getD n 0 ∈ y then com y (x.take n) ++ [x.getD n 0] else com y (x.take n) := by
  unfold com
  rw [take_succ_getD x 0 n h, List.filter_append]
  by_cases c : x.getD n 0 ∈ y
  · rw [if_pos c, List.filter_cons_of_pos (by simpa using c)]; rfl
  · rw [if_neg c, List.filter_cons_of_neg (by simpa using c)]; simp
theorem com_len (y x : List Int) : (com y x).length ≤ x.length := List.length_filter_le _ _
theorem delete_L (x y : List Int) (hx : x.length ≤ 1048576) (hy : y.length ≤ 1048576) : ∀ (d j : Nat) (x0 : List Int) (k : Nat), j + d = x.length → x0.length = x.length → k ≤ j → x0.take k = com y (x.take j) → k = (com y (x.take j)).length → x0.drop j = x.drop j →
    slices_DeleteFunc_int_int_at_impl_MeetSparse_1.L0 x0 k j y = some (com y x)
  | 0, j, x0, k, h, hl, hk, ht, hn, hd => by
    rw [slices_DeleteFunc_int_int_at_impl_MeetSparse_1.L0_eq, if_neg (by omega), if_pos (by omega), if_pos (by omega), Int.toNat_natCast, zer_take k _ k x0 (Nat.le_refl _), ht, List.take_of_length_le (by omega)]
  | d + 1, j, x0, k, h, hl, hk, ht, hn, hd => by
    have hv : x0.getD j 0 = x.getD j 0 := by
      have e1 := getD_drop x0 j 0
      have e2 := getD_drop x j 0
      rw [Nat.add_zero] at e1 e2
      rw [← e1, ← e2, hd]
    have hd1 : x0.drop (j + 1) = x.drop (j + 1) := by rw [← List.drop_drop, ← List.drop_drop, hd]
    have hs := com_snoc y x j (by omega)
    rw [slices_DeleteFunc_int_int_at_impl_MeetSparse_1.L0_eq, if_pos (by omega), if_pos (by omega), rdn, hv, meet1_F _ y hy, bsome, wn (by omega)]
    by_cases c : x.getD j 0 ∈ y
    · rw [if_pos c] at hs
      rw [if_neg (by rw [decide_eq_true c]; decide), if_pos (by omega), if_pos (by omega), Int.toNat_natCast, wn (by omega)]
      refine delete_L x y hx hy d (j + 1) _ (k + 1) (by omega) (by rw [List.length_set]; exact hl) (by omega) ?_ ?_ ?_
      · rw [hs, set_take _ _ _ (by omega), ht]
      · rw [hs, List.length_append, List.length_singleton, ← hn]
      · rw [List.drop_set_of_lt (by omega)]; exact hd1
    · rw [if_neg c] at hs
      rw [if_pos (by rw [decide_eq_false c]; rfl)]
      exact delete_L x y hx hy d (j + 1) x0 k (by omega) hl (by omega) (by rw [hs]; exact ht) (by rw [hs]; exact hn) hd1
theorem indexFunc_L (x y : List Int) (hx : x.length ≤ 1048576) (hy : y.length ≤ 1048576) : ∀ (d n : Nat), n + d = x.length → com y (x.take n) = x.take n →
    (slices_IndexFunc_int_int_at_impl_MeetSparse_1.L0 x x.length n y = some (-1) ∧ com y x = x) ∨ ∃ i : Nat, slices_IndexFunc_int_int_at_impl_MeetSparse_1.L0 x x.length n y = some (i : Int) ∧ i < x.length ∧ com y (x.take i) = x.take i ∧ x.getD i 0 ∉ y
  | 0, n, h, hc => by
    rw [slices_IndexFunc_int_int_at_impl_MeetSparse_1.L0_eq, if_neg (by omega)]
    rw [List.take_of_length_le (by omega)] at hc
    exact .inl ⟨rfl, hc⟩
  | d + 1, n, h, hc => by
    have hs := com_snoc y x n (by omega)
    rw [slices_IndexFunc_int_int_at_impl_MeetSparse_1.L0_eq, if_pos (by omega), if_pos (by omega), if_pos (by omega), rdn, meet1_F _ y hy, bsome, wn (by omega)]
    by_cases c : x.getD n 0 ∈ y
    · rw [if_pos c, hc, ← take_succ_getD x 0 n (by omega)] at hs
      rw [if_neg (by rw [decide_eq_true c]; decide)]
      exact indexFunc_L x y hx hy d (n + 1) (by omega) hs
    · rw [if_pos (by rw [decide_eq_false c]; rfl)]
      exact .inr ⟨n, rfl, by omega, hc, c⟩
theorem deleteFunc_F (x y : List Int) (hx : x.length ≤ 1048576) (hy : y.length ≤ 1048576) : slices_DeleteFunc_int_int_at_impl_MeetSparse_1.F x y = some (com y x) := by
  rw [slices_DeleteFunc_int_int_at_impl_MeetSparse_1.F_eq, slices_IndexFunc_int_int_at_impl_MeetSparse_1.F_eq]
  rcases indexFunc_L x y hx hy x.length 0 (by omega) (by simp [com]) with ⟨e, h⟩ | ⟨i, e, hi, hc, hn⟩
  · have e' : slices_IndexFunc_int_int_at_impl_MeetSparse_1.L0 x x.length 0 y = some (-1) := e
    rw [e', bsome, if_pos rfl, h]
  · have e' : slices_IndexFunc_int_int_at_impl_MeetSparse_1.L0 x x.length 0 y = some (i : Int) := e
    have hs := com_snoc y x i hi
    rw [if_neg hn] at hs
    rw [e', bsome, if_neg (by omega), wn (by omega)]
    refine delete_L x y hx hy (x.length - (i + 1)) (i + 1) x i (by omega) rfl (by omega) ?_ ?_ rfl
    · rw [hs, hc]
    · rw [hs, hc, List.length_take]; omega
/-! the reference: one number after another -/
theorem put_end (v : Int) (l : List Int) (hl : l.length ≤ 100000) (h : ∀ i, i < l.length → l.getD i 0 < v) : ∀ d n : Nat, n + d = l.length → spec_l1Put.L0 l v n = some (l ++ [v])
  | 0, n, e => by
    have e1 : l.take n = l := List.take_of_length_le (by omega)
    have e2 : l.drop n = [] := List.drop_eq_nil_of_le (by omega)
    rw [spec_l1Put.L0_eq, if_neg (by omega), bsome, if_pos (by omega), if_pos (by omega), Int.toNat_natCast, e1, e2, bsome, if_pos (by simp; omega), bsome, if_pos (by simp; omega), bsome, bsome, if_pos (by simp; omega)]
    simp
  | d + 1, n, e => by
    rw [spec_l1Put.L0_eq, if_pos (by omega), if_pos (by omega), rdn, if_pos (h n (by omega)), wn (by omega)]
    exact put_end v l hl h d (n + 1) (by omega)
theorem put_same (v : Int) (l : List Int) (hl : l.length ≤ 100000) (p : Nat) (hp : p < l.length) (hv : l.getD p 0 = v) (h : ∀ i, i < p → l.getD i 0 < v) : ∀ d n : Nat, n + d = p → spec_l1Put.L0 l v n = some l
  | 0, n, e => by
    have : n = p := by omega
    subst this
    rw [spec_l1Put.L0_eq, if_pos (by omega), if_pos (by omega), rdn, hv, if_neg (by omega), if_pos rfl]
  | d + 1, n, e => by
    rw [spec_l1Put.L0_eq, if_pos (by omega), if_pos (by omega), rdn, if_pos (h n (by omega)), wn (by omega)]
    exact put_same v l hl p hp hv h d (n + 1) (by omega)
theorem ddn_last (z : List Int) (hz : ∀ i, i + 1 < z.length → z.getD i 0 ≤ z.getD (i + 1) 0) : ∀ n, n < z.length → (ddn z (n + 1)).getD ((ddn z (n + 1)).length - 1) 0 = z.getD n 0 ∧ ∀ i, i < (ddn z (n + 1)).length - 1 → (ddn z (n + 1)).getD i 0 < z.getD n 0
  | 0, h => by simp [ddn]
  | n + 1, h => by
    obtain ⟨h1, h2⟩ := ddn_last z hz n (by omega)
    have hle := hz n h
    have hp := ddn_pos z (n + 1) (by omega)
    by_cases c : z.getD (n + 1) 0 = z.getD n 0
    · have e : ddn z (n + 1 + 1) = ddn z (n + 1) := by rw [ddn, if_pos ⟨by omega, c⟩]
      rw [e, c]
      exact ⟨h1, h2⟩
    · have e : ddn z (n + 1 + 1) = ddn z (n + 1) ++ [z.getD (n + 1) 0] := by rw [ddn, if_neg (fun x => c x.2)]
      rw [e, List.length_append, List.length_singleton, Nat.add_sub_cancel]
      refine ⟨?_, fun i hi => ?_⟩
      · rw [List.getD_eq_getElem?_getD, List.getElem?_append_right (Nat.le_refl _)]; simp
      · rw [getD_app_left _ _ 0 i hi]
        by_cases q : i = (ddn z (n + 1)).length - 1
        · rw [q, h1]; omega
        · have := h2 i (by omega)
          omega
theorem ddn_put (z : List Int) (v : Int) (hl : z.length ≤ 60) (hz : ∀ i, i + 1 < (z ++ [v]).length → (z ++ [v]).getD i 0 ≤ (z ++ [v]).getD (i + 1) 0) : spec_l1Put.F (ddn z z.length) v = some (ddn (z ++ [v]) (z ++ [v]).length) := by
  have hpre : ddn (z ++ [v]) z.length = ddn z z.length := ddn_pre _ _ _ (fun i hi => getD_app_left z [v] 0 i hi)
  have hlen := ddn_len z z.length
  have hv : (z ++ [v]).getD z.length 0 = v := by rw [List.getD_eq_getElem?_getD, List.getElem?_append_right (Nat.le_refl _)]; simp
  rw [spec_l1Put.F_eq, List.length_append, List.length_singleton, ddn, hpre, hv]
  by_cases h0 : 0 < z.length
  · obtain ⟨n, hn⟩ : ∃ n, z.length = n + 1 := ⟨z.length - 1, by omega⟩
    have hle : z.getD n 0 ≤ v := by
      have := hz n (by simp; omega)
      rw [← hn, hv, getD_app_left z [v] 0 n (by omega)] at this
      exact this
    have hzz : ∀ i, i + 1 < z.length → z.getD i 0 ≤ z.getD (i + 1) 0 := fun i hi => by
      have := hz i (by simp; omega)
      rw [getD_app_left z [v] 0 i (by omega), getD_app_left z [v] 0 (i + 1) hi] at this
      exact this
    obtain ⟨h1, h2⟩ := ddn_last z hzz n (by omega)
    have hp := ddn_pos z (n + 1) (by omega)
    rw [hn, Nat.add_sub_cancel, getD_app_left z [v] 0 n (by omega)]
    rw [hn] at hlen
    by_cases c : v = z.getD n 0
    · rw [if_pos ⟨by omega, c⟩]
      exact put_same v _ (by omega) ((ddn z (n + 1)).length - 1) (by omega) (by rw [h1, c]) (fun i hi => by rw [c]; exact h2 i hi) _ 0 (Nat.zero_add _)
    · rw [if_neg (fun x => c x.2)]
      refine put_end v _ (by omega) (fun i hi => ?_) _ 0 (Nat.zero_add _)
      by_cases q : i = (ddn z (n + 1)).length - 1
      · rw [q, h1]; omega
      · have := h2 i (by omega)
        omega
  · have e : z = [] := List.eq_nil_of_length_eq_zero (by omega)
    subst e
    rw [if_neg (by simp)]
    exact put_end v _ (by simp [ddn]) (fun i hi => by simp [ddn] at hi) _ 0 (Nat.zero_add _)
theorem hasF_drop (l : List Int) (v : Int) (n : Nat) (h : n < l.length) : (v ∈ l.drop n) ↔ (v = l.getD n 0 ∨ v ∈ l.drop (n + 1)) := by
  rw [List.drop_eq_getElem_cons h, List.mem_cons, List.getD_eq_getElem?_getD, List.getElem?_eq_getElem h]; rfl
theorem has_FL (l : List Int) (v : Int) (hl : l.length ≤ 1048576) : ∀ d n : Nat, n + d = l.length → spec_l1Has.L0 v l l.length n = some (decide (v ∈ l.drop n))
  | 0, n, h => by
    rw [spec_l1Has.L0_eq, if_neg (by omega), List.drop_eq_nil_of_le (by omega)]; simp
  | d + 1, n, h => by
    rw [spec_l1Has.L0_eq, if_pos (by omega), if_pos (by omega), if_pos (by omega), rdn]
    have hd := hasF_drop l v n (by omega)
    by_cases h1 : l.getD n 0 = v
    · rw [if_pos h1, decide_eq_true (hd.2 (Or.inl h1.symm))]
    · rw [if_neg h1, wn (by omega), has_FL l v hl d (n + 1) (by omega)]
      congr 1
      rw [decide_eq_decide, hd]
      exact ⟨Or.inr, fun h2 => h2.elim (fun h3 => absurd h3.symm h1) id⟩
theorem has_F (l : List Int) (v : Int) (hl : l.length ≤ 1048576) : spec_l1Has.F l v = some (decide (v ∈ l)) := by
  rw [spec_l1Has.F_eq]
  have := has_FL l v hl l.length 0 (by omega)
  rw [List.drop_zero] at this
  exact this
end Go.Proofs.Ytcjhnpbehkfknaa.X
namespace Go.Proofs.Ytcjhnpbehkfknaa.Pure
open Go.RowKit Go.Proofs.Ytcjhnpbehkfknaa.X Go.Proofs.YtcjhnpbehkfknaaW.PrintWords Go.Proofs.YtcjhnpbehkfknaaW.PrintLast
theorem szSparse_g (n m wd nl : Int) (wl : List Int) (nh : Int) (wh : List Int) (a : Int) (h1 : wl.length ≤ 9223372036854775807) (h2 : wh.length ≤ 9223372036854775807) (ha : 0 ≤ a) (hb : a ≤ 1048576) :
    laws_szSparse.f n m wd nl wl nh wh a = some (-1) ∨ ∃ t, laws_szSparse.f n m wd nl wl nh wh a = some t ∧ (0 ≤ t ∧ t ≤ 1048576) ∧ wl.length ≤ 1048576 ∧ wh.length ≤ 1048576 ∧ (wl.length : Int) + wh.length ≤ a := by
  unfold laws_szSparse.f
  rcases szBits_f nl wl a h1 (by omega) (by omega) with h | ⟨h, hb⟩
  · left; rw [h]; rfl
  · rw [h, bsome, if_neg (by omega)]
    rcases szBits_f nh wh (a - wl.length) h2 (by omega) (by omega) with g | ⟨g, gb⟩
    · left; rw [g]; rfl
    · right
      rw [g, bsome, if_neg (by omega)]
      exact ⟨_, rfl, ⟨by omega, by omega⟩, by omega, by omega, by omega⟩
theorem com_sorted {l : List Int} {m : Int} (h : SortedFacts l m) (y : List Int) : ∀ n, n ≤ l.length → (∀ i, i + 1 < (com y (l.take n)).length → (com y (l.take n)).getD i 0 ≤ (com y (l.take n)).getD (i + 1) 0) ∧ ∀ i, i < (com y (l.take n)).length → ∀ j, n ≤ j → j < l.length → (com y (l.take n)).getD i 0 ≤ l.getD j 0
  | 0, _ => by simp [com]
  | n + 1, hn => by
    obtain ⟨h1, h2⟩ := com_sorted h y n (by omega)
    have hs := com_snoc y l n (by omega)
    have mono : ∀ d j, n + d = j → j < l.length → l.getD n 0 ≤ l.getD j 0 := by
      intro d
      induction d with
      | zero => intro j e _; rw [show j = n from by omega]; exact Int.le_refl _
      | succ d ih =>
        intro j e hj
        have a := ih (n + d) rfl (by omega)
        have b := h.2.2.2 (n + d) (by omega)
        rw [show n + d + 1 = j from by omega] at b
        omega
    by_cases c : l.getD n 0 ∈ y
    · rw [if_pos c] at hs
      rw [hs, List.length_append, List.length_singleton]
      have last : (com y (l.take n) ++ [l.getD n 0]).getD (com y (l.take n)).length 0 = l.getD n 0 := by rw [List.getD_eq_getElem?_getD, List.getElem?_append_right (Nat.le_refl _)]; simp
      refine ⟨fun i hi => ?_, fun i hi j hj hjl => ?_⟩
      · by_cases q : i + 1 = (com y (l.take n)).length
        · rw [q, last, getD_app_left _ _ 0 i (by omega)]
          exact h2 i (by omega) n (Nat.le_refl _) (by omega)
        · rw [getD_app_left _ _ 0 i (by omega), getD_app_left _ _ 0 (i + 1) (by omega)]
          exact h1 i (by omega)
      · by_cases q : i = (com y (l.take n)).length
        · rw [q, last]
          exact mono (j - n) j (by omega) hjl
        · rw [getD_app_left _ _ 0 i (by omega)]
          exact h2 i (by omega) j (by omega) hjl
    · rw [if_neg c] at hs
      rw [hs]
      exact ⟨h1, fun i hi j hj hjl => h2 i hi j (by omega) hjl⟩
theorem has_F (l : List Int) (v : Int) (hl : l.length ≤ 1048576) : spec_l1Has.F l v = some (decide (v ∈ l)) := by
  rw [(has_both l v hl).1, contains_F l v hl]
section
variable {n2 m2 wd2 nl2 : Int} {wl2 : List Int} {nh2 : Int} {wh2 : List Int} {y : List Int} (hy : spec_spList.F n2 m2 wd2 nl2 wl2 nh2 wh2 = some y) (hy6 : y.length ≤ 60)
include hy hy6
theorem meet_L {l : List Int} {m : Int} (h : SortedFacts l m) : ∀ d n : Nat, n + d = l.length → spec_MeetSparse.L0 (ddn (com y (l.take n)) (com y (l.take n)).length) l l.length n n2 m2 wd2 nl2 wl2 nh2 wh2 = some (ddn (com y l) (com y l).length, true)
  | 0, n, e => by
    rw [spec_MeetSparse.L0_eq, if_neg (by omega), List.take_of_length_le (by omega)]
  | d + 1, n, e => by
    have hs := com_snoc y l n (by omega)
    have hl := h.2.1
    have ih := meet_L h d (n + 1) (by omega)
    have hc := com_len y (l.take n)
    have ht : (l.take n).length = n := by rw [List.length_take]; omega
    rw [spec_MeetSparse.L0_eq, if_pos (by omega), if_pos (by omega), if_pos (by omega), hy, bsome, rdn, has_F _ _ (by omega), bsome, wn (by omega)]
    by_cases c : l.getD n 0 ∈ y
    · rw [if_pos c] at hs
      rw [if_pos (decide_eq_true c), ddn_put _ _ (by omega) (by
        have := (com_sorted h y (n + 1) (by omega)).1
        rw [hs] at this
        exact this), bsome, ← hs]
      exact ih
    · rw [if_neg c] at hs
      rw [if_neg (by simpa using c), ← hs]
      exact ih
end
theorem meet_both (n m wd nl : Int) (wl : List Int) (nh : Int) (wh : List Int) (n2 m2 wd2 nl2 : Int) (wl2 : List Int) (nh2 : Int) (wh2 : List Int) (h1 : wl.length ≤ 1048576) (h2 : wh.length ≤ 1048576) (h3 : wl2.length ≤ 1048576) (h4 : wh2.length ≤ 1048576) :
    ∃ (r : List Int) (ok : Bool), spec_MeetSparse.F n m wd nl wl nh wh n2 m2 wd2 nl2 wl2 nh2 wh2 = some (r, ok) ∧ impl_MeetSparse.F n m wd nl wl nh wh n2 m2 wd2 nl2 wl2 nh2 wh2 = some (r, ok) ∧ r.length ≤ 60 := by
  obtain ⟨g1, l, s1, s2, s3⟩ := numbers_both n m wd nl wl nh wh h1 h2
  obtain ⟨g2, y, t1, t2, t3⟩ := numbers_both n2 m2 wd2 nl2 wl2 nh2 wh2 h3 h4
  have bad : spec_MeetSparse.J0 true n m wd nl wl nh wh n2 m2 wd2 nl2 wl2 nh2 wh2 = some ([], false) := by rw [spec_MeetSparse.J0_eq, if_pos rfl]
  rw [spec_MeetSparse.F_eq, impl_MeetSparse.F_eq, impl_twoLists.F_eq, s1, s2, t1, t2, bsome, bsome, bsome, bsome, bad]
  cases g1 with
  | false => exact ⟨[], false, rfl, rfl, by simp⟩
  | true =>
    cases g2 with
    | false =>
      refine ⟨[], false, ?_, rfl, by simp⟩
      rw [if_pos rfl, spec_MeetSparse.J0_eq, if_pos (show (!false) = true from rfl)]
    | true =>
      obtain ⟨q1, q2, q3⟩ := s3 rfl
      obtain ⟨u1, u2, u3⟩ := t3 rfl
      have hl := q2.2.1
      have hy := u2.2.1
      have hc := com_len y l
      have m0 := meet_L u1 hy q2 l.length 0 (by omega)
      have m0' : spec_MeetSparse.L0 [] l l.length 0 n2 m2 wd2 nl2 wl2 nh2 wh2 = some (ddn (com y l) (com y l).length, true) := m0
      refine ⟨ddn (com y l) (com y l).length, true, ?_, ?_, by have := ddn_len (com y l) (com y l).length; omega⟩
      · rw [if_pos rfl, spec_MeetSparse.J0_eq, if_neg (by decide), q1, bsome, m0']
      · unfold slices_Clone_int_int.f
        simp only [if_true, bsome]
        rw [if_pos (by omega), bsome, deleteFunc_F l y (by omega) (by omega), bsome, compact_F _ (by omega), bsome]
theorem FnExactMeetSparse : X.laws_FnExactMeetSparse.Pure := by
  intro n m wd nl wl nh wh n2 m2 wd2 nl2 wl2 nh2 wh2 w0 w1 w2 w3 w4 w5 w6 v0 v1 v2 v3 v4 v5 v6
  refine Sup.rounds (laws_FnExactMeetSparse.F_sup n m wd nl wl nh wh n2 m2 wd2 nl2 wl2 nh2 wh2) ?_
  rw [laws_FnExactMeetSparse.F_eq]
  rcases szSparse_g n m wd nl wl nh wh 1048576 w4.1 w6.1 (by omega) (by omega) with h | ⟨t, h, ht, h1, h2, hs⟩
  · rw [h, bsome]; rfl
  · rw [h, bsome, if_neg (by omega)]
    rcases szSparse_g n2 m2 wd2 nl2 wl2 nh2 wh2 t v4.1 v6.1 (by omega) (by omega) with g | ⟨t2, g, ht2, h3, h4, hs2⟩
    · rw [g, bsome]; rfl
    · obtain ⟨r, ok, e1, e2, e3⟩ := meet_both n m wd nl wl nh wh n2 m2 wd2 nl2 wl2 nh2 wh2 h1 h2 h3 h4
      rw [g, bsome, if_neg (by omega)]
      have n1 : ¬ (1 : Int) + (r.length : Int) < 0 := by omega
      have n2_ : ¬ (1 : Int) + (wl.length : Int) + (wh.length : Int) < 0 := by omega
      have n3 : ¬ (1 : Int) + (wl.length : Int) + (wh.length : Int) + (wl2.length : Int) + (wh2.length : Int) < 0 := by omega
      simp only [toSparse_F n m wd nl wl nh wh h1 h2, toSparse_F n2 m2 wd2 nl2 wl2 nh2 wh2 h3 h4, bsome, e1, e2, bne_self_eq_false, Bool.false_eq_true, if_false, if_true, eqIntS_F r (by omega), eqSparse_F n m wd nl wl nh wh h1 h2, eqSparse_F n2 m2 wd2 nl2 wl2 nh2 wh2 h3 h4, laws_markSparse.F_eq, laws_markBits.F_eq, mark_F wl 1 (by omega) (by omega), mark_F wh (1 + wl.length) (by omega) (by omega), if_neg n2_, mark_F wl2 (1 + wl.length + wh.length) (by omega) (by omega), mark_F wh2 (1 + wl.length + wh.length + wl2.length) (by omega) (by omega), if_neg n3, mark_F r 1 (by omega) (by omega), held_F r.length 1 (by omega) (by omega), if_neg n1]
end Go.Proofs.Ytcjhnpbehkfknaa.Pure
