/- Whether a record is a sparse set, and its numbers: the program's single function answers as the reference's two. -/
import Derived.Test.YtknofkpmeobhbaaXg1a
import Derived.Test.YtknofkpmeobhbaaXg1b
import Derived.Test.YtknofkpmeobhbaaXg1d
import Derived.Test.YtknofkpmeobhbaaXg1e
import Derived.Test.YtknofkpmeobhbaaXpBase
import Derived.Test.YtknofkpmeobhbaaXpBitNat
import Derived.Test.YtknofkpmeobhbaaXpBitsGood
import Derived.Test.YtknofkpmeobhbaaXpBitsGoodSpec
import Derived.Test.YtknofkpmeobhbaaXpSame
import Derived.Test.YtknofkpmeobhbaaXpSpBuild
import Derived.Test.YtknofkpmeobhbaaXpSpList
import Derived.Test.YtknofkpmeobhbaaXpSpSorted
import Derived.Test.YtknofkpmeobhbaaXpSpWidth
import Derived.Test.YtknofkpmeobhbaaXpWithin
set_option linter.unusedVariables false
set_option linter.unusedSimpArgs false
namespace Go.Proofs.Ytknofkpmeobhbaa.X
open Go.RowKit Go.Proofs.YtknofkpmeobhbaaW.PrintWords Go.Proofs.YtknofkpmeobhbaaW.PrintLast
section
variable (n w : Nat) (m nl : Int) (wl : List Int) (nh : Int) (wh : List Int) (hn : n ≤ 60) (hw : w ≤ 16) (hW : spec_spWidth.F n m = some (w : Int)) (h1 : wl.length ≤ 1048576) (h2 : wh.length ≤ 1048576)
/-- What is asked once the list is read. -/
def lastB (m : Int) (w : Nat) (nl : Int) (wl : List Int) (nh : Int) (wh : List Int) (n : Nat) (ul uh : List Int) : Bool := (decide (nl = ((n * w : Nat) : Int)) && decide (wl = ul)) && (decide (nh = (n : Int) + (m - 1) / 2 ^ w + 1) && decide (wh = uh))
include hn hw h1 h2 hW in
/-- The end of both: the list is read; spec's J1 with its question answered, the program's loop at its end. -/
theorem end_both (l : List Int) (hl : l.length ≤ n) (hs : spec_spList.F n m w nl wl nh wh = some l) :
    ∃ (good : Bool) (l' : List Int), spec_spGood.J1 (nh != (n : Int) + (m - 1) / 2 ^ w + 1) n m w nl wl nh wh = some good ∧ impl_Sparse_numbers.L0 w l nh nh n m w nl wl nh wh = some (l', good) ∧ (good = true → l' = l ∧ SortedFacts l m ∧ l.length = n) ∧ l'.length ≤ 60 := by
  have eI : impl_Sparse_numbers.L0 w l nh nh n m w nl wl nh wh = (if (l.length : Int) = n then ((impl_sortedOk.F l m).bind fun t399 => (impl_Sparse_numbers.J2 l (!t399) n m w nl wl nh wh)) else (impl_Sparse_numbers.J2 l true n m w nl wl nh wh)) := by
    rw [impl_Sparse_numbers.L0_eq, if_neg (by omega)]
  have eJ : impl_Sparse_numbers.J2 l true n m w nl wl nh wh = some ([], false) := by rw [impl_Sparse_numbers.J2_eq, if_pos rfl]
  have eS : spec_spGood.J2 l true n m w nl wl nh wh = some false := by rw [spec_spGood.J2_eq, if_pos rfl]
  rw [eI, spec_spGood.J1_eq, hs, bsome]
  by_cases hlen : (l.length : Int) = n
  · obtain ⟨b, s1, s2, s3⟩ := sorted_both l m (by omega)
    rw [if_pos hlen, if_pos hlen, s1, s2, bsome, bsome]
    cases b with
    | false =>
      rw [Bool.not_false, eJ, eS]
      refine ⟨false, [], ?_, rfl, fun e => (by cases e), by simp⟩
      split <;> rfl
    | true =>
      obtain ⟨w', ul, uh, _, b2, b3, b4, b5, b6⟩ := build_both l m (s3 rfl)
      rw [hlen, hW] at b2
      have hw' : w' = w := by
        have := Option.some.inj b2
        omega
      subst hw'
      have hln : l.length = n := by omega
      rw [hln] at b3 b4
      have hu1 : ul.length ≤ 1048576 := Nat.le_trans b5 (by decide)
      have hu2 : uh.length ≤ 1048576 := Nat.le_trans b6 (by decide)
      have q1 : spec_spGood.J2 l false n m w' nl wl nh wh = some (lastB m w' nl wl nh wh n ul uh) := by
        rw [spec_spGood.J2_eq, if_neg (by decide), b3, bsome, biSame_F _ _ _ _ h1, bsome, biSame_F _ _ _ _ h2]
        unfold lastB
        cases (decide (nl = ((n * w' : Nat) : Int)) && decide (wl = ul)) <;> rfl
      have q2 : impl_Sparse_numbers.J2 l false n m w' nl wl nh wh = some (l, lastB m w' nl wl nh wh n ul uh) := by
        rw [impl_Sparse_numbers.J2_eq, if_neg (by decide), b4, bsome, sameBits_F _ _ _ _ hu1, bsome, sameBits_F _ _ _ _ hu2]
        unfold lastB
        rw [show decide (((n * w' : Nat) : Int) = nl) = decide (nl = ((n * w' : Nat) : Int)) from by rw [decide_eq_decide]; exact eq_comm, show decide (ul = wl) = decide (wl = ul) from by rw [decide_eq_decide]; exact eq_comm,
          show decide ((n : Int) + (m - 1) / 2 ^ w' + 1 = nh) = decide (nh = (n : Int) + (m - 1) / 2 ^ w' + 1) from by rw [decide_eq_decide]; exact eq_comm, show decide (uh = wh) = decide (wh = uh) from by rw [decide_eq_decide]; exact eq_comm]
        cases (decide (nl = ((n * w' : Nat) : Int)) && decide (wl = ul)) <;> rfl
      rw [Bool.not_true, q1, q2]
      refine ⟨lastB m w' nl wl nh wh n ul uh, l, ?_, rfl, fun _ => ⟨rfl, s3 rfl, hln⟩, by omega⟩
      by_cases hH : nh = (n : Int) + (m - 1) / 2 ^ w' + 1
      · rw [if_neg (by simp [hH])]
      · rw [if_pos (by simpa using hH)]
        unfold lastB
        rw [decide_eq_false hH, Bool.false_and, Bool.and_false]
  · rw [if_neg hlen, if_neg hlen, eJ, eS]
    refine ⟨false, [], ?_, rfl, fun e => (by cases e), by simp⟩
    split <;> rfl
end
theorem high_eq (n w : Nat) (m : Int) (hn : n ≤ 60) (hm : 1 ≤ m ∧ m ≤ 100000) (hw : w ≤ 16) : wrap64 (wrap64 ((n : Int) + shr .i64 (wrap64 (m - 1)) (w : Int)) + 1) = (n : Int) + (m - 1) / 2 ^ w + 1 := by
  have hq0 : (m - 1) / 2 ^ w ≤ m - 1 := Int.ediv_le_self (2 ^ w : Int) (by omega)
  have hq1 : 0 ≤ (m - 1) / 2 ^ w := Int.ediv_nonneg (by omega) (by exact_mod_cast Nat.zero_le _)
  have e2 : shr .i64 (wrap64 (m - 1)) (w : Int) = (m - 1) / 2 ^ w := by
    rw [w64 (by omega) (by omega)]
    obtain ⟨q, hq⟩ := Int.eq_ofNat_of_zero_le (a := m - 1) (by omega)
    rw [hq, shrN q w (by omega)]
    simp
  rw [e2]
  generalize (m - 1) / 2 ^ w = A at *
  rw [w64 (x := (n : Int) + A) (by omega) (by omega), w64 (by omega) (by omega)]
theorem numbers_all (n m wd nl : Int) (wl : List Int) (nh : Int) (wh : List Int) (h1 : wl.length ≤ 1048576) (h2 : wh.length ≤ 1048576) :
    ∃ (good : Bool) (l : List Int), spec_spGood.F n m wd nl wl nh wh = some good ∧ impl_Sparse_numbers.F n m wd nl wl nh wh = some (l, good) ∧ (good = true → spec_spList.F n m wd nl wl nh wh = some l ∧ SortedFacts l m ∧ (l.length : Int) = n) ∧ l.length ≤ 60 := by
  have bad : ∀ x : Int, impl_Sparse_numbers.J0 x true n m wd nl wl nh wh = some ([], false) := fun x => by rw [impl_Sparse_numbers.J0_eq, if_pos rfl]
  have badS : spec_spGood.J0 true n m wd nl wl nh wh = some false := by rw [spec_spGood.J0_eq, if_pos rfl]
  have badS1 : spec_spGood.J1 true n m wd nl wl nh wh = some false := by rw [spec_spGood.J1_eq, if_pos rfl]
  by_cases hnm : (0 ≤ n ∧ n ≤ 60) ∧ 1 ≤ m ∧ m ≤ 100000
  · obtain ⟨hn, hm⟩ := hnm
    obtain ⟨k, rfl⟩ := Int.eq_ofNat_of_zero_le hn.1
    have hk : k ≤ 60 := by omega
    obtain ⟨w, e1, e2, e3⟩ := width_both (k : Int) m hn hm
    have eS : spec_spGood.F k m wd nl wl nh wh = spec_spGood.J0 (wd != (w : Int)) k m wd nl wl nh wh := by
      rw [spec_spGood.F_eq, l1In_f, bsome, if_pos (decide_eq_true hn), spLimit_f, bsome, if_pos (decide_eq_true hm), e1, bsome]
    by_cases hwd : (w : Int) = wd
    · subst hwd
      have eI : impl_Sparse_numbers.F k m w nl wl nh wh = if goodB nl wl = true then (if goodB nh wh = true then impl_Sparse_numbers.J0 w (nl != ((k * w : Nat) : Int)) k m w nl wl nh wh else some ([], false)) else some ([], false) := by
        have ek : wrap64 ((w : Int) * (k : Int)) = ((k * w : Nat) : Int) := by
          rw [(Int.natCast_mul w k).symm, Nat.mul_comm]
          exact w64n (Nat.le_trans (Nat.mul_le_mul hk e3) (by decide))
        rw [impl_Sparse_numbers.F_eq, e2, bsome, if_pos rfl, if_pos rfl, isBits_F nl wl h1, isBits_F nh wh h2, bsome, bsome, ek, bad]
      have eS2 : spec_spGood.J0 ((w : Int) != (w : Int)) k m w nl wl nh wh = if goodB nl wl = true then (if goodB nh wh = true then (if nl = ((k * w : Nat) : Int) then spec_spGood.J1 (nh != (k : Int) + (m - 1) / 2 ^ w + 1) k m w nl wl nh wh else some false) else some false) else some false := by
        have ek : wrap64 ((k : Int) * (w : Int)) = ((k * w : Nat) : Int) := by
          rw [(Int.natCast_mul k w).symm]
          exact w64n (Nat.le_trans (Nat.mul_le_mul hk e3) (by decide))
        rw [spec_spGood.J0_eq, if_neg (by simp), biGood_F nl wl h1, biGood_F nh wh h2, bsome, bsome, ek, badS1, if_pos (c := (0 : Int) ≤ (w : Int)) (Int.natCast_nonneg _), high_eq k w m hk hm e3]
      rw [eS, eS2, eI]
      by_cases G1 : goodB nl wl = true
      · by_cases G2 : goodB nh wh = true
        · rw [if_pos G1, if_pos G1, if_pos G2, if_pos G2]
          by_cases hnl : nl = ((k * w : Nat) : Int)
          · obtain ⟨a1, a2, a3⟩ := goodB_facts G1
            obtain ⟨b1, b2, b3⟩ := goodB_facts G2
            obtain ⟨H, rfl⟩ := Int.eq_ofNat_of_zero_le b1.1
            have hl : ∀ j, j < k * w → j / 16 < wl.length := fun j hj => by
              rw [hnl] at a2
              generalize k * w = Z at *
              omega
            have hh : ∀ j, j < H → j / 16 < wh.length := fun j hj => by omega
            obtain ⟨l, g1, g2, g3⟩ := list_F k w H m nl wl wh hk e3 (by omega) a3 b3 hl hh
            obtain ⟨good, l', q1, q2, q3, q4⟩ := end_both k w m nl wl H wh hk e3 e1 h1 h2 l g3 g1
            rw [if_pos hnl, impl_Sparse_numbers.J0_eq, if_neg (by simp [hnl]), g2]
            refine ⟨good, l', q1, q2, fun hg => ?_, q4⟩
            obtain ⟨r1, r2, r3⟩ := q3 hg
            rw [r1]
            exact ⟨g1, r2, by omega⟩
          · rw [if_neg hnl, impl_Sparse_numbers.J0_eq, if_pos (by simpa using hnl)]
            exact ⟨false, [], rfl, rfl, fun e => (by cases e), by simp⟩
        · rw [if_pos G1, if_pos G1, if_neg G2, if_neg G2]
          exact ⟨false, [], rfl, rfl, fun e => (by cases e), by simp⟩
      · rw [if_neg G1, if_neg G1]
        exact ⟨false, [], rfl, rfl, fun e => (by cases e), by simp⟩
    · have eI : impl_Sparse_numbers.F k m wd nl wl nh wh = some ([], false) := by
        rw [impl_Sparse_numbers.F_eq, e2, bsome, if_pos rfl, if_neg hwd, bad]
      rw [eS, eI, show (wd != (w : Int)) = true from by simpa using fun e => hwd e.symm, badS]
      exact ⟨false, [], rfl, rfl, fun e => (by cases e), by simp⟩
  · have eI : impl_Sparse_numbers.F n m wd nl wl nh wh = some ([], false) := by
      rw [impl_Sparse_numbers.F_eq, width_bad n m hnm, bsome, if_neg (by decide), bad]
    have eS : spec_spGood.F n m wd nl wl nh wh = some false := by
      rw [spec_spGood.F_eq, l1In_f, spLimit_f]
      simp only [bsome, badS]
      by_cases h : 0 ≤ n ∧ n ≤ 60
      · simp only [decide_eq_true h, decide_eq_false (fun h' => hnm ⟨h, h'⟩), if_true, Bool.false_eq_true, if_false]
      · simp only [decide_eq_false h, Bool.false_eq_true, if_false]
    rw [eS, eI]
    exact ⟨false, [], rfl, rfl, fun e => (by cases e), by simp⟩
theorem numbers_both (n m wd nl : Int) (wl : List Int) (nh : Int) (wh : List Int) (h1 : wl.length ≤ 1048576) (h2 : wh.length ≤ 1048576) :
    ∃ (good : Bool) (l : List Int), spec_spGood.F n m wd nl wl nh wh = some good ∧ impl_Sparse_numbers.F n m wd nl wl nh wh = some (l, good) ∧ (good = true → spec_spList.F n m wd nl wl nh wh = some l ∧ SortedFacts l m ∧ (l.length : Int) = n) := by
  obtain ⟨good, l, a, b, c, _⟩ := numbers_all n m wd nl wl nh wh h1 h2
  exact ⟨good, l, a, b, c⟩
end Go.Proofs.Ytknofkpmeobhbaa.X
