/- The plain part of the law FnExactBucketsOf: the program's and the reference's answers are the same, the keys stay, and the answer's lists are its own, for all arguments. -/
import Derived.Test.YtioncjcmfbndmaaXg100a
import Derived.Test.YtioncjcmfbndmaaXg900a
import Derived.Test.YtioncjcmfbndmaaXpBase
import Derived.Test.YtioncjcmfbndmaaXpHash
import Derived.Test.YtioncjcmfbndmaaXpKeyLists
import Derived.Test.YtioncjcmfbndmaaXpMarkStrs
import Derived.Test.YtioncjcmfbndmaaXpRowEq
import Derived.Test.YtioncjcmfbndmaaXpRowMarks
import Derived.Test.YtioncjcmfbndmaaXpSeed
import Derived.Test.YtioncjcmfbndmaaXpStrs
import Derived.Test.YtioncjcmfbndmaaXpWithin
import Derived.Test.YtioncjcmfbndmaaXx0
namespace Go.Proofs.Ytioncjcmfbndmaa.Pure
open Go.RowKit Go.Proofs.Ytioncjcmfbndmaa.X Go.Proofs.YtioncjcmfbndmaaW.PrintWords Go.Proofs.YtioncjcmfbndmaaW.PrintLast
set_option linter.unusedVariables false
set_option linter.unusedSimpArgs false
theorem tot_set : ∀ (l : List (List Int)) (j : Nat) (x : Int), j < l.length → tot (l.set j (l.getD j [] ++ [x])) = tot l + 1
  | [], j, x, h => by simp at h
  | r :: rs, 0, x, h => by simp [tot]; omega
  | r :: rs, j + 1, x, h => by
    have := tot_set rs j x (by simpa using h)
    simp only [List.set_cons_succ, List.getD_cons_succ, tot]
    omega
theorem tot_ge : ∀ (l : List (List Int)) (j : Nat), (l.getD j []).length ≤ tot l
  | [], j => by simp
  | r :: rs, 0 => by simp [tot]
  | r :: rs, j + 1 => by
    have := tot_ge rs j
    simp only [List.getD_cons_succ, tot]
    omega
theorem tot_nil : ∀ n : Nat, tot (List.replicate n []) = 0
  | 0 => rfl
  | n + 1 => by rw [List.replicate_succ, tot, tot_nil n]; rfl
theorem buckets_L (a m : Int) (ks : List ByteArray) (ha : 0 ≤ a ∧ a ≤ 9999) (hm : 1 ≤ m ∧ m ≤ 24) (hl : ks.length ≤ 1048576) (hs : ∀ i, i < ks.length → (ks.getD i ByteArray.empty).size ≤ 1048576) :
    ∀ (d n : Nat) (acc : List (List Int)), n + d = ks.length → (acc.length : Int) = m → tot acc = n → ∃ r, impl_buckets.L0 a m acc ks ks.length n = some r ∧ spec_pfBuckets.L0 a m acc ks ks.length n = some r ∧ (r.length : Int) = m ∧ tot r = ks.length
  | 0, n, acc, h, h1, h2 => by
    refine ⟨acc, ?_, ?_, h1, by omega⟩
    · rw [impl_buckets.L0_eq, if_neg (by omega)]
    · rw [spec_pfBuckets.L0_eq, if_neg (by omega)]
  | d + 1, n, acc, h, h1, h2 => by
    have hp := placeP_bd a 0 (ks.getD n ByteArray.empty) m hm.1
    have ht := tot_ge acc (placeP a 0 (ks.getD n ByteArray.empty) m).toNat
    obtain ⟨r, r1, r2, r3⟩ := buckets_L a m ks ha hm hl hs d (n + 1) (acc.set (placeP a 0 (ks.getD n ByteArray.empty) m).toNat (acc.getD (placeP a 0 (ks.getD n ByteArray.empty) m).toNat [] ++ [(n : Int)])) (by omega) (by simpa using h1) (by rw [tot_set _ _ _ (by omega)]; omega)
    refine ⟨r, ?_, ?_, r3⟩
    · rw [impl_buckets.L0_eq, if_pos (by omega), if_pos (by omega), if_pos (by omega), rdOfn, place_impl a 0 _ m ha (by omega) (hs n (by omega)) (by omega), bsome, if_pos hp.1, if_pos (by omega), show rd_L4 acc (placeP a 0 (ks.getD n ByteArray.empty) m) = acc.getD (placeP a 0 (ks.getD n ByteArray.empty) m).toNat [] from rfl, if_pos (by omega), wn (by omega)]
      exact r1
    · rw [spec_pfBuckets.L0_eq, if_pos (by omega), if_pos (by omega), if_pos (by omega), rdOfn, place_spec a 0 _ m ha (by omega) (hs n (by omega)) (by omega), bsome, if_pos hp.1, if_pos (by omega), show rd_L4 acc (placeP a 0 (ks.getD n ByteArray.empty) m) = acc.getD (placeP a 0 (ks.getD n ByteArray.empty) m).toNat [] from rfl]
      unfold spec_l1Own.f
      rw [bsome, if_pos (by rw [List.length_nil]; omega), bsome, List.nil_append, if_pos (by omega), wn (by omega)]
      exact r2
theorem bucketsOf_both (a m : Int) (ks : List ByteArray) (hl : ks.length ≤ 1048576) (hs : ∀ i, i < ks.length → (ks.getD i ByteArray.empty).size ≤ 1048576) : ∃ q : List (List Int) × Bool, impl_BucketsOf.F a ks m = some q ∧ spec_BucketsOf.F a ks m = some q ∧ SzOk q.1 := by
  rw [impl_BucketsOf.F_eq, spec_BucketsOf.F_eq, isSeed_f, bsome, l1In_f, bsome, keys_impl ks hl hs, keys_spec ks hl hs, bsome, bsome, in_f, bsome, l1In_f, bsome]
  have h0 : SzOk (([] : List (List Int)), false).1 := ⟨by simp, by simp, by simp [tot]⟩
  by_cases h1 : 0 ≤ a ∧ a ≤ 9999
  · rw [if_pos (decide_eq_true h1), if_pos (decide_eq_true h1)]
    by_cases h2 : keysB ks = true
    · rw [if_pos h2, if_pos h2]
      by_cases h3 : 1 ≤ m ∧ m ≤ 24
      · rw [if_pos (decide_eq_true h3), if_pos (decide_eq_true h3), impl_buckets.F_eq, spec_pfBuckets.F_eq, if_pos (by omega), if_pos (by omega), if_pos (by omega), if_pos (by omega)]
        obtain ⟨r, r1, r2, r3, r4⟩ := buckets_L a m ks h1 h3 hl hs ks.length 0 (List.replicate m.toNat []) (by omega) (by simp; omega) (tot_nil _)
        have r1' : impl_buckets.L0 a m (List.replicate m.toNat []) ks ks.length 0 = some r := r1
        have r2' : spec_pfBuckets.L0 a m (List.replicate m.toNat []) ks ks.length 0 = some r := r2
        rw [r1', r2', bsome]
        exact ⟨_, rfl, rfl, by show r.length ≤ 1048576; omega, fun i _ => by have := tot_ge r i; show (r.getD i []).length ≤ 1048576; omega, by show tot r ≤ 1048576; omega⟩
      · rw [if_neg (by simpa using h3), if_neg (by simpa using h3)]; exact ⟨_, rfl, rfl, h0⟩
    · rw [if_neg h2, if_neg h2]; exact ⟨_, rfl, rfl, h0⟩
  · rw [if_neg (by simpa using h1), if_neg (by simpa using h1)]; exact ⟨_, rfl, rfl, h0⟩
theorem FnExactBucketsOf : X.laws_FnExactBucketsOf.Pure := by
  intro a l m w0 w1 w2
  refine Sup.rounds (laws_FnExactBucketsOf.F_sup a l m) ?_
  rw [laws_FnExactBucketsOf.F_eq]
  rcases szStringS_F l 1048576 w1.1 w1.2 (by omega) (by omega) with h | ⟨r, h, h1, h2, hl, hs⟩
  · rw [h, bsome]; rfl
  · obtain ⟨q, hq1, hq2, hq3⟩ := bucketsOf_both a m l hl hs
    obtain ⟨l', hm⟩ := markStringS_F l 1 hl (by omega)
    have ht := hq3.2.2
    rw [h, bsome, if_neg (by omega)]
    simp only [toStringS_F l hl, bsome, hq1, hq2, eqIntSS_F q.1 hq3.1 hq3.2.1, if_true, bne_self_eq_false, Bool.false_eq_true, if_false, eqStringS_F l (by omega), hm, show ¬ (1 + (l.length : Int) < 0) from by omega, markSS_F q.1 1 (by omega) hq3.1 (by omega), heldSS_F q.1 1 (by omega) hq3.1 (by omega), show ¬ (1 + (tot q.1 : Int) < 0) from by omega]
end Go.Proofs.Ytioncjcmfbndmaa.Pure
