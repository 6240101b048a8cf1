/- Codes read out of a vector: what the program's decoder and the reference's functions read at a place, by the marks that stand there. -/
import Derived.Test.YtkechjheiakibaaXg3ca
import Derived.Test.YtkechjheiakibaaXpBase
import Derived.Test.YtkechjheiakibaaXpBitAt
import Derived.Test.YtkechjheiakibaaXpBitAtProg
import Derived.Test.YtkechjheiakibaaXpBitField
import Derived.Test.YtkechjheiakibaaXpBitFieldProg
import Derived.Test.YtkechjheiakibaaXpBitNat
import Derived.Test.YtkechjheiakibaaXpCodeBits
import Derived.Test.YtkechjheiakibaaXpFld
namespace Go.Proofs.Ytkechjheiakibaa.X
open Go.RowKit Go.Proofs.YtkechjheiakibaaW.PrintWords Go.Proofs.YtkechjheiakibaaW.PrintLast
set_option linter.unusedVariables false
set_option linter.unusedSimpArgs false
def Has (f : Nat → Bool) (a : Nat) (bs : List Bool) : Prop := ∀ i, i < bs.length → f (a + i) = bs.getD i false
theorem Has.app {f : Nat → Bool} {a : Nat} {x y : List Bool} : Has f a (x ++ y) ↔ Has f a x ∧ Has f (a + x.length) y := by
  constructor
  · intro h
    refine ⟨fun i hi => ?_, fun i hi => ?_⟩
    · rw [h i (by simp; omega), getD_app_left x y false i hi]
    · rw [show a + x.length + i = a + (x.length + i) from by omega, h (x.length + i) (by simp; omega), List.getD_eq_getElem?_getD, List.getD_eq_getElem?_getD, List.getElem?_append_right (by omega), Nat.add_sub_cancel_left]
  · rintro ⟨h1, h2⟩ i hi
    by_cases h : i < x.length
    · rw [h1 i h, getD_app_left x y false i h]
    · have := h2 (i - x.length) (by simp at hi; omega)
      rw [show a + x.length + (i - x.length) = a + i from by omega] at this
      rw [this, List.getD_eq_getElem?_getD, List.getD_eq_getElem?_getD, List.getElem?_append_right (by omega)]
theorem Has.tl {f : Nat → Bool} {a n : Nat} : Has f a (tlb n) ↔ ∀ j, j < Nat.log2 n → f (a + j) = n.testBit j := by
  have e : ∀ j, j < Nat.log2 n → (tlb n).getD j false = n.testBit j := fun j hj => by
    rw [tlb, List.getD_eq_getElem?_getD, List.getElem?_map, List.getElem?_range hj]; rfl
  constructor
  · exact fun h j hj => by rw [h j (by rw [tlb_len]; exact hj), e j hj]
  · intro h i hi
    rw [tlb_len] at hi
    rw [h i hi, e i hi]
theorem Has.gm {f : Nat → Bool} {a n : Nat} : Has f a (gmb n) ↔ (∀ i, i < Nat.log2 n → f (a + i) = false) ∧ f (a + Nat.log2 n) = true ∧ ∀ j, j < Nat.log2 n → f (a + Nat.log2 n + 1 + j) = n.testBit j := by
  have e : (a + (List.replicate (Nat.log2 n) false ++ [true]).length) = a + Nat.log2 n + 1 := by simp; omega
  rw [gmb, Has.app, Has.app, Has.tl, e, List.length_replicate]
  constructor
  · rintro ⟨⟨h1, h2⟩, h3⟩
    refine ⟨fun i hi => ?_, ?_, h3⟩
    · rw [h1 i (by simpa using hi)]; simp [List.getD_eq_getElem?_getD, hi]
    · have := h2 0 (by simp)
      simpa using this
  · rintro ⟨h1, h2, h3⟩
    refine ⟨⟨fun i hi => ?_, fun i hi => ?_⟩, h3⟩
    · rw [List.length_replicate] at hi
      rw [h1 i hi]; simp [List.getD_eq_getElem?_getD, hi]
    · have : i = 0 := by simp at hi; omega
      subst this
      simpa using h2
theorem fld_testBit (f : Nat → Bool) : ∀ w j, j < w → (fld f w).testBit j = f j
  | w + 1, j, h => by
    have hl := fld_lt f w
    rw [fld]
    cases hf : f w with
    | true =>
      rw [if_pos rfl, Nat.add_comm]
      by_cases e : j = w
      · subst e
        rw [Nat.testBit_two_pow_add_eq, Nat.testBit_lt_two_pow hl, hf]; rfl
      · rw [Nat.testBit_two_pow_add_gt (by omega), fld_testBit f w j (by omega)]
    | false =>
      rw [if_neg (by decide), Nat.add_zero]
      by_cases e : j = w
      · subst e
        rw [Nat.testBit_lt_two_pow hl, hf]
      · exact fld_testBit f w j (by omega)
theorem fld_same' (f g : Nat → Bool) : ∀ w : Nat, (∀ j, j < w → f j = g j) → fld f w = fld g w
  | 0, _ => rfl
  | w + 1, h => by rw [fld, fld, fld_same' f g w (fun j hj => h j (by omega)), h w (by omega)]
theorem fld_bits' (m : Nat) : ∀ {w : Nat}, fld (fun j => m.testBit j) w = m % 2 ^ w
  | 0 => by rw [fld, Nat.pow_zero, Nat.mod_one]
  | w + 1 => by
    rw [fld, fld_bits' m (w := w), Nat.mod_pow_succ, Nat.testBit_eq_decide_div_mod_eq]
    rcases Nat.mod_two_eq_zero_or_one (m / 2 ^ w) with h | h <;> simp [h]
theorem log2_top (l x : Nat) (h : x < 2 ^ l) : Nat.log2 (2 ^ l + x) = l := by
  have := Nat.two_pow_pos l
  rw [Nat.log2_eq_iff (by omega), Nat.pow_succ]
  omega
theorem top_bit (l x j : Nat) (h : j < l) : (2 ^ l + x).testBit j = x.testBit j := Nat.testBit_two_pow_add_gt h x
theorem nat_top (n : Nat) (h : 0 < n) : n = 2 ^ Nat.log2 n + n % 2 ^ Nat.log2 n := by
  have h1 := Nat.log2_self_le (n := n) (by omega)
  have h2 := Nat.lt_log2_self (n := n)
  rw [Nat.pow_succ] at h2
  generalize 2 ^ Nat.log2 n = p at *
  have : n % p = n - p := by rw [Nat.mod_eq_sub_mod h1, Nat.mod_eq_of_lt (by omega)]
  omega
theorem same_bits {m n : Nat} (hm : 0 < m) (hn : 0 < n) (hl : Nat.log2 m = Nat.log2 n) (hb : ∀ j, j < Nat.log2 n → m.testBit j = n.testBit j) : m = n := by
  rw [nat_top m hm, nat_top n hn, hl]
  congr 1
  apply Nat.eq_of_testBit_eq
  intro j
  rw [Nat.testBit_mod_two_pow, Nat.testBit_mod_two_pow]
  by_cases h : j < Nat.log2 n
  · rw [hb j h]
  · simp [h]
theorem gm_unique {f : Nat → Bool} {a m n : Nat} (hm : 0 < m) (hn : 0 < n) (h1 : Has f a (gmb m)) (h2 : Has f a (gmb n)) : m = n := by
  rw [Has.gm] at h1 h2
  obtain ⟨a1, a2, a3⟩ := h1
  obtain ⟨b1, b2, b3⟩ := h2
  have hl : Nat.log2 m = Nat.log2 n := by
    rcases Nat.lt_trichotomy (Nat.log2 m) (Nat.log2 n) with h | h | h
    · rw [b1 _ h] at a2; cases a2
    · exact h
    · rw [a1 _ h] at b2; cases b2
  refine same_bits hm hn hl fun j hj => ?_
  rw [← b3 j hj, ← a3 j (by omega), hl]
theorem dl_unique {f : Nat → Bool} {a m n : Nat} (hm : 0 < m) (hn : 0 < n) (h1 : Has f a (dlb m)) (h2 : Has f a (dlb n)) : m = n := by
  rw [dlb, Has.app, Has.tl] at h1 h2
  have hl : Nat.log2 m = Nat.log2 n := by
    have := gm_unique (by omega) (by omega) h1.1 h2.1
    omega
  refine same_bits hm hn hl fun j hj => ?_
  have e2 := h2.2 j hj
  have e1 := h1.2 j (by omega)
  rw [hl] at e1
  rw [← e1, ← e2]
section
variable (N : Nat) (ws : List Int) (hW : Words ws) (hN : N ≤ 16 * ws.length) (hM : N ≤ 4096)
include hW hN hM
theorem next_both : ∀ (d a : Nat), a + d = N → ∃ t, a ≤ t ∧ t ≤ N ∧ (∀ i, a ≤ i → i < t → bitAt ws i = false) ∧ (t < N → bitAt ws t = true) ∧ impl_Bits_next.L0 a true N ws = some (t : Int) ∧ spec_biNext.L0 true a N ws = some (if t < N then (t : Int) else -1)
  | 0, a, h => by
    refine ⟨a, Nat.le_refl _, by omega, fun i h1 h2 => by omega, fun h1 => by omega, ?_, ?_⟩
    · rw [impl_Bits_next.L0_eq, if_neg (by omega)]
    · rw [spec_biNext.L0_eq, if_neg (by omega), if_neg (by omega)]
  | d + 1, a, h => by
    rw [impl_Bits_next.L0_eq, spec_biNext.L0_eq, if_pos (by omega), if_pos (by omega), bitsAt_F N ws a hW (by omega) (by omega), biAt_F N ws a hW (by omega) (by omega), bsome, bsome, wn (by omega)]
    cases hb : bitAt ws a with
    | true =>
      rw [if_neg (by decide), if_pos (by decide)]
      exact ⟨a, Nat.le_refl _, by omega, fun i h1 h2 => by omega, fun _ => hb, rfl, by rw [if_pos (by omega)]⟩
    | false =>
      obtain ⟨t, h1, h2, h3, h4, h5, h6⟩ := next_both d (a + 1) (by omega)
      rw [if_pos (by decide), if_neg (by decide)]
      refine ⟨t, by omega, h2, fun i g1 g2 => ?_, h4, h5, h6⟩
      by_cases e : i = a
      · rw [e]; exact hb
      · exact h3 i (by omega) g2
theorem spRead_F (p l : Nat) (hp : p ≤ 10000) (hl : l ≤ 300000) : spec_spRead.F N ws p l = some (if l ≤ 16 ∧ p + l ≤ N then (((2 ^ l + fld (fun j => bitAt ws (p + j)) l : Nat) : Int), ((p + l : Nat) : Int)) else (0, ((N + 1 : Nat) : Int))) := by
  rw [spec_spRead.F_eq, wn (by omega)]
  have e : wrap64 ((p : Int) + (l : Int)) = ((p + l : Nat) : Int) := by rw [w64 (by omega) (by omega)]; omega
  by_cases h : l ≤ 16 ∧ p + l ≤ N
  · have hf := fld_lt (fun j => bitAt ws (p + j)) l
    have hq : 2 ^ l ≤ 2 ^ 16 := Nat.pow_le_pow_right (by omega) h.1
    have h16 : 2 ^ 16 = 65536 := by decide
    rw [if_pos h, if_neg (by omega), e, if_neg (by omega), if_pos (by omega), biField_F N ws p l hW (fun j hj => by omega) (by omega) (by omega), bsome, shl1 l (by omega), w64 (by omega) (by omega)]
    congr 2
  · rw [if_neg h]
    by_cases h1 : l ≤ 16
    · rw [if_neg (by omega), e, if_pos (by omega)]
    · rw [if_pos (by omega)]
theorem decField_F (p l : Nat) (hp : p ≤ N) (hl : l ≤ 24) : impl_decoder_field.F N ws p false l = some (if p + l ≤ N then (((fld (fun j => bitAt ws (p + j)) l : Nat) : Int), ((p + l : Nat) : Int), false) else (0, (p : Int), true)) := by
  have e : wrap64 ((p : Int) + (l : Int)) = ((p + l : Nat) : Int) := by rw [w64 (by omega) (by omega)]; omega
  have e2 : wrap64 (((p + l : Nat) : Int) - (l : Int)) = (p : Int) := by rw [w64 (by omega) (by omega)]; omega
  rw [impl_decoder_field.F_eq, if_neg (by decide), if_neg (by omega), e]
  by_cases h : p + l ≤ N
  · rw [if_neg (by omega), e2, if_pos h, bitsField_F N ws p l hW (fun j hj => by omega) (by omega) (by omega), bsome]
  · rw [if_pos (by omega), if_neg h]
omit hW hN hM in
theorem decField_bad (p l : Int) (b : Int) : impl_decoder_field.F b ws p true l = some (0, p, true) := by
  rw [impl_decoder_field.F_eq, if_pos rfl]
omit hW hN hM in
theorem orTop (l v : Nat) (hl : l ≤ 24) (hv : v < 2 ^ l) : Go.bits .or .i64 (shl .i64 1 (l : Int)) (v : Int) = ((2 ^ l + v : Nat) : Int) := by
  have h1 : 2 ^ l ≤ 2 ^ 24 := Nat.pow_le_pow_right (by omega) hl
  have h2 : 2 ^ 24 < 2 ^ 62 := by decide
  rw [shl1 l (by omega), orN _ _ (by omega) (by omega), Nat.or_comm, or_top hv, Nat.add_comm]
/-- What the program's decoder reads at a place: t is the next mark that is on (or the end). -/
theorem decGamma_F (a t : Nat) (ha : a ≤ t) (ht : t ≤ N) (hn : impl_Bits_next.L0 a true N ws = some (t : Int)) :
    impl_decoder_gamma.F N ws a false = some (if t - a ≤ 24 ∧ min (t + 1) N + (t - a) ≤ N then (((2 ^ (t - a) + fld (fun j => bitAt ws (min (t + 1) N + j)) (t - a) : Nat) : Int), ((min (t + 1) N + (t - a) : Nat) : Int), false) else if t - a ≤ 24 then (((2 ^ (t - a) : Nat) : Int), ((min (t + 1) N : Nat) : Int), true) else (0, ((min (t + 1) N : Nat) : Int), true)) := by
  have e1 : wrap64 ((t : Int) - (a : Int)) = ((t - a : Nat) : Int) := by rw [w64 (by omega) (by omega)]; omega
  have e2 : wrap64 ((a : Int) + ((t - a : Nat) : Int)) = (t : Int) := by rw [w64 (by omega) (by omega)]; omega
  have e3 : mn ((t + 1 : Nat) : Int) (N : Int) = ((min (t + 1) N : Nat) : Int) := by unfold mn; split <;> omega
  rw [impl_decoder_gamma.F_eq, if_neg (by decide), impl_Bits_next.F_eq, hn, bsome, e1, e2, wn (by omega), e3]
  by_cases h : t - a ≤ 24
  · rw [if_neg (by omega), if_pos (by omega), decField_F N ws hW hN hM _ _ (by omega) h, bsome]
    by_cases h2 : min (t + 1) N + (t - a) ≤ N
    · rw [if_pos h2, if_pos ⟨h, h2⟩]
      simp only
      rw [orTop _ _ h (fld_lt _ _)]
    · rw [if_neg h2, if_neg (fun x => h2 x.2), if_pos h]
      simp only
      have := orTop (t - a) 0 h (Nat.two_pow_pos _)
      rw [show ((0 : Nat) : Int) = 0 from rfl, Nat.add_zero] at this
      rw [this]
  · rw [if_pos (by omega), if_neg (fun x => h x.1), if_neg h]
omit hW hN hM in
theorem decGamma_bad (a b : Int) : impl_decoder_gamma.F b ws a true = some (0, a, true) := by
  rw [impl_decoder_gamma.F_eq, if_pos rfl]
/-- Whatever stands there, the decoder reads on. -/
theorem gamma_total (a : Nat) (ha : a ≤ N) (bad : Bool) : ∃ (g1 : Int) (g2 : Nat) (g3 : Bool), impl_decoder_gamma.F N ws a bad = some (g1, (g2 : Int), g3) ∧ g2 ≤ N := by
  cases bad with
  | true => exact ⟨_, _, _, decGamma_bad ws a N, ha⟩
  | false =>
    obtain ⟨t, h1, h2, h3, h4, h5, h6⟩ := next_both N ws hW hN hM (N - a) a (by omega)
    rw [decGamma_F N ws hW hN hM a t h1 h2 h5]
    by_cases c : t - a ≤ 24 ∧ min (t + 1) N + (t - a) ≤ N
    · rw [if_pos c]; exact ⟨_, _, _, rfl, c.2⟩
    · rw [if_neg c]
      split
      · exact ⟨_, _, _, rfl, by omega⟩
      · exact ⟨_, _, _, rfl, by omega⟩
theorem delta_total (a : Nat) (ha : a ≤ N) (bad : Bool) : ∃ (g1 : Int) (g2 : Nat) (g3 : Bool), impl_decoder_delta.F N ws a bad = some (g1, (g2 : Int), g3) ∧ g2 ≤ N := by
  obtain ⟨g1, g2, g3, e, h⟩ := gamma_total N ws hW hN hM a ha bad
  rw [impl_decoder_delta.F_eq, e, bsome]
  simp only
  by_cases c1 : wrap64 (g1 - 1) < 0
  · rw [if_pos c1]; exact ⟨_, _, _, rfl, h⟩
  · rw [if_neg c1]
    by_cases c2 : wrap64 (g1 - 1) > 24
    · rw [if_pos c2]; exact ⟨_, _, _, rfl, h⟩
    · rw [if_neg c2]
      obtain ⟨l, hl⟩ := Int.eq_ofNat_of_zero_le (show 0 ≤ wrap64 (g1 - 1) by omega)
      rw [hl]
      cases g3 with
      | true => rw [decField_bad, bsome]; exact ⟨_, _, _, rfl, h⟩
      | false =>
        rw [decField_F N ws hW hN hM g2 l h (by omega), bsome]
        by_cases c3 : g2 + l ≤ N
        · rw [if_pos c3]; exact ⟨_, _, _, rfl, c3⟩
        · rw [if_neg c3]; exact ⟨_, _, _, rfl, h⟩
omit hW hN hM in
/-- A code that stands there is read, by both. -/
theorem gamma_at (a t n : Nat) (hn : 0 < n) (h : Has (bitAt ws) a (gmb n)) (hb : a + (gmb n).length ≤ N) (h1 : a ≤ t) (h3 : ∀ i, a ≤ i → i < t → bitAt ws i = false) (h4 : t < N → bitAt ws t = true) (h2 : t ≤ N) : t = a + Nat.log2 n ∧ fld (fun j => bitAt ws (t + 1 + j)) (Nat.log2 n) = n % 2 ^ Nat.log2 n := by
  rw [Has.gm] at h
  rw [gmb_len] at hb
  obtain ⟨g1, g2, g3⟩ := h
  have ht : t = a + Nat.log2 n := by
    rcases Nat.lt_trichotomy t (a + Nat.log2 n) with c | c | c
    · have := g1 (t - a) (by omega)
      rw [show a + (t - a) = t from by omega, h4 (by omega)] at this
      cases this
    · exact c
    · rw [h3 _ (by omega) c] at g2; cases g2
  refine ⟨ht, ?_⟩
  rw [← fld_bits' n]
  exact fld_same' _ _ _ fun j hj => by rw [ht]; exact g3 j hj
theorem decGamma_at (a n : Nat) (hn : 0 < n) (h16 : Nat.log2 n ≤ 16) (h : Has (bitAt ws) a (gmb n)) (hb : a + (gmb n).length ≤ N) : impl_decoder_gamma.F N ws a false = some ((n : Int), ((a + (gmb n).length : Nat) : Int), false) := by
  have hg := gmb_len n
  obtain ⟨t, h1, h2, h3, h4, h5, h6⟩ := next_both N ws hW hN hM (N - a) a (by omega)
  obtain ⟨ht, hf⟩ := gamma_at N ws a t n hn h hb h1 h3 h4 h2
  have hl : t - a = Nat.log2 n := by omega
  have hm : min (t + 1) N = t + 1 := by omega
  rw [decGamma_F N ws hW hN hM a t h1 h2 h5, hl, hm, if_pos (by omega), hf, ← nat_top n hn]
  congr 3
  omega
theorem decDelta_at (a n : Nat) (hn : 0 < n) (h16 : Nat.log2 n ≤ 16) (h : Has (bitAt ws) a (dlb n)) (hb : a + (dlb n).length ≤ N) : impl_decoder_delta.F N ws a false = some ((n : Int), ((a + (dlb n).length : Nat) : Int), false) := by
  rw [dlb, Has.app] at h
  rw [dlb, List.length_append, tlb_len] at hb ⊢
  have h5 := log_5 (n := Nat.log2 n + 1) (by omega) (by omega)
  have e : wrap64 (((Nat.log2 n + 1 : Nat) : Int) - 1) = (Nat.log2 n : Int) := wp (by omega)
  rw [impl_decoder_delta.F_eq, decGamma_at N ws hW hN hM a (Nat.log2 n + 1) (by omega) (by omega) h.1 (by omega), bsome]
  simp only [e]
  rw [if_neg (by omega), if_neg (by omega), decField_F N ws hW hN hM _ _ (by omega) (by omega), if_pos (by omega), bsome]
  simp only
  rw [orTop _ _ (by omega) (fld_lt _ _)]
  have hf : fld (fun j => bitAt ws (a + (gmb (Nat.log2 n + 1)).length + j)) (Nat.log2 n) = n % 2 ^ Nat.log2 n := by
    rw [← fld_bits' n]
    exact fld_same' _ _ _ fun j hj => (Has.tl.1 h.2) j hj
  rw [hf, ← nat_top n hn]
  congr 3
  omega
end
end Go.Proofs.Ytkechjheiakibaa.X
