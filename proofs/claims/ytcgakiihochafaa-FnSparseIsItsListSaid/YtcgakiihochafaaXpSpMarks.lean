/- What stands in a sparse set that is built: its low digits and its high marks. -/
import Derived.Test.YtcgakiihochafaaXg1a
import Derived.Test.YtcgakiihochafaaXg1b
import Derived.Test.YtcgakiihochafaaXg1c
import Derived.Test.YtcgakiihochafaaXpBase
import Derived.Test.YtcgakiihochafaaXpBitNat
import Derived.Test.YtcgakiihochafaaXpBitPut
import Derived.Test.YtcgakiihochafaaXpFld
import Derived.Test.YtcgakiihochafaaXpSpBuild
import Derived.Test.YtcgakiihochafaaXpSpSorted
import Derived.Test.YtcgakiihochafaaXpSpWidth
set_option linter.unusedVariables false
set_option linter.unusedSimpArgs false
namespace Go.Proofs.Ytcgakiihochafaa.X
open Go.RowKit Go.Proofs.YtcgakiihochafaaW.PrintWords Go.Proofs.YtcgakiihochafaaW.PrintLast
theorem bit_bigS (m i : Nat) (hm : m < 2 ^ 62) (hi : i < 62) : (Go.bits .and .i64 (shr .i64 (m : Int) (i : Int)) 1 == 1) = m.testBit i := by
  rw [shrN m i hi]
  have h1 : m / 2 ^ i < 2 ^ 62 := Nat.lt_of_le_of_lt (Nat.div_le_self _ _) hm
  have h2 := andN (m / 2 ^ i) 1 h1 (by decide)
  rw [show ((1 : Nat) : Int) = 1 from rfl] at h2
  rw [h2, Nat.and_one_is_mod, Nat.testBit_eq_decide_div_mod_eq]
  rcases Nat.mod_two_eq_zero_or_one (m / 2 ^ i) with h | h <;> rw [h] <;> decide
theorem fldS_same (f g : Nat → Bool) : ∀ w : Nat, (∀ j, j < w → f j = g j) → fld f w = fld g w
  | 0, _ => rfl
  | w + 1, h => by rw [fld, fld, fldS_same f g w (fun j hj => h j (by omega)), h w (by omega)]
theorem fldS_bits (m : Nat) : ∀ {w : Nat}, fld (fun j => m.testBit j) w = m % 2 ^ w
  | 0 => by rw [fld, Nat.pow_zero, Nat.mod_one]
  | w + 1 => by
    rw [fld, fldS_bits m (w := w), Nat.mod_pow_succ, Nat.testBit_eq_decide_div_mod_eq]
    rcases Nat.mod_two_eq_zero_or_one (m / 2 ^ w) with h | h <;> simp [h]
theorem biPutS_L (m p w : Nat) (hm : m < 2 ^ 62) (hw : w ≤ 60) : ∀ (d j : Nat) (bs : List Bool), j + d = w → p + w ≤ bs.length → bs.length ≤ 4194304 →
    ∃ bs', spec_biPut.L0 bs p w m j = some bs' ∧ bs'.length = bs.length ∧ (∀ i, i < p + j → bs'.getD i false = bs.getD i false) ∧ ∀ i, j ≤ i → i < w → bs'.getD (p + i) false = m.testBit i
  | 0, j, bs, h, hp, hb => by
    rw [spec_biPut.L0_eq, if_neg (by omega)]
    exact ⟨bs, rfl, rfl, fun i hi => rfl, fun i h1 h2 => by omega⟩
  | d + 1, j, bs, h, hp, hb => by
    have e : wrap64 ((p : Int) + (j : Int)) = ((p + j : Nat) : Int) := by rw [w64 (by omega) (by omega)]; omega
    rw [spec_biPut.L0_eq, if_pos (by omega), if_pos (by omega), e, if_pos (by omega), if_pos (by omega), Int.toNat_natCast, wn (by omega), bit_bigS m j hm (by omega)]
    obtain ⟨b2, e2, e3, e4, e5⟩ := biPutS_L m p w hm hw d (j + 1) (bs.set (p + j) (m.testBit j)) (by omega) (by simpa using hp) (by simpa using hb)
    refine ⟨b2, e2, by simpa using e3, fun i hi => ?_, fun i h1 h2 => ?_⟩
    · rw [e4 i (by omega), getD_set_ne _ _ _ _ _ (by omega)]
    · by_cases h3 : i = j
      · subst h3
        rw [e4 (p + i) (by omega), getD_set_self _ _ _ _ (by omega)]
      · exact e5 i (by omega) h2
theorem biPutS_F (m p w : Nat) (hm : m < 2 ^ 62) (hw : w ≤ 60) (bs : List Bool) (hp : p + w ≤ bs.length) (hb : bs.length ≤ 4194304) :
    ∃ bs', spec_biPut.F bs p w m = some bs' ∧ bs'.length = bs.length ∧ (∀ i, i < p → bs'.getD i false = bs.getD i false) ∧ ∀ i, i < w → bs'.getD (p + i) false = m.testBit i := by
  rw [spec_biPut.F_eq]
  obtain ⟨b, e1, e2, e3, e4⟩ := biPutS_L m p w hm hw w 0 bs (by omega) hp hb
  exact ⟨b, e1, e2, fun i hi => e3 i (by omega), fun i hi => e4 i (by omega) hi⟩
/-- The place of a number's high mark. -/
def hiAt (l : List Int) (w q : Nat) : Nat := (l.getD q 0).toNat / 2 ^ w + q
theorem invL_step (w n : Nat) (x6 y6 : List Bool) (V : Nat → Nat) (i6 : ∀ q j, q < n → j < w → x6.getD (q * w + j) false = (V q).testBit j) (p4 : ∀ i, i < n * w → y6.getD i false = x6.getD i false) (p5 : ∀ i, i < w → y6.getD (n * w + i) false = (V n).testBit i) :
    ∀ q j, q < n + 1 → j < w → y6.getD (q * w + j) false = (V q).testBit j := by
  intro q j hq hj
  by_cases c : q = n
  · subst c
    exact p5 j hj
  · have h1 : (q + 1) * w ≤ n * w := Nat.mul_le_mul_right w (by omega)
    rw [Nat.add_mul, Nat.one_mul] at h1
    rw [p4 _ (Nat.lt_of_lt_of_le (Nat.add_lt_add_left hj _) h1)]
    exact i6 q j (by omega) hj
theorem invH_step (H : Nat → Nat) (n NH : Nat) (x7 : List Bool) (h7 : x7.length = NH) (i7 : ∀ i, i < NH → (x7.getD i false = true ↔ ∃ q, q < n ∧ i = H q)) :
    ∀ i, i < NH → ((x7.set (H n) true).getD i false = true ↔ ∃ q, q < n + 1 ∧ i = H q) := by
  intro i hi
  by_cases c : H n = i
  · rw [c, getD_set_self _ _ _ _ (by rw [h7]; exact hi)]
    exact ⟨fun _ => ⟨n, Nat.lt_succ_self n, c.symm⟩, fun _ => rfl⟩
  · rw [getD_set_ne _ _ _ _ _ c, i7 i hi]
    constructor
    · rintro ⟨q, hq, e⟩
      exact ⟨q, by omega, e⟩
    · rintro ⟨q, hq, e⟩
      refine ⟨q, ?_, e⟩
      by_cases cq : q = n
      · subst cq
        exact absurd e.symm c
      · omega
theorem spOf_L (l : List Int) (m : Int) (w : Nat) (hw : w ≤ 16) (hf : SortedFacts l m) (NH : Nat) (hNH : (NH : Int) = l.length + (m - 1) / 2 ^ w + 1) : ∀ (d n : Nat) (x6 x7 : List Bool), n + d = l.length → x6.length = l.length * w → x7.length = NH →
    (∀ q j, q < n → j < w → x6.getD (q * w + j) false = ((l.getD q 0).toNat % 2 ^ w).testBit j) → (∀ i, i < NH → (x7.getD i false = true ↔ ∃ q, q < n ∧ i = hiAt l w q)) →
    ∃ (y6 y7 : List Bool) (ul uh : List Int), spec_spOf.L0 l m w x6 x7 l l.length n = some ((l.length : Int), m, (w : Int), ((l.length * w : Nat) : Int), ul, (NH : Int), uh) ∧ Rep y6 ul ∧ Rep y7 uh ∧ y6.length = l.length * w ∧ y7.length = NH ∧
      (∀ q j, q < l.length → j < w → y6.getD (q * w + j) false = ((l.getD q 0).toNat % 2 ^ w).testBit j) ∧ ∀ i, i < NH → (y7.getD i false = true ↔ ∃ q, q < l.length ∧ i = hiAt l w q)
  | 0, n, x6, x7, h, h6, h7, i6, i7 => by
    have hn : n = l.length := by omega
    subst hn
    have hlen := hf.2.1
    have hb : l.length * w ≤ 60 * 16 := Nat.mul_le_mul hlen hw
    have hq : (m - 1) / 2 ^ w ≤ 100000 := by
      have := Int.ediv_le_self (a := m - 1) (2 ^ w : Int) (by have := hf.1.1; omega)
      have := hf.1.2
      omega
    obtain ⟨ul, e1, q1⟩ := biSome_F x6 (by omega)
    obtain ⟨uh, e2, q2⟩ := biSome_F x7 (by omega)
    refine ⟨x6, x7, ul, uh, ?_, q1, q2, h6, h7, i6, i7⟩
    rw [spec_spOf.L0_eq, if_neg (by omega), e1, bsome, e2, bsome, h6, h7]
  | d + 1, n, x6, x7, h, h6, h7, i6, i7 => by
    obtain ⟨v, hv, hvb, hb, hb2, hp, hN, hl60⟩ := step_facts l m w hw hf NH hNH n (by omega)
    obtain ⟨l1, l2, l3⟩ := low_eq v w hw hvb
    obtain ⟨y6, p1, p3, p4, p5⟩ := biPutS_F (v % 2 ^ w) (n * w) w (Nat.lt_of_lt_of_le (Nat.mod_lt _ (Nat.two_pow_pos w)) (Nat.pow_le_pow_right (by decide) (Nat.le_trans hw (by decide)))) (Nat.le_trans hw (by decide)) x6 (by rw [h6]; exact hb2) (by rw [h6]; exact hb)
    have hnw : n * w ≤ 4194304 := Nat.le_trans (Nat.le_trans (Nat.le_add_right _ _) hb2) hb
    have e1 : wrap64 ((n : Int) * (w : Int)) = ((n * w : Nat) : Int) := by
      rw [(Int.natCast_mul n w).symm]
      exact w64n hnw
    have e2 : wrap64 (((v / 2 ^ w : Nat) : Int) + (n : Int)) = ((v / 2 ^ w + n : Nat) : Int) := by
      rw [(Int.natCast_add (v / 2 ^ w) n).symm]
      exact w64n (Nat.le_of_lt (Nat.lt_of_lt_of_le hp hN))
    have hn : (n : Int) < (l.length : Int) := by omega
    have hn0 : (0 : Int) ≤ (n : Int) := Int.natCast_nonneg _
    have hw0 : (0 : Int) ≤ (w : Int) := Int.natCast_nonneg _
    have hn' : n < l.length := Int.ofNat_lt.mp hn
    have hn1 : n < 9223372036854775807 := Nat.lt_trans (Nat.lt_of_lt_of_le hn' hl60) (by decide)
    have hw62 : w < 62 := Nat.lt_of_le_of_lt hw (by decide)
    have hp0 : (0 : Int) ≤ ((v / 2 ^ w + n : Nat) : Int) := Int.natCast_nonneg _
    have hp1 : ((v / 2 ^ w + n : Nat) : Int) < (x7.length : Int) := by rw [h7]; exact_mod_cast hp
    have g1 : spec_spOf.L0 l m w x6 x7 l l.length n = spec_spOf.L0 l m w y6 (x7.set (v / 2 ^ w + n) true) l l.length ((n + 1 : Nat) : Int) := by
      rw [spec_spOf.L0_eq, if_pos hn, if_pos hn0, if_pos hn, if_pos hw0, if_neg l3, rdn, hv, l2, e1, p1, bsome, shrN v w hw62, e2, if_pos hp0, if_pos hp1, Int.toNat_natCast, wn hn1]
    rw [g1]
    have hvn : (l.getD n 0).toNat = v := by rw [hv, Int.toNat_natCast]
    refine spOf_L l m w hw hf NH hNH d (n + 1) y6 _ (by rw [← h, Nat.add_assoc, Nat.add_comm 1 d]) (p3.trans h6) (by rw [List.length_set]; exact h7) ?_ ?_
    · exact invL_step w n x6 y6 (fun q => (l.getD q 0).toNat % 2 ^ w) i6 p4 (fun i hi => by rw [p5 i hi, ← hvn])
    · have hh : v / 2 ^ w + n = hiAt l w n := by unfold hiAt; rw [hvn]
      rw [hh]
      exact invH_step (hiAt l w) n NH x7 h7 i7
theorem rep_false (n i : Nat) : (List.replicate n false).getD i false = false := by
  rw [List.getD_eq_getElem?_getD, List.getElem?_replicate]
  split <;> rfl
/-- The width is the greatest one. -/
theorem widthMax_L (n m : Int) (a : Nat) (h1 : spec_l1Most.f n 1 = some (a : Int)) (ha : 1 ≤ a ∧ a ≤ 60) (hm : m ≤ 100000) : ∀ d w : Nat, w + d = 17 → (w = 0 ∨ ((a * 2 ^ w : Nat) : Int) ≤ m) →
    ∃ r : Nat, spec_spWidth.L0 n m w = some (r : Int) ∧ m < ((a * 2 ^ (r + 1) : Nat) : Int)
  | 0, w, h, hw => by
    exfalso
    have : w = 17 := by omega
    subst this
    rcases hw with hw | hw
    · omega
    · have : a * 2 ^ 17 = a * 131072 := by rw [show 2 ^ 17 = 131072 from by decide]
      omega
  | d + 1, w, h, hw => by
    have hp : 2 ^ (w + 1) ≤ 2 ^ 17 := Nat.pow_le_pow_right (by omega) (by omega)
    have h17 : 2 ^ 17 = 131072 := by decide
    have hq : a * 2 ^ (w + 1) ≤ 60 * 131072 := Nat.mul_le_mul ha.2 (by omega)
    have e := shlN a (w + 1) (by omega) (by omega)
    have e1 : spec_spWidth.L0 n m w = if ((a * 2 ^ (w + 1) : Nat) : Int) ≤ m then spec_spWidth.L0 n m ((w + 1 : Nat) : Int) else some (w : Int) := by
      rw [spec_spWidth.L0_eq, h1, bsome, wn (by omega), if_pos (by omega), e]
    rw [e1]
    by_cases h3 : ((a * 2 ^ (w + 1) : Nat) : Int) ≤ m
    · rw [if_pos h3]
      exact widthMax_L n m a h1 ha hm d (w + 1) (by omega) (.inr h3)
    · rw [if_neg h3]
      exact ⟨w, rfl, by omega⟩
theorem widthMax (n : Nat) (m : Int) (w : Nat) (hn : n ≤ 60) (hm : 1 ≤ m ∧ m ≤ 100000) (hw : spec_spWidth.F (n : Int) m = some (w : Int)) : (m - 1) / 2 ^ w + 1 ≤ 2 * (max n 1 : Nat) := by
  have h1 : spec_l1Most.f (n : Int) 1 = some ((max n 1 : Nat) : Int) := by
    unfold spec_l1Most.f
    split <;> (congr 1; omega)
  obtain ⟨r, e, hr⟩ := widthMax_L n m (max n 1) h1 ⟨by omega, by omega⟩ hm.2 17 0 (by omega) (.inl rfl)
  rw [spec_spWidth.F_eq] at hw
  have hrw : r = w := by
    have := Option.some.inj (e.symm.trans hw)
    omega
  subst hrw
  generalize max n 1 = a at *
  have h2 : (m - 1) / 2 ^ r < ((2 * a : Nat) : Int) := by
    apply Int.ediv_lt_of_lt_mul (by exact_mod_cast Nat.two_pow_pos r)
    have : a * 2 ^ (r + 1) = 2 * a * 2 ^ r := by rw [Nat.pow_succ, Nat.mul_comm (2 ^ r) 2, ← Nat.mul_assoc, Nat.mul_comm a 2]
    rw [this, Int.natCast_mul, Int.natCast_pow] at hr
    exact Int.lt_of_le_of_lt (by omega) hr
  omega
end Go.Proofs.Ytcgakiihochafaa.X
