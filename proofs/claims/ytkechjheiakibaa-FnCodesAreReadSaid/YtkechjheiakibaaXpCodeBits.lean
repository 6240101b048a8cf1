/- The codes of numbers as lists of marks; that the program's coder and the reference's functions append just these. -/
import Derived.Test.YtkechjheiakibaaXg3fa
import Derived.Test.YtkechjheiakibaaXg7fa
import Derived.Test.YtkechjheiakibaaXpBase
import Derived.Test.YtkechjheiakibaaXpBitNat
import Derived.Test.YtkechjheiakibaaXpDigits
namespace Go.Proofs.Ytkechjheiakibaa.X
open Go.RowKit Go.Proofs.YtkechjheiakibaaW.PrintWords Go.Proofs.YtkechjheiakibaaW.PrintLast
set_option linter.unusedVariables false
set_option linter.unusedSimpArgs false
def tlb (n : Nat) : List Bool := (List.range (Nat.log2 n)).map n.testBit
def gmb (n : Nat) : List Bool := List.replicate (Nat.log2 n) false ++ [true] ++ tlb n
def dlb (n : Nat) : List Bool := gmb (Nat.log2 n + 1) ++ tlb n
theorem tlb_len (n : Nat) : (tlb n).length = Nat.log2 n := by simp [tlb]
theorem gmb_len (n : Nat) : (gmb n).length = 2 * Nat.log2 n + 1 := by simp [gmb, tlb_len]; omega
theorem log_17 {n : Nat} (h0 : 0 < n) (h : n ≤ 100000) : Nat.log2 n ≤ 16 := by
  have := (Nat.log2_lt (n := n) (k := 17) (by omega)).2 (by omega)
  omega
theorem log_5 {n : Nat} (h0 : 0 < n) (h : n ≤ 17) : Nat.log2 n ≤ 4 := by
  have := (Nat.log2_lt (n := n) (k := 5) (by omega)).2 (by omega)
  omega
theorem gmb_40 (n : Nat) (h0 : 0 < n) (h : n ≤ 100000) : (gmb n).length ≤ 40 := by
  have := log_17 h0 h
  rw [gmb_len]; omega
theorem dlb_40 (n : Nat) (h0 : 0 < n) (h : n ≤ 100000) : (dlb n).length ≤ 40 := by
  have h1 := log_17 h0 h
  have h2 := log_5 (n := Nat.log2 n + 1) (by omega) (by omega)
  have : (dlb n).length = 2 * Nat.log2 (Nat.log2 n + 1) + 1 + Nat.log2 n := by rw [dlb, List.length_append, gmb_len, tlb_len]
  omega
theorem bit_bigA (m i : Nat) (hm : m < 2 ^ 62) (hi : i < 62) : (Go.bits .and .i64 (shr .i64 (m : Int) (i : Int)) 1 == 1) = m.testBit i := by
  rw [shrN m i hi]
  have h1 : m / 2 ^ i < 2 ^ 62 := Nat.lt_of_le_of_lt (Nat.div_le_self _ _) hm
  have h2 := andN (m / 2 ^ i) 1 h1 (by decide)
  rw [show ((1 : Nat) : Int) = 1 from rfl] at h2
  rw [h2, Nat.and_one_is_mod, Nat.testBit_eq_decide_div_mod_eq]
  rcases Nat.mod_two_eq_zero_or_one (m / 2 ^ i) with h | h <;> rw [h] <;> decide
theorem getD_ext {a b : List Bool} (hl : a.length = b.length) (h : ∀ i, i < a.length → a.getD i false = b.getD i false) : a = b := by
  apply List.ext_getElem hl
  intro i h1 h2
  have := h i h1
  rw [List.getD_eq_getElem?_getD, List.getD_eq_getElem?_getD, List.getElem?_eq_getElem h1, List.getElem?_eq_getElem h2] at this
  exact this
theorem biPut_L (m w : Nat) (hm : m < 2 ^ 62) (hw : w ≤ 60) : ∀ (d j : Nat) (bs : List Bool), j + d = w → w ≤ bs.length → bs.length ≤ 4194304 → (∀ i, i < j → bs.getD i false = m.testBit i) →
    ∃ bs', spec_biPut.L0 bs 0 w m j = some bs' ∧ bs'.length = bs.length ∧ ∀ i, i < w → bs'.getD i false = m.testBit i
  | 0, j, bs, h, hp, hb, hr => by
    rw [spec_biPut.L0_eq, if_neg (by omega)]
    exact ⟨bs, rfl, rfl, fun i hi => hr i (by omega)⟩
  | d + 1, j, bs, h, hp, hb, hr => by
    have e : wrap64 ((0 : Int) + (j : Int)) = (j : Int) := by rw [w64 (by omega) (by omega)]; omega
    rw [spec_biPut.L0_eq, if_pos (by omega), if_pos (by omega), e, if_pos (by omega), if_pos (by omega), Int.toNat_natCast, wn (by omega), bit_bigA m j hm (by omega)]
    obtain ⟨b2, e2, e3, e4⟩ := biPut_L m w hm hw d (j + 1) (bs.set j (m.testBit j)) (by omega) (by simpa using hp) (by simpa using hb) (fun i hi => by
      by_cases h1 : j = i
      · subst h1
        rw [getD_set_self _ _ _ _ (by omega)]
      · rw [getD_set_ne _ _ _ _ _ h1]
        exact hr i (by omega))
    exact ⟨b2, e2, by simpa using e3, e4⟩
theorem spTail_F (n : Nat) (h0 : 0 < n) (h : n < 16777216) : spec_spTail.F (n : Int) = some (tlb n) := by
  have hl : Nat.log2 n < 24 := (Nat.log2_lt (by omega)).2 (by omega)
  have h1 := Nat.log2_self_le (n := n) (by omega)
  have h2 := Nat.lt_log2_self (n := n)
  generalize hL : Nat.log2 n = l at *
  obtain ⟨r, hr⟩ : ∃ r, n = 2 ^ l + r := ⟨n - 2 ^ l, by omega⟩
  have e : wrap64 ((n : Int) - shl .i64 1 (l : Int)) = (r : Int) := by
    rw [shl1 l (by omega), w64 (by omega) (by omega)]; omega
  obtain ⟨b, e1, e2, e3⟩ := biPut_L r l (Nat.lt_of_lt_of_le (show r < 16777216 from by omega) (by decide)) (by omega) l 0 (List.replicate l false) (by omega) (by simp) (by simp; omega) (fun i hi => by omega)
  have e1' : spec_biPut.L0 (List.replicate l false) 0 l r 0 = some b := e1
  rw [spec_spTail.F_eq, spDigits_F n h0 h, hL, bsome, if_pos (by omega), if_pos (by omega), Int.toNat_natCast, e, spec_biPut.F_eq, e1', bsome]
  congr 1
  refine getD_ext (by rw [e2, tlb_len, hL]; simp) (fun i hi => ?_)
  rw [e2, List.length_replicate] at hi
  rw [e3 i hi, tlb, hL, List.getD_eq_getElem?_getD, List.getElem?_map, List.getElem?_range hi, Option.map_some, Option.getD_some, hr, Nat.testBit_two_pow_add_gt hi]
theorem spGamma_F (n : Nat) (h0 : 0 < n) (h : n < 16777216) : spec_spGamma.F (n : Int) = some (gmb n) := by
  have hl : Nat.log2 n < 24 := (Nat.log2_lt (by omega)).2 (by omega)
  have ht := tlb_len n
  rw [spec_spGamma.F_eq, spDigits_F n h0 h, bsome, if_pos (by omega), if_pos (by omega), Int.toNat_natCast, bsome, if_pos (by simp; omega), bsome, spTail_F n h0 h, bsome, if_pos (by simp; omega)]
  rfl
theorem spDelta_F (n : Nat) (h0 : 0 < n) (h : n < 16777216) : spec_spDelta.F (n : Int) = some (dlb n) := by
  have hl : Nat.log2 n < 24 := (Nat.log2_lt (by omega)).2 (by omega)
  have ht := tlb_len n
  have hg := gmb_len (Nat.log2 n + 1)
  have h5 : Nat.log2 (Nat.log2 n + 1) < 24 := (Nat.log2_lt (by omega)).2 (by omega)
  rw [spec_spDelta.F_eq, spDigits_F n h0 h, bsome, wn (by omega), spGamma_F _ (by omega) (by omega), bsome, spTail_F n h0 h, bsome, if_pos (by omega)]
  rfl
theorem cfield_L (m w : Nat) (hm : m < 2 ^ 62) (hw : w ≤ 60) : ∀ (d j : Nat) (acc : List Bool), j + d = w → acc.length + d ≤ 1000000 → impl_coder_field.L0 acc j m w = some (acc ++ (List.range' j d).map m.testBit)
  | 0, j, acc, h, hb => by rw [impl_coder_field.L0_eq, if_neg (by omega)]; simp
  | d + 1, j, acc, h, hb => by
    rw [impl_coder_field.L0_eq, if_pos (by omega), if_pos (by omega), if_pos (by omega), wn (by omega), bit_bigA m j hm (by omega), cfield_L m w hm hw d (j + 1) _ (by omega) (by simp; omega), List.range'_succ, List.map_cons, List.append_assoc]
    rfl
theorem cfield_F (m w : Nat) (hm : m < 2 ^ 62) (hw : w ≤ 60) (acc : List Bool) (hb : acc.length + w ≤ 1000000) : impl_coder_field.F acc m w = some (acc ++ (List.range w).map m.testBit) := by
  rw [impl_coder_field.F_eq, List.range_eq_range']
  exact cfield_L m w hm hw w 0 acc (by omega) hb
theorem map_zero (l : Nat) : (List.range l).map (Nat.testBit 0) = List.replicate l false := by
  refine getD_ext (by simp) (fun i hi => ?_)
  simp at hi
  simp [List.getD_eq_getElem?_getD, hi]
theorem cgamma_F (n : Nat) (h0 : 0 < n) (h : n < 16777216) (acc : List Bool) (hb : acc.length ≤ 100000) : impl_coder_gamma.F acc n = some (acc ++ gmb n) := by
  have hl : Nat.log2 n < 24 := (Nat.log2_lt (by omega)).2 (by omega)
  have z := cfield_F 0 (Nat.log2 n) (by decide) (by omega) acc (by omega)
  rw [map_zero, show ((0 : Nat) : Int) = 0 from rfl] at z
  have o := cfield_F 1 1 (by decide) (by omega) (acc ++ List.replicate (Nat.log2 n) false) (by simp; omega)
  rw [show (List.range 1).map (Nat.testBit 1) = [true] from by decide, show ((1 : Nat) : Int) = 1 from rfl] at o
  rw [impl_coder_gamma.F_eq, digits_F n h0 h, bsome, z, bsome, o, bsome, cfield_F n _ (Nat.lt_of_lt_of_le h (by decide)) (by omega) _ (by simp; omega), gmb, tlb]
  simp only [List.append_assoc]
theorem cdelta_F (n : Nat) (h0 : 0 < n) (h : n < 16777216) (acc : List Bool) (hb : acc.length ≤ 90000) : impl_coder_delta.F acc n = some (acc ++ dlb n) := by
  have hl : Nat.log2 n < 24 := (Nat.log2_lt (by omega)).2 (by omega)
  have h5 : Nat.log2 (Nat.log2 n + 1) < 24 := (Nat.log2_lt (by omega)).2 (by omega)
  have hg := gmb_len (Nat.log2 n + 1)
  rw [impl_coder_delta.F_eq, digits_F n h0 h, bsome, wn (by omega), cgamma_F _ (by omega) (by omega) acc (by omega), bsome, cfield_F n _ (Nat.lt_of_lt_of_le h (by decide)) (by omega) _ (by simp; omega), dlb, tlb]
  simp only [List.append_assoc]
end Go.Proofs.Ytkechjheiakibaa.X
