/- A list of numbers and its codes: the program's encoder and the reference's give the same vector, for whatever list. -/
import Derived.Test.YtkechjheiakibaaXg3fa
import Derived.Test.YtkechjheiakibaaXg3fb
import Derived.Test.YtkechjheiakibaaXg7fa
import Derived.Test.YtkechjheiakibaaXpBase
import Derived.Test.YtkechjheiakibaaXpBitNat
import Derived.Test.YtkechjheiakibaaXpBitPut
import Derived.Test.YtkechjheiakibaaXpCodeBits
import Derived.Test.YtkechjheiakibaaXpMadeBits
import Derived.Test.YtkechjheiakibaaXpWithin
namespace Go.Proofs.Ytkechjheiakibaa.X
open Go.RowKit Go.Proofs.YtkechjheiakibaaW.PrintWords Go.Proofs.YtkechjheiakibaaW.PrintLast
set_option linter.unusedVariables false
set_option linter.unusedSimpArgs false
def cfl (code : Nat → List Bool) (l : List Int) : List Bool := (l.map fun x => code x.toNat).flatten
theorem cfl_snoc (code : Nat → List Bool) (l : List Int) (n : Nat) (h : n < l.length) : cfl code (l.take (n + 1)) = cfl code (l.take n) ++ code (l.getD n 0).toNat := by
  unfold cfl
  rw [take_succ_getD l 0 n h, List.map_append, List.flatten_append]
  simp
theorem cfl_len (code : Nat → List Bool) (hc : ∀ n, 0 < n → n ≤ 100000 → (code n).length ≤ 40) (l : List Int) (hl : allIn l 1 100000 = true) : (cfl code l).length ≤ 40 * l.length := by
  induction l with
  | nil => simp [cfl]
  | cons x l ih =>
    have h1 : (1 ≤ x ∧ x ≤ 100000) ∧ allIn l 1 100000 = true := by
      unfold allIn at hl ⊢
      rw [List.all_cons, Bool.and_eq_true, decide_eq_true_eq] at hl
      exact hl
    have h2 := ih h1.2
    have h3 := hc x.toNat (by omega) (by omega)
    have : (cfl code (x :: l)).length = (code x.toNat).length + (cfl code l).length := by simp [cfl]
    rw [this, List.length_cons]
    omega
theorem allIn_take (l : List Int) (a b : Int) (n : Nat) (h : allIn l a b = true) : allIn (l.take n) a b = true := by
  unfold allIn at *
  rw [List.all_eq_true] at *
  exact fun x hx => h x (List.mem_of_mem_take hx)
theorem allIn_atA {l : List Int} {a b : Int} (h : allIn l a b = true) (n : Nat) (hn : n < l.length) : a ≤ l.getD n 0 ∧ l.getD n 0 ≤ b := by
  unfold allIn at h
  rw [List.all_eq_true] at h
  exact of_decide_eq_true (h _ (getD_mem l 0 n hn))
def EncEq (C : List Bool → Int → Option (List Bool)) (L : List Int → Int → List Bool → Option (Int × List Int × Bool)) : Prop := ∀ (l0 : List Int) (x12 : Int) (x6 : List Bool), L l0 x12 x6 = if x12 < (l0.length : Int) then (if 0 ≤ x12 then ((impl_in.f (rd l0 x12) 1 100000).bind fun t1 => (if t1 = true then (if (x6.length : Int) ≤ 4096 then ((C x6 (rd l0 x12)).bind fun t2 => (L l0 (wrap64 (x12 + 1)) t2)) else (L l0 (wrap64 (x12 + 1)) x6)) else (some (0, [], false)))) else (none)) else (if (l0.length : Int) > 60 then (some (0, [], false)) else ((impl_madeBits_at_impl_encode_1.F (x6.length : Int) x6).bind fun bt => (some (bt.1, bt.2, true))))
section
variable {code : Nat → List Bool} {C : List Bool → Int → Option (List Bool)} {L : List Int → Int → List Bool → Option (Int × List Int × Bool)} (hL : EncEq C L) (hC : ∀ (acc : List Bool) (n : Nat), 0 < n → n ≤ 100000 → acc.length ≤ 5000 → C acc (n : Int) = some (acc ++ code n)) (hc : ∀ n, 0 < n → n ≤ 100000 → (code n).length ≤ 40)
include hL hC hc
theorem enc_no (l : List Int) (hl : l.length ≤ 1048576) : ∀ (d n : Nat) (acc : List Bool), n + d = l.length → acc.length ≤ 4200 → (allIn (l.drop n) 1 100000 = false ∨ l.length > 60) → L l n acc = some (0, [], false)
  | 0, n, acc, h, ha, hx => by
    rw [hL, if_neg (by omega), if_pos]
    rcases hx with hx | hx
    · rw [List.drop_eq_nil_of_le (by omega)] at hx
      exact absurd hx (by simp [allIn])
    · omega
  | d + 1, n, acc, h, ha, hx => by
    rw [hL, if_pos (by omega), if_pos (by omega), rdn, in_f, bsome]
    by_cases hv : 1 ≤ l.getD n 0 ∧ l.getD n 0 ≤ 100000
    · rw [if_pos (decide_eq_true hv), wn (by omega)]
      have hx' : allIn (l.drop (n + 1)) 1 100000 = false ∨ l.length > 60 := by
        rcases hx with hx | hx
        · rw [allIn_drop l 1 100000 n (by omega), decide_eq_true hv, Bool.true_and] at hx
          exact .inl hx
        · exact .inr hx
      by_cases h4 : (acc.length : Int) ≤ 4096
      · obtain ⟨m, hm⟩ := Int.eq_ofNat_of_zero_le (show 0 ≤ l.getD n 0 by omega)
        have h40 := hc m (by omega) (by omega)
        rw [if_pos h4, hm, hC acc m (by omega) (by omega) (by omega), bsome]
        exact enc_no l hl d (n + 1) _ (by omega) (by simp; omega) hx'
      · rw [if_neg h4]
        exact enc_no l hl d (n + 1) acc (by omega) ha hx'
    · rw [if_neg (by rw [decide_eq_false hv]; simp)]
theorem enc_yes (l : List Int) (hl : l.length ≤ 60) (ha : allIn l 1 100000 = true) : ∀ (d n : Nat), n + d = l.length → ∃ ws, L l n (cfl code (l.take n)) = some (((cfl code l).length : Int), ws, true) ∧ Rep (cfl code l) ws
  | 0, n, h => by
    have hb := cfl_len code hc l ha
    have : l.take n = l := List.take_of_length_le (by omega)
    obtain ⟨ws, e, hr⟩ := made_F (cfl code l) (by omega)
    rw [hL, if_neg (by omega), if_neg (by omega), this, e, bsome]
    exact ⟨ws, rfl, hr⟩
  | d + 1, n, h => by
    have hb := cfl_len code hc (l.take n) (allIn_take l 1 100000 n ha)
    have hv := allIn_atA ha n (by omega)
    have hn : (l.take n).length = n := by simp; omega
    obtain ⟨m, hm⟩ := Int.eq_ofNat_of_zero_le (show 0 ≤ l.getD n 0 by omega)
    rw [hL, if_pos (by omega), if_pos (by omega), rdn, in_f, bsome, if_pos (decide_eq_true hv), if_pos (by omega), wn (by omega), hm, hC _ m (by omega) (by omega) (by omega), bsome]
    have e := cfl_snoc code l n (by omega)
    rw [hm, Int.toNat_natCast] at e
    rw [← e]
    exact enc_yes l hl ha d (n + 1) (by omega)
end
def coded (l : List Int) : Bool := decide ((l.length : Int) ≤ 60) && allIn l 1 100000
theorem spCoded_F (l : List Int) (hl : l.length ≤ 1048576) : spec_spCoded.F l = some (coded l) := by
  rw [spec_spCoded.F_eq]
  unfold coded
  by_cases h : (l.length : Int) ≤ 60
  · rw [if_pos h, l1All_F l 1 100000 hl, bsome, decide_eq_true h, Bool.true_and]
  · rw [if_neg h, decide_eq_false h, Bool.false_and]
theorem both_40 (δ : Bool) : ∀ n, 0 < n → n ≤ 100000 → ((if δ then dlb else gmb) n).length ≤ 40 := by
  cases δ with
  | true => exact dlb_40
  | false => exact gmb_40
theorem spEnc_L (δ : Bool) (l : List Int) (hl : l.length ≤ 60) (ha : allIn l 1 100000 = true) : ∀ (d n : Nat), n + d = l.length → spec_spEncode.L0 δ (cfl (if δ then dlb else gmb) (l.take n)) l l.length n = (spec_biSome.F (cfl (if δ then dlb else gmb) l)).bind fun bt => some (bt.1, bt.2)
  | 0, n, h => by
    have : l.take n = l := List.take_of_length_le (by omega)
    rw [spec_spEncode.L0_eq, if_neg (by omega), this]
  | d + 1, n, h => by
    have hc : ∀ n, 0 < n → n ≤ 100000 → ((if δ then dlb else gmb) n).length ≤ 40 := both_40 δ
    have hb := cfl_len _ hc (l.take n) (allIn_take l 1 100000 n ha)
    have hv := allIn_atA ha n (by omega)
    have hn : (l.take n).length = n := by simp; omega
    obtain ⟨m, hm⟩ := Int.eq_ofNat_of_zero_le (show 0 ≤ l.getD n 0 by omega)
    have h40 := hc m (by omega) (by omega)
    have e := cfl_snoc (if δ then dlb else gmb) l n (by omega)
    rw [hm, Int.toNat_natCast] at e
    have ih := spEnc_L δ l hl ha d (n + 1) (by omega)
    rw [spec_spEncode.L0_eq, if_pos (by omega), if_pos (by omega), if_pos (by omega), rdn, hm, wn (by omega)]
    cases δ with
    | true => rw [if_pos rfl, spDelta_F m (by omega) (by omega), bsome, if_pos (by simp only [if_true] at hb h40 ⊢; omega)]; rw [e] at ih; exact ih
    | false => rw [if_neg (by decide), spGamma_F m (by omega) (by omega), bsome, if_pos (by simp only [Bool.false_eq_true, if_false] at hb h40 ⊢; omega)]; rw [e] at ih; exact ih
theorem spEnc_F (δ : Bool) (l : List Int) (hl : l.length ≤ 60) (ha : allIn l 1 100000 = true) : ∃ ws, spec_spEncode.F l δ = some (((cfl (if δ then dlb else gmb) l).length : Int), ws) ∧ Rep (cfl (if δ then dlb else gmb) l) ws := by
  have hc : ∀ n, 0 < n → n ≤ 100000 → ((if δ then dlb else gmb) n).length ≤ 40 := both_40 δ
  have hb := cfl_len _ hc l ha
  obtain ⟨ws, e, hr⟩ := biSome_F (cfl (if δ then dlb else gmb) l) (by omega)
  have h := spEnc_L δ l hl ha l.length 0 (by omega)
  rw [e, bsome] at h
  rw [spec_spEncode.F_eq]
  exact ⟨ws, h, hr⟩
/-- What both encoders answer. -/
theorem gamma_both (l : List Int) (hl : l.length ≤ 1048576) : (coded l = false ∧ spec_EncodeGamma.F l = some (0, [], false) ∧ impl_EncodeGamma.F l = some (0, [], false)) ∨ (coded l = true ∧ ∃ ws, spec_EncodeGamma.F l = some (((cfl gmb l).length : Int), ws, true) ∧ impl_EncodeGamma.F l = some (((cfl gmb l).length : Int), ws, true) ∧ Rep (cfl gmb l) ws ∧ (cfl gmb l).length ≤ 2400) := by
  have hC : ∀ (acc : List Bool) (n : Nat), 0 < n → n ≤ 100000 → acc.length ≤ 5000 → impl_coder_gamma.F acc (n : Int) = some (acc ++ gmb n) := fun acc n h0 h1 ha => cgamma_F n h0 (by omega) acc (by omega)
  have hL : EncEq impl_coder_gamma.F impl_encode_at_impl_coder_gamma.L0 := impl_encode_at_impl_coder_gamma.L0_eq
  rw [spec_EncodeGamma.F_eq, impl_EncodeGamma.F_eq, spCoded_F l hl, bsome, impl_encode_at_impl_coder_gamma.F_eq]
  cases hk : coded l with
  | false =>
    refine .inl ⟨rfl, by rw [if_neg (by decide)], ?_⟩
    have := enc_no hL hC gmb_40 l hl l.length 0 [] (by omega) (by simp) (by
      unfold coded at hk
      rw [List.drop_zero]
      rcases Bool.and_eq_false_iff.1 hk with h | h
      · right; have := of_decide_eq_false h; omega
      · exact .inl h)
    have h : impl_encode_at_impl_coder_gamma.L0 l 0 [] = some (0, [], false) := this
    rw [h, bsome]
  | true =>
    unfold coded at hk
    rw [Bool.and_eq_true] at hk
    obtain ⟨h1, h2⟩ := hk
    have h1 := of_decide_eq_true h1
    have hb := cfl_len gmb gmb_40 l h2
    obtain ⟨u, e1, r1⟩ := spEnc_F false l (by omega) h2
    obtain ⟨v, e2, r2⟩ := enc_yes hL hC gmb_40 l (by omega) h2 l.length 0 (by omega)
    have := Rep.unique (show Rep (cfl gmb l) u from r1) r2
    subst this
    have e2' : impl_encode_at_impl_coder_gamma.L0 l 0 [] = some (((cfl gmb l).length : Int), u, true) := e2
    have e1' : spec_spEncode.F l false = some (((cfl gmb l).length : Int), u) := e1
    exact .inr ⟨rfl, u, by rw [if_pos rfl, e1', bsome], by rw [e2', bsome], r2, by omega⟩
theorem delta_both (l : List Int) (hl : l.length ≤ 1048576) : (coded l = false ∧ spec_EncodeDelta.F l = some (0, [], false) ∧ impl_EncodeDelta.F l = some (0, [], false)) ∨ (coded l = true ∧ ∃ ws, spec_EncodeDelta.F l = some (((cfl dlb l).length : Int), ws, true) ∧ impl_EncodeDelta.F l = some (((cfl dlb l).length : Int), ws, true) ∧ Rep (cfl dlb l) ws ∧ (cfl dlb l).length ≤ 2400) := by
  have hC : ∀ (acc : List Bool) (n : Nat), 0 < n → n ≤ 100000 → acc.length ≤ 5000 → impl_coder_delta.F acc (n : Int) = some (acc ++ dlb n) := fun acc n h0 h1 ha => cdelta_F n h0 (by omega) acc (by omega)
  have hL : EncEq impl_coder_delta.F impl_encode_at_impl_coder_delta.L0 := impl_encode_at_impl_coder_delta.L0_eq
  rw [spec_EncodeDelta.F_eq, impl_EncodeDelta.F_eq, spCoded_F l hl, bsome, impl_encode_at_impl_coder_delta.F_eq]
  cases hk : coded l with
  | false =>
    refine .inl ⟨rfl, by rw [if_neg (by decide)], ?_⟩
    have := enc_no hL hC dlb_40 l hl l.length 0 [] (by omega) (by simp) (by
      unfold coded at hk
      rw [List.drop_zero]
      rcases Bool.and_eq_false_iff.1 hk with h | h
      · right; have := of_decide_eq_false h; omega
      · exact .inl h)
    have h : impl_encode_at_impl_coder_delta.L0 l 0 [] = some (0, [], false) := this
    rw [h, bsome]
  | true =>
    unfold coded at hk
    rw [Bool.and_eq_true] at hk
    obtain ⟨h1, h2⟩ := hk
    have h1 := of_decide_eq_true h1
    have hb := cfl_len dlb dlb_40 l h2
    obtain ⟨u, e1, r1⟩ := spEnc_F true l (by omega) h2
    obtain ⟨v, e2, r2⟩ := enc_yes hL hC dlb_40 l (by omega) h2 l.length 0 (by omega)
    have := Rep.unique (show Rep (cfl dlb l) u from r1) r2
    subst this
    have e2' : impl_encode_at_impl_coder_delta.L0 l 0 [] = some (((cfl dlb l).length : Int), u, true) := e2
    have e1' : spec_spEncode.F l true = some (((cfl dlb l).length : Int), u) := e1
    exact .inr ⟨rfl, u, by rw [if_pos rfl, e1', bsome], by rw [e2', bsome], r2, by omega⟩
end Go.Proofs.Ytkechjheiakibaa.X
