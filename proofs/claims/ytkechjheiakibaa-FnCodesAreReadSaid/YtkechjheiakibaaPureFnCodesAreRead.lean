/- The plain part of the law FnCodesAreRead: codes have the told lengths, are read back, and stand one behind another, for all arguments. WITH: SameProg Decodes DecDelta DecGamma DrawCoded Joins PSame -/
import Derived.Test.YtkechjheiakibaaXg20a
import Derived.Test.YtkechjheiakibaaXg20b
import Derived.Test.YtkechjheiakibaaXg24a
import Derived.Test.YtkechjheiakibaaXg38a
import Derived.Test.YtkechjheiakibaaXg3ca
import Derived.Test.YtkechjheiakibaaXg3fa
import Derived.Test.YtkechjheiakibaaXg3fb
import Derived.Test.YtkechjheiakibaaXg60a
import Derived.Test.YtkechjheiakibaaXg70a
import Derived.Test.YtkechjheiakibaaXpBase
import Derived.Test.YtkechjheiakibaaXpBitAt
import Derived.Test.YtkechjheiakibaaXpBitAtProg
import Derived.Test.YtkechjheiakibaaXpBitNat
import Derived.Test.YtkechjheiakibaaXpBitPut
import Derived.Test.YtkechjheiakibaaXpBitReps
import Derived.Test.YtkechjheiakibaaXpBitsGood
import Derived.Test.YtkechjheiakibaaXpCodeBits
import Derived.Test.YtkechjheiakibaaXpCoding
import Derived.Test.YtkechjheiakibaaXpDigits
import Derived.Test.YtkechjheiakibaaXpDraws
import Derived.Test.YtkechjheiakibaaXpFld
import Derived.Test.YtkechjheiakibaaXpMadeBits
import Derived.Test.YtkechjheiakibaaXpReads
import Derived.Test.YtkechjheiakibaaXpWithin
set_option linter.unusedVariables false
set_option linter.unusedSimpArgs false
namespace Go.Proofs.Ytkechjheiakibaa.X
open Go.RowKit Go.Proofs.YtkechjheiakibaaW.PrintWords Go.Proofs.YtkechjheiakibaaW.PrintLast
theorem drop_sameA (a b : List Int) (n : Nat) (ha : n < a.length) (hb : n < b.length) : (a.drop n = b.drop n) ↔ a.getD n 0 = b.getD n 0 ∧ a.drop (n + 1) = b.drop (n + 1) := by
  rw [List.drop_eq_getElem_cons ha, List.drop_eq_getElem_cons hb, List.cons.injEq, List.getD_eq_getElem?_getD, List.getD_eq_getElem?_getD, List.getElem?_eq_getElem ha, List.getElem?_eq_getElem hb]
  rfl
theorem equalA_L (a b : List Int) (h : a.length = b.length) (hl : a.length ≤ 1048576) : ∀ d n : Nat, n + d = a.length → slices_Equal_int_int.L0 a b a.length n = some (decide (a.drop n = b.drop n))
  | 0, n, hn => by
    rw [slices_Equal_int_int.L0_eq, if_neg (by omega), List.drop_eq_nil_of_le (by omega), List.drop_eq_nil_of_le (by omega)]
    rfl
  | d + 1, n, hn => by
    have i2 := equalA_L a b h hl d (n + 1) (by omega)
    rw [slices_Equal_int_int.L0_eq, if_pos (by omega), if_pos (by omega), if_pos (by omega), if_pos (by omega), rdn, rdn, wn (by omega)]
    have hd := drop_sameA a b n (by omega) (by omega)
    by_cases hq : a.getD n 0 = b.getD n 0
    · rw [if_pos hq, i2]
      have : decide (a.drop n = b.drop n) = decide (a.drop (n + 1) = b.drop (n + 1)) := by
        rw [decide_eq_decide, hd]
        exact ⟨fun x => x.2, fun x => ⟨hq, x⟩⟩
      rw [this]
    · rw [if_neg hq, decide_eq_false (fun x => hq (hd.mp x).1)]
theorem equalA_F (a b : List Int) (hl : a.length ≤ 1048576) : slices_Equal_int_int.F a b = some (decide (a = b)) := by
  rw [slices_Equal_int_int.F_eq]
  by_cases h : (a.length : Int) = (b.length : Int)
  · rw [if_pos h]
    simpa using equalA_L a b (by omega) hl a.length 0 (by omega)
  · rw [if_neg h, decide_eq_false (fun x => h (by rw [x]))]
theorem sameA_F (n : Int) (a : List Int) (m : Int) (b : List Int) (hl : a.length ≤ 1048576) : impl_sameBits.F n a m b = some (decide (n = m) && decide (a = b)) := by
  rw [impl_sameBits.F_eq, equalA_F a b hl]
  by_cases h : n = m
  · rw [if_pos h, decide_eq_true h]; rfl
  · rw [if_neg h, decide_eq_false h]; rfl
theorem cfl_app (code : Nat → List Bool) (x y : List Int) : cfl code (x ++ y) = cfl code x ++ cfl code y := by
  unfold cfl; rw [List.map_append, List.flatten_append]
theorem cfl_one (code : Nat → List Bool) (n : Nat) : cfl code [(n : Int)] = code n := by simp [cfl]
theorem cfl_cut (code : Nat → List Bool) (l : List Int) (n : Nat) : cfl code l = cfl code (l.take n) ++ cfl code (l.drop n) := by
  rw [← cfl_app, List.take_append_drop]
theorem coded_facts {l : List Int} (h : coded l = true) : l.length ≤ 60 ∧ allIn l 1 100000 = true := by
  unfold coded at h
  rw [Bool.and_eq_true] at h
  exact ⟨by have := of_decide_eq_true h.1; omega, h.2⟩
theorem coded_of {l : List Int} (h : l.length ≤ 60) (h2 : allIn l 1 100000 = true) : coded l = true := by
  unfold coded
  rw [h2, decide_eq_true (by omega)]; rfl
theorem allIn_snoc {l : List Int} {n : Nat} (h : allIn l 1 100000 = true) (h0 : 0 < n) (h1 : n ≤ 100000) : allIn (l ++ [(n : Int)]) 1 100000 = true := by
  unfold allIn at *
  rw [List.all_append, h, List.all_cons, List.all_nil, decide_eq_true (by omega)]; rfl
/-- What stands at a place, if the whole is the codes of a list. -/
theorem has_at {f : Nat → Bool} {code : Nat → List Bool} {l : List Int} {N : Nat} (hs : Has f 0 (cfl code l)) (hl : (cfl code l).length = N) (ha : allIn l 1 100000 = true) (n : Nat) (hn : n < l.length) : ∃ m : Nat, l.getD n 0 = (m : Int) ∧ 0 < m ∧ m ≤ 100000 ∧ Has f (cfl code (l.take n)).length (code m) ∧ (cfl code (l.take n)).length + (code m).length ≤ N ∧ (cfl code (l.take (n + 1))).length = (cfl code (l.take n)).length + (code m).length := by
  have hv := allIn_atA ha n hn
  obtain ⟨m, hm⟩ := Int.eq_ofNat_of_zero_le (show 0 ≤ l.getD n 0 by omega)
  have e := cfl_snoc code l n hn
  rw [hm, Int.toNat_natCast] at e
  have c := cfl_cut code l (n + 1)
  rw [c, Has.app] at hs
  have h1 := hs.1
  rw [e, Has.app, Nat.zero_add] at h1
  have h2 : (cfl code (l.take (n + 1))).length ≤ N := by rw [← hl, c, List.length_append]; omega
  have h3 : (cfl code (l.take (n + 1))).length = (cfl code (l.take n)).length + (code m).length := by rw [e, List.length_append]
  exact ⟨m, hm, by omega, by omega, h1.2, by omega, h3⟩
def DecEq (C : Int → List Int → Int → Bool → Option (Int × Int × Bool)) (E : List Int → Option (Int × List Int × Bool)) (L : Int → List Int → Int → Int → List Int → Int → Bool → Option (List Int × Bool)) : Prop := ∀ (b0 : Int) (l0 : List Int) (a1 : Int) (x25 : Int) (out : List Int) (at_ : Int) (bad : Bool), L b0 l0 a1 x25 out at_ bad = if x25 < a1 then ((C b0 l0 at_ bad).bind fun g => (if out.length < 17592186044416 then (L b0 l0 a1 (wrap64 (x25 + 1)) (out ++ [g.1]) g.2.1 g.2.2) else (none))) else ((E out).bind fun x => (if bad = true then (some ([], false)) else (if x.2.2 = true then ((impl_sameBits.F x.1 x.2.1 b0 l0).bind fun s => (if s = true then (some (out, true)) else (some ([], false)))) else (some ([], false)))))
def Tells (code : Nat → List Bool) (E : List Int → Option (Int × List Int × Bool)) : Prop := ∀ l : List Int, l.length ≤ 1048576 → (coded l = false ∧ E l = some (0, [], false)) ∨ (coded l = true ∧ ∃ ws, E l = some (((cfl code l).length : Int), ws, true) ∧ Rep (cfl code l) ws ∧ (cfl code l).length ≤ 2400)
section
variable {code : Nat → List Bool} {C : Int → List Int → Int → Bool → Option (Int × Int × Bool)} {E : List Int → Option (Int × List Int × Bool)} {L : Int → List Int → Int → Int → List Int → Int → Bool → Option (List Int × Bool)} (hL : DecEq C E L) (hE : Tells code E) {N : Nat} {ws : List Int}
include hL hE
theorem dec_yes (hat : ∀ a n : Nat, 0 < n → n ≤ 100000 → Has (bitAt ws) a (code n) → a + (code n).length ≤ N → C N ws a false = some ((n : Int), ((a + (code n).length : Nat) : Int), false)) (l : List Int) (hc : coded l = true) (hs : Has (bitAt ws) 0 (cfl code l)) (hl : (cfl code l).length = N) (hr : Rep (cfl code l) ws) :
    ∀ d i : Nat, i + d = l.length → L N ws l.length i (l.take i) (cfl code (l.take i)).length false = some (l, true)
  | 0, i, h => by
    have ht : l.take i = l := List.take_of_length_le (by omega)
    obtain ⟨h60, ha⟩ := coded_facts hc
    rw [hL, if_neg (by omega), ht]
    rcases hE l (by omega) with ⟨h1, _⟩ | ⟨_, u, h2, h3, h4⟩
    · rw [hc] at h1; cases h1
    · have := h3.unique hr
      subst this
      have hu := h3.1
      rw [h2, bsome, if_neg (by decide), if_pos rfl, hl, sameA_F _ u _ u (by omega), bsome, if_pos (by simp)]
  | d + 1, i, h => by
    obtain ⟨h60, ha⟩ := coded_facts hc
    obtain ⟨m, e, m0, m1, g1, g2, g3⟩ := has_at hs hl ha i (by omega)
    have hlen : (l.take i).length = i := by simp; omega
    rw [hL, if_pos (by omega), hat _ m m0 m1 g1 g2, bsome, if_pos (by omega), wn (by omega)]
    simp only
    rw [← e, ← take_succ_getD l 0 i (by omega), ← g3]
    exact dec_yes hat l hc hs hl hr d (i + 1) (by omega)
theorem dec_any (hM : N ≤ 4096) (htot : ∀ (a : Nat) (bad : Bool), a ≤ N → ∃ (g1 : Int) (g2 : Nat) (g3 : Bool), C N ws a bad = some (g1, (g2 : Int), g3) ∧ g2 ≤ N) (K : Nat) (hK : K ≤ 60) :
    ∀ (d i : Nat) (out : List Int) (a : Nat) (bad : Bool), i + d = K → out.length = i → a ≤ N → L N ws K i out a bad = some ([], false) ∨ ∃ x, L N ws K i out a bad = some (x, true) ∧ coded x = true ∧ x.length = K ∧ (cfl code x).length = N ∧ Rep (cfl code x) ws
  | 0, i, out, a, bad, h, ho, ha => by
    rw [hL, if_neg (by omega)]
    rcases hE out (by omega) with ⟨_, h1⟩ | ⟨hc, u, h2, h3, h4⟩
    · rw [h1, bsome]
      cases bad <;> exact .inl rfl
    · rw [h2, bsome]
      cases bad with
      | true => exact .inl rfl
      | false =>
        have hu := h3.1
        rw [if_neg (by decide), if_pos rfl, sameA_F _ u _ ws (by omega), bsome]
        by_cases h5 : (((cfl code out).length : Int) = (N : Int)) ∧ u = ws
        · rw [if_pos (by simp [h5.1, h5.2])]
          exact .inr ⟨out, rfl, hc, by omega, by omega, by rw [← h5.2]; exact h3⟩
        · rw [if_neg]
          · exact .inl rfl
          · simp only [Bool.and_eq_true, decide_eq_true_eq]
            exact h5
  | d + 1, i, out, a, bad, h, ho, ha => by
    obtain ⟨g1, g2, g3, e, hg⟩ := htot a bad ha
    rw [hL, if_pos (by omega), e, bsome, if_pos (by omega), wn (by omega)]
    exact dec_any hM htot K hK d (i + 1) (out ++ [g1]) g2 g3 (by omega) (by simp [ho]) hg
end
section
variable (N : Nat) (ws : List Int) (hW : Words ws) (hN : N ≤ 16 * ws.length) (hM : N ≤ 4096)
include hW hN hM
theorem spOne_F (a : Nat) (ha : a ≤ N) : (∃ n : Nat, 0 < n ∧ n ≤ 131072 ∧ Has (bitAt ws) a (gmb n) ∧ a + (gmb n).length ≤ N ∧ spec_spOne.F N ws a = some ((n : Int), ((a + (gmb n).length : Nat) : Int))) ∨ ((∀ n : Nat, 0 < n → n ≤ 131071 → ¬ (Has (bitAt ws) a (gmb n) ∧ a + (gmb n).length ≤ N)) ∧ spec_spOne.F N ws a = some (0, ((N + 1 : Nat) : Int))) := by
  obtain ⟨t, h1, h2, h3, h4, h5, h6⟩ := next_both N ws hW hN hM (N - a) a (by omega)
  rw [spec_spOne.F_eq, spec_biNext.F_eq, h6, bsome, wn (by omega)]
  have no : ¬ (t < N ∧ t - a ≤ 16 ∧ t + 1 + (t - a) ≤ N) → ∀ n : Nat, 0 < n → n ≤ 131071 → ¬ (Has (bitAt ws) a (gmb n) ∧ a + (gmb n).length ≤ N) := by
    rintro hx n n0 n1 ⟨g1, g2⟩
    obtain ⟨e1, _⟩ := gamma_at N ws a t n n0 g1 g2 h1 h3 h4 h2
    have := (Nat.log2_lt (n := n) (k := 17) (by omega)).2 (by omega)
    rw [gmb_len] at g2
    exact hx ⟨by omega, by omega, by omega⟩
  by_cases ht : t < N
  · have e1 : wrap64 ((t : Int) - (a : Int)) = ((t - a : Nat) : Int) := by rw [w64 (by omega) (by omega)]; omega
    rw [if_pos ht, if_neg (by omega), e1, wn (by omega), spRead_F N ws hW hN hM _ _ (by omega) (by omega), bsome]
    by_cases hx : t - a ≤ 16 ∧ t + 1 + (t - a) ≤ N
    · rw [if_pos hx]
      have hf := fld_lt (fun j => bitAt ws (t + 1 + j)) (t - a)
      have hl := log2_top _ _ hf
      have hq : 2 ^ (t - a) ≤ 2 ^ 16 := Nat.pow_le_pow_right (by omega) hx.1
      have h16 : 2 ^ 16 = 65536 := by decide
      have hp := Nat.two_pow_pos (t - a)
      have hg := gmb_len (2 ^ (t - a) + fld (fun j => bitAt ws (t + 1 + j)) (t - a))
      rw [hl] at hg
      refine .inl ⟨2 ^ (t - a) + fld (fun j => bitAt ws (t + 1 + j)) (t - a), by omega, by omega, ?_, by omega, ?_⟩
      · rw [Has.gm, hl]
        refine ⟨fun i hi => h3 _ (by omega) (by omega), ?_, fun j hj => ?_⟩
        · rw [show a + (t - a) = t from by omega]; exact h4 ht
        · rw [top_bit _ _ _ hj, fld_testBit _ _ _ hj, show a + (t - a) + 1 + j = t + 1 + j from by omega]
      · rw [hg]
        congr 3
        omega
    · rw [if_neg hx]
      exact .inr ⟨no (fun y => hx y.2), rfl⟩
  · rw [if_neg ht, if_pos (by omega)]
    exact .inr ⟨no (fun y => ht y.1), rfl⟩
theorem gamma_step (K : Int) (x8 : List Int) (hx : (x8.length : Int) < K) (hK : K ≤ 60) (a : Nat) (ha : a ≤ N) : (∃ n : Nat, 0 < n ∧ n ≤ 100000 ∧ Has (bitAt ws) a (gmb n) ∧ a + (gmb n).length ≤ N ∧ spec_spDecode.L0 K false x8 a N ws = spec_spDecode.L0 K false (x8 ++ [(n : Int)]) ((a + (gmb n).length : Nat) : Int) N ws) ∨ ((∀ n : Nat, 0 < n → n ≤ 100000 → ¬ (Has (bitAt ws) a (gmb n) ∧ a + (gmb n).length ≤ N)) ∧ spec_spDecode.L0 K false x8 a N ws = some ([], false)) := by
  rw [spec_spDecode.L0_eq, if_pos hx]
  rcases spOne_F N ws hW hN hM a ha with ⟨n, n0, n1, g1, g2, e⟩ | ⟨no, e⟩
  · rw [e, bsome, if_neg (by decide), spec_spDecode.J1_eq, if_neg (by decide), if_neg (by omega)]
    by_cases h : n ≤ 100000
    · rw [if_neg (by omega), if_pos (by omega)]
      exact .inl ⟨n, n0, h, g1, g2, rfl⟩
    · rw [if_pos (by omega)]
      exact .inr ⟨fun m m0 m1 hm => h (by rw [← gm_unique m0 n0 hm.1 g1]; exact m1), rfl⟩
  · rw [e, bsome, if_neg (by decide), spec_spDecode.J1_eq, if_neg (by decide), if_pos (by omega)]
    exact .inr ⟨fun m m0 m1 => no m m0 (by omega), rfl⟩
theorem delta_step (K : Int) (x8 : List Int) (hx : (x8.length : Int) < K) (hK : K ≤ 60) (a : Nat) (ha : a ≤ N) : (∃ n : Nat, 0 < n ∧ n ≤ 100000 ∧ Has (bitAt ws) a (dlb n) ∧ a + (dlb n).length ≤ N ∧ spec_spDecode.L0 K true x8 a N ws = spec_spDecode.L0 K true (x8 ++ [(n : Int)]) ((a + (dlb n).length : Nat) : Int) N ws) ∨ ((∀ n : Nat, 0 < n → n ≤ 100000 → ¬ (Has (bitAt ws) a (dlb n) ∧ a + (dlb n).length ≤ N)) ∧ spec_spDecode.L0 K true x8 a N ws = some ([], false)) := by
  rw [spec_spDecode.L0_eq, if_pos hx]
  rcases spOne_F N ws hW hN hM a ha with ⟨q, q0, q1, g1, g2, e⟩ | ⟨no, e⟩
  · have e1 : wrap64 ((q : Int) - 1) = ((q - 1 : Nat) : Int) := by rw [w64 (by omega) (by omega)]; omega
    rw [e, bsome, if_pos rfl, spec_spDecode.J1_eq, if_pos (decide_eq_true (by omega)), e1, spRead_F N ws hW hN hM _ _ (by omega) (by omega), bsome]
    have no : ¬ (q - 1 ≤ 16 ∧ a + (gmb q).length + (q - 1) ≤ N) → ∀ n : Nat, 0 < n → n ≤ 100000 → ¬ (Has (bitAt ws) a (dlb n) ∧ a + (dlb n).length ≤ N) := by
      rintro hx n n0 n1 ⟨y1, y2⟩
      rw [dlb, Has.app] at y1
      rw [dlb, List.length_append, tlb_len] at y2
      have := gm_unique (by omega) q0 y1.1 g1
      have := log_17 n0 n1
      subst q
      exact hx ⟨by omega, by omega⟩
    by_cases h : q - 1 ≤ 16 ∧ a + (gmb q).length + (q - 1) ≤ N
    · rw [if_pos h]
      simp only
      have hf := fld_lt (fun j => bitAt ws (a + (gmb q).length + j)) (q - 1)
      have hl := log2_top _ _ hf
      have hp := Nat.two_pow_pos (q - 1)
      generalize hn : 2 ^ (q - 1) + fld (fun j => bitAt ws (a + (gmb q).length + j)) (q - 1) = n at *
      have hd : dlb n = gmb q ++ tlb n := by rw [dlb, hl, show q - 1 + 1 = q from by omega]
      have hh : Has (bitAt ws) a (dlb n) := by
        rw [hd, Has.app, Has.tl, hl]
        refine ⟨g1, fun j hj => ?_⟩
        rw [← hn, top_bit _ _ _ hj, fld_testBit _ _ _ hj]
      have hlen : (dlb n).length = (gmb q).length + (q - 1) := by rw [hd, List.length_append, tlb_len, hl]
      rw [if_neg (by omega)]
      by_cases h9 : n ≤ 100000
      · rw [if_neg (by omega), if_pos (by omega)]
        refine .inl ⟨n, by omega, h9, hh, by omega, ?_⟩
        rw [hlen, Nat.add_assoc]
      · rw [if_pos (by omega)]
        exact .inr ⟨fun m m0 m1 hm => h9 (by rw [← dl_unique m0 (by omega) hm.1 hh]; exact m1), rfl⟩
    · rw [if_neg h]
      simp only
      rw [if_pos (by omega)]
      exact .inr ⟨no h, rfl⟩
  · rw [e, bsome, if_pos rfl, spec_spDecode.J1_eq, if_neg (by rw [decide_eq_false (by omega)]; decide), if_pos (by omega)]
    refine .inr ⟨?_, rfl⟩
    rintro n n0 n1 ⟨y1, y2⟩
    rw [dlb, Has.app] at y1
    rw [dlb, List.length_append] at y2
    have := log_17 n0 n1
    exact no (Nat.log2 n + 1) (by omega) (by omega) ⟨y1.1, by omega⟩
end
def Steps (code : Nat → List Bool) (δ : Bool) (N : Nat) (ws : List Int) : Prop := ∀ (K : Int) (x8 : List Int), (x8.length : Int) < K → K ≤ 60 → ∀ a : Nat, a ≤ N → (∃ n : Nat, 0 < n ∧ n ≤ 100000 ∧ Has (bitAt ws) a (code n) ∧ a + (code n).length ≤ N ∧ spec_spDecode.L0 K δ x8 a N ws = spec_spDecode.L0 K δ (x8 ++ [(n : Int)]) ((a + (code n).length : Nat) : Int) N ws) ∨ ((∀ n : Nat, 0 < n → n ≤ 100000 → ¬ (Has (bitAt ws) a (code n) ∧ a + (code n).length ≤ N)) ∧ spec_spDecode.L0 K δ x8 a N ws = some ([], false))
section
variable {code : Nat → List Bool} {δ : Bool} {N : Nat} {ws : List Int} (hS : Steps code δ N ws)
include hS
theorem spec_yes (hu : ∀ (a m n : Nat), 0 < m → 0 < n → Has (bitAt ws) a (code m) → Has (bitAt ws) a (code n) → m = n) (l : List Int) (hc : coded l = true) (hs : Has (bitAt ws) 0 (cfl code l)) (hl : (cfl code l).length = N) :
    ∀ d i : Nat, i + d = l.length → spec_spDecode.L0 l.length δ (l.take i) (cfl code (l.take i)).length N ws = some (l, true)
  | 0, i, h => by
    have ht : l.take i = l := List.take_of_length_le (by omega)
    rw [ht, spec_spDecode.L0_eq, if_neg (by omega), hl]
    simp
  | d + 1, i, h => by
    obtain ⟨h60, ha⟩ := coded_facts hc
    obtain ⟨m, e, m0, m1, g1, g2, g3⟩ := has_at hs hl ha i (by omega)
    have hlen : (l.take i).length = i := by simp; omega
    rcases hS l.length (l.take i) (by omega) (by omega) _ (show (cfl code (l.take i)).length ≤ N by omega) with ⟨n, n0, n1, y1, y2, y3⟩ | ⟨no, _⟩
    · have := hu _ m n m0 n0 g1 y1
      subst this
      rw [y3, ← e, ← take_succ_getD l 0 i (by omega), ← g3]
      exact spec_yes hu l hc hs hl d (i + 1) (by omega)
    · exact absurd ⟨g1, g2⟩ (no m m0 m1)
theorem spec_any (K : Nat) (hK : K ≤ 60) : ∀ (d : Nat) (x8 : List Int), x8.length + d = K → allIn x8 1 100000 = true → Has (bitAt ws) 0 (cfl code x8) → (cfl code x8).length ≤ N →
    (∃ y, spec_spDecode.L0 K δ x8 (cfl code x8).length N ws = some (y, false)) ∨ ∃ x, spec_spDecode.L0 K δ x8 (cfl code x8).length N ws = some (x, true) ∧ coded x = true ∧ x.length = K ∧ (cfl code x).length = N ∧ Has (bitAt ws) 0 (cfl code x)
  | 0, x8, h, ha, hs, hl => by
    rw [spec_spDecode.L0_eq, if_neg (by omega)]
    by_cases e : (cfl code x8).length = N
    · rw [e]
      exact .inr ⟨x8, by simp, coded_of (by omega) ha, by omega, e, hs⟩
    · refine .inl ⟨x8, ?_⟩
      rw [show (((cfl code x8).length : Int) == (N : Int)) = false from by rw [beq_eq_false_iff_ne]; omega]
  | d + 1, x8, h, ha, hs, hl => by
    rcases hS K x8 (by omega) (by omega) _ hl with ⟨n, n0, n1, y1, y2, y3⟩ | ⟨no, e⟩
    · have c : cfl code (x8 ++ [(n : Int)]) = cfl code x8 ++ code n := by rw [cfl_app, cfl_one]
      have cl : (cfl code (x8 ++ [(n : Int)])).length = (cfl code x8).length + (code n).length := by rw [c, List.length_append]
      rw [y3, ← cl]
      refine spec_any K hK d (x8 ++ [(n : Int)]) (by simp; omega) (allIn_snoc ha n0 n1) ?_ (by omega)
      rw [c, Has.app, Nat.zero_add]
      exact ⟨hs, y1⟩
    · exact .inl ⟨[], e⟩
end
/-- Both tell the same. -/
theorem both_tell {code : Nat → List Bool} {δ : Bool} {N : Nat} {ws : List Int} {C : Int → List Int → Int → Bool → Option (Int × Int × Bool)} {E : List Int → Option (Int × List Int × Bool)} {L : Int → List Int → Int → Int → List Int → Int → Bool → Option (List Int × Bool)} (hL : DecEq C E L) (hE : Tells code E) (hS : Steps code δ N ws)
    (hu : ∀ (a m n : Nat), 0 < m → 0 < n → Has (bitAt ws) a (code m) → Has (bitAt ws) a (code n) → m = n)
    (hat : ∀ a n : Nat, 0 < n → n ≤ 100000 → Has (bitAt ws) a (code n) → a + (code n).length ≤ N → C N ws a false = some ((n : Int), ((a + (code n).length : Nat) : Int), false)) (htot : ∀ (a : Nat) (bad : Bool), a ≤ N → ∃ (g1 : Int) (g2 : Nat) (g3 : Bool), C N ws a bad = some (g1, (g2 : Int), g3) ∧ g2 ≤ N)
    (hM : N ≤ 4096) (hg : goodB N ws = true) (K : Nat) (hK : K ≤ 60) :
    ∃ (y : List Int) (ok : Bool), spec_spDecode.L0 K δ [] 0 N ws = some (y, ok) ∧ L N ws K 0 [] 0 false = some (if ok then y else [], ok) ∧ (ok = true → y.length = K) ∧ (∀ x : List Int, coded x = true → x.length = K → (cfl code x).length = N → Rep (cfl code x) ws → ok = true ∧ y = x) := by
  have has_rep : ∀ x : List Int, (cfl code x).length = N → Has (bitAt ws) 0 (cfl code x) → Rep (cfl code x) ws := fun x hl hs => by
    have : cfl code x = bl ws N := getD_ext (by rw [bl_len, hl]) (fun i hi => by
      rw [bl_getD ws N i (by omega)]
      have := hs i hi
      rw [Nat.zero_add] at this
      exact this.symm)
    rw [this]
    exact rep_good hg
  have rep_has : ∀ x : List Int, Rep (cfl code x) ws → Has (bitAt ws) 0 (cfl code x) := fun x hr i hi => by
    rw [Nat.zero_add]; exact bitAt_rep hr i hi
  have yes : ∀ x : List Int, coded x = true → x.length = K → (cfl code x).length = N → Rep (cfl code x) ws → spec_spDecode.L0 K δ [] 0 N ws = some (x, true) ∧ L N ws K 0 [] 0 false = some (x, true) := fun x hc hx hl hr => by
    have s := spec_yes hS hu x hc (rep_has x hr) hl x.length 0 (by omega)
    have d := dec_yes hL hE hat x hc (rep_has x hr) hl hr x.length 0 (by omega)
    rw [hx] at s d
    exact ⟨s, d⟩
  have s := spec_any hS K hK K [] (by simp) rfl (fun i hi => by simp [cfl] at hi) (by simp [cfl])
  have d := dec_any hL hE hM htot K hK K 0 [] 0 false (by omega) rfl (by omega)
  have c0 : (((cfl code []).length : Nat) : Int) = 0 := rfl
  rw [c0] at s
  have d' : L N ws K 0 [] 0 false = some ([], false) ∨ ∃ x, L N ws K 0 [] 0 false = some (x, true) ∧ coded x = true ∧ x.length = K ∧ (cfl code x).length = N ∧ Rep (cfl code x) ws := d
  rcases s with ⟨y, e⟩ | ⟨x, e, h1, h2, h3, h4⟩
  · rcases d' with f | ⟨x, f, h1, h2, h3, h4⟩
    · exact ⟨y, false, e, f, (fun h => by cases h), fun x g1 g2 g3 g4 => by
        have := (yes x g1 g2 g3 g4).1
        rw [e] at this; cases this⟩
    · have := (yes x h1 h2 h3 h4).1
      rw [e] at this; cases this
  · have hr := has_rep x h3 h4
    obtain ⟨_, f⟩ := yes x h1 h2 h3 hr
    exact ⟨x, true, e, f, fun _ => h2, fun z g1 g2 g3 g4 => ⟨rfl, by
      have := (yes z g1 g2 g3 g4).1
      rw [e] at this
      injection this with this
      injection this⟩⟩
theorem delta_decodes (n : Int) (ws : List Int) (c : Int) (hl : ws.length ≤ 1048576) :
    (spec_DecodeDelta.F n ws c = some ([], false) ∧ impl_DecodeDelta.F n ws c = some ([], false) ∧ ∀ (x : List Int), coded x = true → (x.length : Int) = c → ((cfl dlb x).length : Int) = n → ¬ Rep (cfl dlb x) ws) ∨
    ∃ y : List Int, spec_DecodeDelta.F n ws c = some (y, true) ∧ impl_DecodeDelta.F n ws c = some (y, true) ∧ (y.length : Int) = c ∧ y.length ≤ 60 ∧ ∀ x : List Int, coded x = true → (x.length : Int) = c → ((cfl dlb x).length : Int) = n → Rep (cfl dlb x) ws → y = x := by
  rw [spec_DecodeDelta.F_eq, impl_DecodeDelta.F_eq, impl_decode_at_impl_EncodeDelta.F_eq, biGood_F n ws hl, isBits_F n ws hl, bsome, bsome]
  have no : ∀ (x : List Int), coded x = true → ((cfl dlb x).length : Int) = n → Rep (cfl dlb x) ws → goodB n ws = true := fun x hc hn hr => by
    obtain ⟨h1, h2⟩ := coded_facts hc
    have h3 := cfl_len dlb dlb_40 x h2
    rw [← hn]
    exact good_rep hr (by omega)
  by_cases hg : goodB n ws = true
  · obtain ⟨g1, g2, g3⟩ := goodB_facts hg
    obtain ⟨N, rfl⟩ := Int.eq_ofNat_of_zero_le g1.1
    rw [if_pos hg, if_pos hg, in_f, l1In_f, bsome, bsome]
    by_cases hk : 0 ≤ c ∧ c ≤ 60
    · obtain ⟨K, rfl⟩ := Int.eq_ofNat_of_zero_le hk.1
      rw [decide_eq_true hk, if_pos rfl, spec_DecodeDelta.J0_eq, if_neg (by decide), spec_spDecode.F_eq]
      have hW : Words ws := words_rep (rep_good hg)
      have hE : Tells dlb impl_EncodeDelta.F := fun l h => by
        rcases delta_both l h with ⟨h1, _, h2⟩ | ⟨h1, u, _, h2, h3, h4⟩
        · exact .inl ⟨h1, h2⟩
        · exact .inr ⟨h1, u, h2, h3, h4⟩
      obtain ⟨y, ok, e1, e2, e3, e4⟩ := both_tell (code := dlb) (δ := true) (N := N) (ws := ws) (C := impl_decoder_delta.F) (E := impl_EncodeDelta.F) (L := impl_decode_at_impl_EncodeDelta.L0) impl_decode_at_impl_EncodeDelta.L0_eq hE (fun A x8 h1 h2 a ha => delta_step N ws hW (by omega) (by omega) A x8 h1 h2 a ha) (fun a m q hm hq h1 h2 => dl_unique hm hq h1 h2) (fun a m m0 m1 h1 h2 => decDelta_at N ws hW (by omega) (by omega) a m m0 (log_17 m0 m1) h1 h2) (fun a b ha => delta_total N ws hW (by omega) (by omega) a ha b) (by omega) hg K (by omega)
      rw [e1, e2, bsome, bsome]
      unfold spec_spIf.f
      cases ok with
      | true =>
        rw [if_pos rfl, bsome]
        exact .inr ⟨y, rfl, rfl, by have := e3 rfl; omega, by have := e3 rfl; omega, fun x h1 h2 h3 h4 => (e4 x h1 (by omega) (by omega) h4).2⟩
      | false =>
        refine .inl ⟨rfl, rfl, fun x h1 h2 h3 h4 => ?_⟩
        cases (e4 x h1 (by omega) (by omega) h4).1
    · rw [decide_eq_false hk, if_neg (by decide), spec_DecodeDelta.J0_eq, if_pos (show (!false) = true from rfl)]
      refine .inl ⟨rfl, rfl, fun x h1 h2 _ _ => ?_⟩
      have := (coded_facts h1).1
      omega
  · rw [if_neg hg, if_neg hg, spec_DecodeDelta.J0_eq, if_pos rfl]
    exact .inl ⟨rfl, rfl, fun x h1 _ h3 h4 => hg (no x h1 h3 h4)⟩
theorem gamma_decodes (n : Int) (ws : List Int) (c : Int) (hl : ws.length ≤ 1048576) :
    (spec_DecodeGamma.F n ws c = some ([], false) ∧ impl_DecodeGamma.F n ws c = some ([], false) ∧ ∀ (x : List Int), coded x = true → (x.length : Int) = c → ((cfl gmb x).length : Int) = n → ¬ Rep (cfl gmb x) ws) ∨
    ∃ y : List Int, spec_DecodeGamma.F n ws c = some (y, true) ∧ impl_DecodeGamma.F n ws c = some (y, true) ∧ (y.length : Int) = c ∧ y.length ≤ 60 ∧ ∀ x : List Int, coded x = true → (x.length : Int) = c → ((cfl gmb x).length : Int) = n → Rep (cfl gmb x) ws → y = x := by
  rw [spec_DecodeGamma.F_eq, impl_DecodeGamma.F_eq, impl_decode_at_impl_EncodeGamma.F_eq, biGood_F n ws hl, isBits_F n ws hl, bsome, bsome]
  have no : ∀ (x : List Int), coded x = true → ((cfl gmb x).length : Int) = n → Rep (cfl gmb x) ws → goodB n ws = true := fun x hc hn hr => by
    obtain ⟨h1, h2⟩ := coded_facts hc
    have h3 := cfl_len gmb gmb_40 x h2
    rw [← hn]
    exact good_rep hr (by omega)
  by_cases hg : goodB n ws = true
  · obtain ⟨g1, g2, g3⟩ := goodB_facts hg
    obtain ⟨N, rfl⟩ := Int.eq_ofNat_of_zero_le g1.1
    rw [if_pos hg, if_pos hg, in_f, l1In_f, bsome, bsome]
    by_cases hk : 0 ≤ c ∧ c ≤ 60
    · obtain ⟨K, rfl⟩ := Int.eq_ofNat_of_zero_le hk.1
      rw [decide_eq_true hk, if_pos rfl, spec_DecodeGamma.J0_eq, if_neg (by decide), spec_spDecode.F_eq]
      have hW : Words ws := words_rep (rep_good hg)
      have hE : Tells gmb impl_EncodeGamma.F := fun l h => by
        rcases gamma_both l h with ⟨h1, _, h2⟩ | ⟨h1, u, _, h2, h3, h4⟩
        · exact .inl ⟨h1, h2⟩
        · exact .inr ⟨h1, u, h2, h3, h4⟩
      obtain ⟨y, ok, e1, e2, e3, e4⟩ := both_tell (code := gmb) (δ := false) (N := N) (ws := ws) (C := impl_decoder_gamma.F) (E := impl_EncodeGamma.F) (L := impl_decode_at_impl_EncodeGamma.L0) impl_decode_at_impl_EncodeGamma.L0_eq hE (fun A x8 h1 h2 a ha => gamma_step N ws hW (by omega) (by omega) A x8 h1 h2 a ha) (fun a m q hm hq h1 h2 => gm_unique hm hq h1 h2) (fun a m m0 m1 h1 h2 => decGamma_at N ws hW (by omega) (by omega) a m m0 (log_17 m0 m1) h1 h2) (fun a b ha => gamma_total N ws hW (by omega) (by omega) a ha b) (by omega) hg K (by omega)
      rw [e1, e2, bsome, bsome]
      unfold spec_spIf.f
      cases ok with
      | true =>
        rw [if_pos rfl, bsome]
        exact .inr ⟨y, rfl, rfl, by have := e3 rfl; omega, by have := e3 rfl; omega, fun x h1 h2 h3 h4 => (e4 x h1 (by omega) (by omega) h4).2⟩
      | false =>
        refine .inl ⟨rfl, rfl, fun x h1 h2 h3 h4 => ?_⟩
        cases (e4 x h1 (by omega) (by omega) h4).1
    · rw [decide_eq_false hk, if_neg (by decide), spec_DecodeGamma.J0_eq, if_pos (show (!false) = true from rfl)]
      refine .inl ⟨rfl, rfl, fun x h1 h2 _ _ => ?_⟩
      have := (coded_facts h1).1
      omega
  · rw [if_neg hg, if_neg hg, spec_DecodeGamma.J0_eq, if_pos rfl]
    exact .inl ⟨rfl, rfl, fun x h1 _ h3 h4 => hg (no x h1 h3 h4)⟩
theorem coded1_t (l : List Int) (hl : Bytes l) : ∀ (d : Nat) (x : List Int) (a s : Int), x.length + d = 61 → 0 ≤ a → a + 2 * d ≤ 900000000000 → ∃ (r : List Int) (a' s' : Int), spec_l1Cur_coded.L1 x l a s = some (r, a', s') ∧ r.length ≤ 61
  | 0, x, a, s, h, h0, h1 => by
    obtain ⟨p, a1, s1, e, p0, p1, _, _⟩ := pick_t l hl a s 2 h0 (by omega)
    rw [spec_l1Cur_coded.L1_eq, e, bsome, w64 (x := 60 + p) (by omega) (by omega), if_neg (by omega)]
    exact ⟨_, _, _, rfl, by omega⟩
  | d + 1, x, a, s, h, h0, h1 => by
    obtain ⟨p, a1, s1, e, p0, p1, q0, q1⟩ := pick_t l hl a s 2 h0 (by omega)
    rw [spec_l1Cur_coded.L1_eq, e, bsome, w64 (x := 60 + p) (by omega) (by omega)]
    simp only
    by_cases c : (x.length : Int) < 60 + p
    · rw [if_pos c, if_pos (by omega)]
      exact coded1_t l hl d _ a1 s1 (by simp; omega) q0 (by omega)
    · rw [if_neg c]; exact ⟨_, _, _, rfl, by omega⟩
theorem coded0_t (l : List Int) (hl : Bytes l) : ∀ (d : Nat) (x : List Int) (a s : Int), x.length + d ≤ 60 → 0 ≤ a → a + 6 * d ≤ 100000000 → ∃ (r : List Int) (a' s' : Int), spec_l1Cur_coded.L0 x d l a s = some (r, a', s') ∧ r.length ≤ 61
  | 0, x, a, s, h, h0, h1 => by
    obtain ⟨p, a1, s1, e, p0, p1, q0, q1⟩ := pick_t l hl a s 16 h0 (by omega)
    rw [spec_l1Cur_coded.L0_eq, if_neg (by omega), e, bsome]
    simp only
    by_cases c0 : p = 0
    · obtain ⟨p', a2, s2, e2, _⟩ := among_t l hl a1 s1 [0, (-1), 100001] (by simp) q0 (by omega)
      rw [if_pos c0, e2, bsome, if_pos (by omega)]
      exact ⟨_, _, _, rfl, by simp; omega⟩
    · rw [if_neg c0]
      by_cases c1 : p = 1
      · rw [if_pos c1]
        obtain ⟨r, a2, s2, e2, h2⟩ := coded1_t l hl (61 - x.length) x a1 s1 (by omega) q0 (by omega)
        exact ⟨r, a2, s2, e2, h2⟩
      · rw [if_neg c1]; exact ⟨_, _, _, rfl, by omega⟩
  | d + 1, x, a, s, h, h0, h1 => by
    obtain ⟨p, a1, s1, e, p0, p1, q0, q1⟩ := pick_t l hl a s 20 h0 (by omega)
    obtain ⟨b, a2, s2, e2, y0, y1⟩ := one_t l hl a1 s1 5 q0 (by omega)
    rw [spec_l1Cur_coded.L0_eq, if_pos (by omega), e, bsome]
    simp only
    rw [e2, bsome]
    simp only
    cases b with
    | true =>
      obtain ⟨z, a3, s3, e3, _, z0, z1⟩ := among_t l hl a2 s2 [1, 2, 255, 256, 65535, 65536, 99999, 100000] (by simp) y0 (by omega)
      rw [if_pos rfl, e3, bsome, if_pos (by omega), wp (by omega)]
      exact coded0_t l hl d _ a3 s3 (by simp; omega) z0 (by omega)
    | false =>
      rw [if_neg (by decide), if_pos (by omega), wp (by omega)]
      exact coded0_t l hl d _ a2 s2 (by simp; omega) y0 (by omega)
theorem coded_t (l : List Int) (hl : Bytes l) : ∃ (r : List Int) (a' s' : Int), spec_l1Cur_coded.F l 0 0 = some (r, a', s') ∧ r.length ≤ 61 := by
  obtain ⟨p, a1, s1, e, p0, p1, q0, q1⟩ := pick_t l hl 0 0 6 (by omega) (by omega)
  obtain ⟨n, rfl⟩ := Int.eq_ofNat_of_zero_le p0
  obtain ⟨r, a2, s2, e2, hr⟩ := coded0_t l hl n [] a1 s1 (by simp; omega) q0 (by omega)
  rw [spec_l1Cur_coded.F_eq, e, bsome]
  simp only
  exact ⟨_, _, _, e2, hr⟩
theorem drawGamma_t (l : List Int) (hl : Bytes l) : ∃ r : List Int, spec_DrawEncodeGamma.F l = some r ∧ r.length ≤ 61 := by
  obtain ⟨r, a, s, e, h⟩ := coded_t l hl
  rw [spec_DrawEncodeGamma.F_eq, e, bsome]
  exact ⟨_, rfl, h⟩
theorem drawDelta_t (l : List Int) (hl : Bytes l) : ∃ r : List Int, spec_DrawEncodeDelta.F l = some r ∧ r.length ≤ 61 := by
  obtain ⟨r, a, s, e, h⟩ := coded_t l hl
  rw [spec_DrawEncodeDelta.F_eq, e, bsome]
  exact ⟨_, rfl, h⟩
theorem join_L (x y : List Bool) (u v : List Int) (hu : Rep x u) (hv : Rep y v) (hb : (x ++ y).length ≤ 4194304) : ∀ (d n : Nat) (ws : List Int), n + d = (x ++ y).length → Rep ((x ++ y).take n ++ List.replicate ((x ++ y).length - n) false) ws → ∃ ws', impl_madeBits_at_impl_joinBits_1.L0 (x ++ y).length n x.length u y.length v (x ++ y).length ws = some (((x ++ y).length : Int), ws') ∧ Rep (x ++ y) ws'
  | 0, n, ws, h, hr => by
    rw [impl_madeBits_at_impl_joinBits_1.L0_eq, if_neg (by omega)]
    refine ⟨ws, rfl, ?_⟩
    have : n = (x ++ y).length := by omega
    subst this
    rw [List.take_length, Nat.sub_self, List.replicate_zero, List.append_nil] at hr
    exact hr
  | d + 1, n, ws, h, hr => by
    have hlen : (x ++ y).length = x.length + y.length := List.length_append
    have hs := set_step (x ++ y) false false n (by omega)
    obtain ⟨ws', e, hr'⟩ := bitsSet_F hr (x ++ y).length n ((x ++ y).getD n false) (by simp only [List.length_append, List.length_take, List.length_replicate]; omega) (by simp only [List.length_append, List.length_take, List.length_replicate]; omega)
    rw [hs] at hr'
    obtain ⟨ws2, e2, h2⟩ := join_L x y u v hu hv hb d (n + 1) ws' (by omega) hr'
    refine ⟨ws2, ?_, h2⟩
    have at_ : impl_joinBits_1.f n x.length u y.length v = some ((x ++ y).getD n false) := by
      unfold impl_joinBits_1.f
      by_cases c : n < x.length
      · rw [if_pos (by omega), bitsAt_F _ u n (words_rep hu) (by have := hu.1; omega) (by omega), bsome, bitAt_rep hu n c, getD_app_left x y false n c]
      · have ew : wrap64 ((n : Int) - (x.length : Int)) = ((n - x.length : Nat) : Int) := by rw [w64 (by omega) (by omega)]; omega
        rw [if_neg (by omega), ew, bitsAt_F _ v (n - x.length) (words_rep hv) (by have := hv.1; omega) (by omega), bsome, bitAt_rep hv (n - x.length) (by omega), List.getD_eq_getElem?_getD, List.getD_eq_getElem?_getD, List.getElem?_append_right (by omega)]
    rw [impl_madeBits_at_impl_joinBits_1.L0_eq, if_pos (by omega), at_, bsome, e, bsome, wn (by omega)]
    exact e2
theorem join_F (x y : List Bool) (u v : List Int) (hu : Rep x u) (hv : Rep y v) (hb : (x ++ y).length ≤ 4096) : ∃ ws', impl_JoinBits.F x.length u y.length v = some (((x ++ y).length : Int), ws', true) ∧ Rep (x ++ y) ws' := by
  have hlen : (x ++ y).length = x.length + y.length := List.length_append
  have h1 := hu.1
  have h2 := hv.1
  have ew : wrap64 ((x.length : Int) + (y.length : Int)) = (((x ++ y).length : Nat) : Int) := by rw [w64 (by omega) (by omega)]; omega
  have b := blank_A (x ++ y).length (by omega)
  obtain ⟨ws', e, hr⟩ := join_L x y u v hu hv (by omega) (x ++ y).length 0 (List.replicate (((x ++ y).length + 15) / 16) 0) (by omega) (by simpa using Rep.zeros (x ++ y).length)
  have e' : impl_madeBits_at_impl_joinBits_1.L0 (x ++ y).length 0 x.length u y.length v (x ++ y).length (List.replicate (((x ++ y).length + 15) / 16) 0) = some (((x ++ y).length : Int), ws') := e
  rw [impl_JoinBits.F_eq, isBits_F _ u (by omega), bsome, if_pos (good_rep hu (by omega)), isBits_F _ v (by omega), bsome, if_pos (good_rep hv (by omega)), ew, if_neg (by omega), impl_joinBits.F_eq, ew, impl_madeBits_at_impl_joinBits_1.F_eq, b, bsome]
  simp only
  rw [e', bsome, bsome]
  exact ⟨ws', rfl, hr⟩
theorem gammaLen_F (n : Nat) (h0 : 0 < n) (h : n ≤ 100000) : impl_GammaLength.F n = some (((gmb n).length : Int), true) := by
  have hl := log_17 h0 h
  rw [impl_GammaLength.F_eq, in_f, bsome, if_pos (decide_eq_true (by omega)), digits_F n h0 (by omega), bsome, gmb_len, w64 (x := 2 * (Nat.log2 n : Int)) (by omega) (by omega), w64 (by omega) (by omega)]
  congr 2
theorem deltaLen_F (n : Nat) (h0 : 0 < n) (h : n ≤ 100000) : impl_DeltaLength.F n = some (((dlb n).length : Int), true) := by
  have hl := log_17 h0 h
  have h5 := log_5 (n := Nat.log2 n + 1) (by omega) (by omega)
  have hd : (dlb n).length = 2 * Nat.log2 (Nat.log2 n + 1) + 1 + Nat.log2 n := by rw [dlb, List.length_append, gmb_len, tlb_len]
  rw [impl_DeltaLength.F_eq, in_f, bsome, if_pos (decide_eq_true (by omega)), digits_F n h0 (by omega), bsome, wn (by omega), digits_F _ (by omega) (by omega), bsome, hd, w64 (x := 2 * (Nat.log2 (Nat.log2 n + 1) : Int)) (by omega) (by omega), w64 (x := 2 * (Nat.log2 (Nat.log2 n + 1) : Int) + 1) (by omega) (by omega), w64 (by omega) (by omega)]
  congr 2
theorem pSameA_L (l : List Int) (hl : l.length ≤ 1048576) : ∀ d n : Nat, n + d = l.length → laws_pSameInts.L0 l l l.length n = some true
  | 0, n, h => by rw [laws_pSameInts.L0_eq, if_neg (by omega)]
  | d + 1, n, h => by
    rw [laws_pSameInts.L0_eq, if_pos (by omega), if_pos (by omega), if_pos (by omega), if_pos (by omega), if_pos rfl, wn (by omega)]
    exact pSameA_L l hl d (n + 1) (by omega)
theorem pSameA_F (l : List Int) (hl : l.length ≤ 1048576) : laws_pSameInts.F l l = some true := by
  rw [laws_pSameInts.F_eq, if_pos rfl]
  exact pSameA_L l hl l.length 0 (by omega)
end Go.Proofs.Ytkechjheiakibaa.X
namespace Go.Proofs.Ytkechjheiakibaa.Pure
open Go.RowKit Go.Proofs.Ytkechjheiakibaa.X Go.Proofs.YtkechjheiakibaaW.PrintWords Go.Proofs.YtkechjheiakibaaW.PrintLast
theorem cfl_snoc' (code : Nat → List Bool) (l : List Int) (n m : Nat) (h : n < l.length) (hm : l.getD n 0 = (m : Int)) : (cfl code (l.take (n + 1))).length = (cfl code (l.take n)).length + (code m).length := by
  have e := cfl_snoc code l n h
  rw [hm, Int.toNat_natCast] at e
  rw [e, List.length_append]
theorem tail_part (x y : List Int) (hx : coded x = true) (hy : coded y = true) (u v : List Int) (hu : Rep (cfl gmb x) u) (hbx : (cfl gmb x).length ≤ 2400) :
    laws_FnCodesAreRead.L1 x y ((cfl gmb x).length : Int) ((cfl dlb y).length : Int) y (y.length : Int) (y.length : Int) ((cfl gmb x).length : Int) u ((cfl dlb y).length : Int) v = some true := by
  obtain ⟨x6, xa⟩ := coded_facts hx
  obtain ⟨y6, ya⟩ := coded_facts hy
  rw [laws_FnCodesAreRead.L1_eq, if_neg (by omega), if_pos rfl, if_pos rfl, w64 (x := (x.length : Int) + (y.length : Int)) (by omega) (by omega)]
  by_cases h : (x.length : Int) + (y.length : Int) > 60
  · rw [if_pos h]; simp
  · have hxy : coded (x ++ y) = true := coded_of (by simp; omega) (by unfold allIn at *; rw [List.all_append, xa, ya]; rfl)
    have c : cfl gmb (x ++ y) = cfl gmb x ++ cfl gmb y := cfl_app gmb x y
    rw [if_neg h]
    rcases gamma_both y (by omega) with ⟨h1, _⟩ | ⟨_, p, _, e1, r1, b1⟩
    · rw [hy] at h1; cases h1
    · rcases gamma_both (x ++ y) (by simp; omega) with ⟨h2, _⟩ | ⟨_, q, _, e2, r2, b2⟩
      · rw [hxy] at h2; cases h2
      · rw [c] at r2 b2 e2
        obtain ⟨j, e3, r3⟩ := join_F (cfl gmb x) (cfl gmb y) u p hu r1 (by omega)
        have hq := r2.1
        have := r2.unique r3
        subst this
        rw [e1, bsome, bsome, if_pos (by simp; omega), bsome, if_pos (by simp; omega), List.nil_append, e2, bsome]
        simp only
        rw [e3, bsome]
        simp only [if_true]
        rw [laws_pSameBits.F_eq, if_pos rfl, pSameA_F q (by omega), bsome, bsome]
theorem delta_part (x y : List Int) (hx : coded x = true) (hy : coded y = true) (u v : List Int) (hu : Rep (cfl gmb x) u) (hbx : (cfl gmb x).length ≤ 2400) : ∀ d n : Nat, n + d = y.length →
    laws_FnCodesAreRead.L1 x y ((cfl gmb x).length : Int) ((cfl dlb (y.take n)).length : Int) y (y.length : Int) (n : Int) ((cfl gmb x).length : Int) u ((cfl dlb y).length : Int) v = some true
  | 0, n, h => by
    have e : n = y.length := by omega
    subst e
    rw [List.take_length]
    exact tail_part x y hx hy u v hu hbx
  | d + 1, n, h => by
    obtain ⟨y6, ya⟩ := coded_facts hy
    have hv := allIn_atA ya n (by omega)
    obtain ⟨m, hm⟩ := Int.eq_ofNat_of_zero_le (show 0 ≤ y.getD n 0 by omega)
    have hc := cfl_len dlb dlb_40 (y.take n) (allIn_take y 1 100000 n ya)
    have hn : (y.take n).length = n := by simp; omega
    have h40 := dlb_40 m (by omega) (by omega)
    have e := cfl_snoc' dlb y n m (by omega) hm
    rw [laws_FnCodesAreRead.L1_eq, if_pos (by omega), if_pos (by omega), if_pos (by omega), rdn, hm, deltaLen_F m (by omega) (by omega), bsome]
    simp only
    rw [if_pos trivial, wn (by omega), w64 (x := ((cfl dlb (y.take n)).length : Int) + ((dlb m).length : Int)) (by omega) (by omega)]
    have := delta_part x y hx hy u v hu hbx d (n + 1) (by omega)
    rw [e] at this
    exact this
theorem gamma_part (x y : List Int) (hx : coded x = true) (hy : coded y = true) (u v : List Int) (hu : Rep (cfl gmb x) u) (hbx : (cfl gmb x).length ≤ 2400) : ∀ d n : Nat, n + d = x.length →
    laws_FnCodesAreRead.L0 x y ((cfl gmb (x.take n)).length : Int) x (x.length : Int) (n : Int) ((cfl gmb x).length : Int) u ((cfl dlb y).length : Int) v = some true
  | 0, n, h => by
    have e : n = x.length := by omega
    subst e
    rw [laws_FnCodesAreRead.L0_eq, if_neg (by omega), List.take_length]
    exact delta_part x y hx hy u v hu hbx y.length 0 (by omega)
  | d + 1, n, h => by
    obtain ⟨x6, xa⟩ := coded_facts hx
    have hv := allIn_atA xa n (by omega)
    obtain ⟨m, hm⟩ := Int.eq_ofNat_of_zero_le (show 0 ≤ x.getD n 0 by omega)
    have hc := cfl_len gmb gmb_40 (x.take n) (allIn_take x 1 100000 n xa)
    have hn : (x.take n).length = n := by simp; omega
    have h40 := gmb_40 m (by omega) (by omega)
    have e := cfl_snoc' gmb x n m (by omega) hm
    rw [laws_FnCodesAreRead.L0_eq, if_pos (by omega), if_pos (by omega), if_pos (by omega), rdn, hm, gammaLen_F m (by omega) (by omega), bsome]
    simp only
    rw [if_pos trivial, wn (by omega), w64 (x := ((cfl gmb (x.take n)).length : Int) + ((gmb m).length : Int)) (by omega) (by omega)]
    have := gamma_part x y hx hy u v hu hbx d (n + 1) (by omega)
    rw [e] at this
    exact this
theorem FnCodesAreRead : X.laws_FnCodesAreRead.Pure := by
  intro l0 l1 w0 w1
  refine Sup.rounds (laws_FnCodesAreRead.F_sup l0 l1) ?_
  rw [laws_FnCodesAreRead.F_eq]
  unfold laws_big.f
  by_cases h : (l0.length : Int) > 1048576
  · rw [if_pos h, bsome, if_pos rfl]
  · rw [if_neg h, bsome]
    by_cases h2 : (l1.length : Int) > wrap64 (1048576 - (l0.length : Int))
    · rw [if_pos (decide_eq_true h2)]
    · rw [w64 (by omega) (by omega)] at h2
      rw [w64 (by omega) (by omega), if_neg (by rw [decide_eq_false h2]; simp)]
      have hB : Bytes l0 := ⟨by omega, fun i hi => wfI_u8 (w0.2 _ (getD_mem l0 0 i hi))⟩
      have hB1 : Bytes l1 := ⟨by omega, fun i hi => wfI_u8 (w1.2 _ (getD_mem l1 0 i hi))⟩
      obtain ⟨x, e1, hx⟩ := drawGamma_t l0 hB
      obtain ⟨y, e2, hy⟩ := drawDelta_t l1 hB1
      rw [e1, bsome, e2, bsome]
      have pB : ∀ (n : Int) (u : List Int), u.length ≤ 1048576 → laws_pSameBits.F n u n u = some true := fun n u hu => by rw [laws_pSameBits.F_eq, if_pos rfl, pSameA_F u hu, bsome]
      rcases gamma_both x (by omega) with ⟨g1, g2, g3⟩ | ⟨g1, u, g2, g3, gr, gb⟩ <;> rcases delta_both y (by omega) with ⟨d1, d2, d3⟩ | ⟨d1, v, d2, d3, dr, db⟩ <;> rw [g2, g3, bsome, bsome]
      · simp only [bne_self_eq_false, Bool.false_eq_true, if_false, if_true, pB 0 [] (by simp), bsome, d2, d3]
      · have dl := dr.1
        simp only [bne_self_eq_false, Bool.false_eq_true, if_false, if_true, pB 0 [] (by simp), bsome, d2, d3, pB _ v (by omega)]
      · have gl := gr.1
        simp only [bne_self_eq_false, Bool.false_eq_true, if_false, if_true, pB 0 [] (by simp), bsome, d2, d3, pB _ u (by omega)]
      · have gl := gr.1
        have dl := dr.1
        have r1 : impl_DecodeGamma.F ((cfl gmb x).length : Int) u (x.length : Int) = some (x, true) := by
          rcases gamma_decodes ((cfl gmb x).length : Int) u (x.length : Int) (by omega) with ⟨_, _, h7⟩ | ⟨z, _, h8, _, _, h9⟩
          · exact absurd gr (h7 _ g1 rfl rfl)
          · have := h9 _ g1 rfl rfl gr
            subst this
            exact h8
        have r2 : impl_DecodeDelta.F ((cfl dlb y).length : Int) v (y.length : Int) = some (y, true) := by
          rcases delta_decodes ((cfl dlb y).length : Int) v (y.length : Int) (by omega) with ⟨_, _, h7⟩ | ⟨z, _, h8, _, _, h9⟩
          · exact absurd dr (h7 _ d1 rfl rfl)
          · have := h9 _ d1 rfl rfl dr
            subst this
            exact h8
        simp only [bne_self_eq_false, Bool.false_eq_true, if_false, if_true, bsome, d2, d3, pB _ u (by omega), pB _ v (by omega), r1, r2, pSameA_F x (by omega), pSameA_F y (by omega)]
        exact gamma_part x y g1 d1 u v gr gb x.length 0 (by omega)
end Go.Proofs.Ytkechjheiakibaa.Pure
