/- Codes read one behind another: the program's decoder and the reference's tell the same list or none, for whatever vector and count. -/
import Derived.Test.YtkechjheiakibaaXg3ca
import Derived.Test.YtkechjheiakibaaXpBase
import Derived.Test.YtkechjheiakibaaXpBitAt
import Derived.Test.YtkechjheiakibaaXpBitNat
import Derived.Test.YtkechjheiakibaaXpBitReps
import Derived.Test.YtkechjheiakibaaXpBitsGood
import Derived.Test.YtkechjheiakibaaXpCodeBits
import Derived.Test.YtkechjheiakibaaXpCoding
import Derived.Test.YtkechjheiakibaaXpFld
import Derived.Test.YtkechjheiakibaaXpReads
import Derived.Test.YtkechjheiakibaaXpSameProg
import Derived.Test.YtkechjheiakibaaXpWithin
namespace Go.Proofs.Ytkechjheiakibaa.X
open Go.RowKit Go.Proofs.YtkechjheiakibaaW.PrintWords Go.Proofs.YtkechjheiakibaaW.PrintLast
set_option linter.unusedVariables false
set_option linter.unusedSimpArgs false
theorem cfl_app (code : Nat → List Bool) (x y : List Int) : cfl code (x ++ y) = cfl code x ++ cfl code y := by
  unfold cfl; rw [List.map_append, List.flatten_append]
theorem cfl_one (code : Nat → List Bool) (n : Nat) : cfl code [(n : Int)] = code n := by simp [cfl]
theorem cfl_cut (code : Nat → List Bool) (l : List Int) (n : Nat) : cfl code l = cfl code (l.take n) ++ cfl code (l.drop n) := by
  rw [← cfl_app, List.take_append_drop]
theorem coded_facts {l : List Int} (h : coded l = true) : l.length ≤ 60 ∧ allIn l 1 100000 = true := by
  unfold coded at h
  rw [Bool.and_eq_true] at h
  exact ⟨by have := of_decide_eq_true h.1; omega, h.2⟩
theorem coded_of {l : List Int} (h : l.length ≤ 60) (h2 : allIn l 1 100000 = true) : coded l = true := by
  unfold coded
  rw [h2, decide_eq_true (by omega)]; rfl
theorem allIn_snoc {l : List Int} {n : Nat} (h : allIn l 1 100000 = true) (h0 : 0 < n) (h1 : n ≤ 100000) : allIn (l ++ [(n : Int)]) 1 100000 = true := by
  unfold allIn at *
  rw [List.all_append, h, List.all_cons, List.all_nil, decide_eq_true (by omega)]; rfl
/-- What stands at a place, if the whole is the codes of a list. -/
theorem has_at {f : Nat → Bool} {code : Nat → List Bool} {l : List Int} {N : Nat} (hs : Has f 0 (cfl code l)) (hl : (cfl code l).length = N) (ha : allIn l 1 100000 = true) (n : Nat) (hn : n < l.length) : ∃ m : Nat, l.getD n 0 = (m : Int) ∧ 0 < m ∧ m ≤ 100000 ∧ Has f (cfl code (l.take n)).length (code m) ∧ (cfl code (l.take n)).length + (code m).length ≤ N ∧ (cfl code (l.take (n + 1))).length = (cfl code (l.take n)).length + (code m).length := by
  have hv := allIn_atA ha n hn
  obtain ⟨m, hm⟩ := Int.eq_ofNat_of_zero_le (show 0 ≤ l.getD n 0 by omega)
  have e := cfl_snoc code l n hn
  rw [hm, Int.toNat_natCast] at e
  have c := cfl_cut code l (n + 1)
  rw [c, Has.app] at hs
  have h1 := hs.1
  rw [e, Has.app, Nat.zero_add] at h1
  have h2 : (cfl code (l.take (n + 1))).length ≤ N := by rw [← hl, c, List.length_append]; omega
  have h3 : (cfl code (l.take (n + 1))).length = (cfl code (l.take n)).length + (code m).length := by rw [e, List.length_append]
  exact ⟨m, hm, by omega, by omega, h1.2, by omega, h3⟩
def DecEq (C : Int → List Int → Int → Bool → Option (Int × Int × Bool)) (E : List Int → Option (Int × List Int × Bool)) (L : Int → List Int → Int → Int → List Int → Int → Bool → Option (List Int × Bool)) : Prop := ∀ (b0 : Int) (l0 : List Int) (a1 : Int) (x25 : Int) (out : List Int) (at_ : Int) (bad : Bool), L b0 l0 a1 x25 out at_ bad = if x25 < a1 then ((C b0 l0 at_ bad).bind fun g => (if out.length < 17592186044416 then (L b0 l0 a1 (wrap64 (x25 + 1)) (out ++ [g.1]) g.2.1 g.2.2) else (none))) else ((E out).bind fun x => (if bad = true then (some ([], false)) else (if x.2.2 = true then ((impl_sameBits.F x.1 x.2.1 b0 l0).bind fun s => (if s = true then (some (out, true)) else (some ([], false)))) else (some ([], false)))))
def Tells (code : Nat → List Bool) (E : List Int → Option (Int × List Int × Bool)) : Prop := ∀ l : List Int, l.length ≤ 1048576 → (coded l = false ∧ E l = some (0, [], false)) ∨ (coded l = true ∧ ∃ ws, E l = some (((cfl code l).length : Int), ws, true) ∧ Rep (cfl code l) ws ∧ (cfl code l).length ≤ 2400)
section
variable {code : Nat → List Bool} {C : Int → List Int → Int → Bool → Option (Int × Int × Bool)} {E : List Int → Option (Int × List Int × Bool)} {L : Int → List Int → Int → Int → List Int → Int → Bool → Option (List Int × Bool)} (hL : DecEq C E L) (hE : Tells code E) {N : Nat} {ws : List Int}
include hL hE
theorem dec_yes (hat : ∀ a n : Nat, 0 < n → n ≤ 100000 → Has (bitAt ws) a (code n) → a + (code n).length ≤ N → C N ws a false = some ((n : Int), ((a + (code n).length : Nat) : Int), false)) (l : List Int) (hc : coded l = true) (hs : Has (bitAt ws) 0 (cfl code l)) (hl : (cfl code l).length = N) (hr : Rep (cfl code l) ws) :
    ∀ d i : Nat, i + d = l.length → L N ws l.length i (l.take i) (cfl code (l.take i)).length false = some (l, true)
  | 0, i, h => by
    have ht : l.take i = l := List.take_of_length_le (by omega)
    obtain ⟨h60, ha⟩ := coded_facts hc
    rw [hL, if_neg (by omega), ht]
    rcases hE l (by omega) with ⟨h1, _⟩ | ⟨_, u, h2, h3, h4⟩
    · rw [hc] at h1; cases h1
    · have := h3.unique hr
      subst this
      have hu := h3.1
      rw [h2, bsome, if_neg (by decide), if_pos rfl, hl, sameA_F _ u _ u (by omega), bsome, if_pos (by simp)]
  | d + 1, i, h => by
    obtain ⟨h60, ha⟩ := coded_facts hc
    obtain ⟨m, e, m0, m1, g1, g2, g3⟩ := has_at hs hl ha i (by omega)
    have hlen : (l.take i).length = i := by simp; omega
    rw [hL, if_pos (by omega), hat _ m m0 m1 g1 g2, bsome, if_pos (by omega), wn (by omega)]
    simp only
    rw [← e, ← take_succ_getD l 0 i (by omega), ← g3]
    exact dec_yes hat l hc hs hl hr d (i + 1) (by omega)
theorem dec_any (hM : N ≤ 4096) (htot : ∀ (a : Nat) (bad : Bool), a ≤ N → ∃ (g1 : Int) (g2 : Nat) (g3 : Bool), C N ws a bad = some (g1, (g2 : Int), g3) ∧ g2 ≤ N) (K : Nat) (hK : K ≤ 60) :
    ∀ (d i : Nat) (out : List Int) (a : Nat) (bad : Bool), i + d = K → out.length = i → a ≤ N → L N ws K i out a bad = some ([], false) ∨ ∃ x, L N ws K i out a bad = some (x, true) ∧ coded x = true ∧ x.length = K ∧ (cfl code x).length = N ∧ Rep (cfl code x) ws
  | 0, i, out, a, bad, h, ho, ha => by
    rw [hL, if_neg (by omega)]
    rcases hE out (by omega) with ⟨_, h1⟩ | ⟨hc, u, h2, h3, h4⟩
    · rw [h1, bsome]
      cases bad <;> exact .inl rfl
    · rw [h2, bsome]
      cases bad with
      | true => exact .inl rfl
      | false =>
        have hu := h3.1
        rw [if_neg (by decide), if_pos rfl, sameA_F _ u _ ws (by omega), bsome]
        by_cases h5 : (((cfl code out).length : Int) = (N : Int)) ∧ u = ws
        · rw [if_pos (by simp [h5.1, h5.2])]
          exact .inr ⟨out, rfl, hc, by omega, by omega, by rw [← h5.2]; exact h3⟩
        · rw [if_neg]
          · exact .inl rfl
          · simp only [Bool.and_eq_true, decide_eq_true_eq]
            exact h5
  | d + 1, i, out, a, bad, h, ho, ha => by
    obtain ⟨g1, g2, g3, e, hg⟩ := htot a bad ha
    rw [hL, if_pos (by omega), e, bsome, if_pos (by omega), wn (by omega)]
    exact dec_any hM htot K hK d (i + 1) (out ++ [g1]) g2 g3 (by omega) (by simp [ho]) hg
end
section
variable (N : Nat) (ws : List Int) (hW : Words ws) (hN : N ≤ 16 * ws.length) (hM : N ≤ 4096)
include hW hN hM
theorem spOne_F (a : Nat) (ha : a ≤ N) : (∃ n : Nat, 0 < n ∧ n ≤ 131072 ∧ Has (bitAt ws) a (gmb n) ∧ a + (gmb n).length ≤ N ∧ spec_spOne.F N ws a = some ((n : Int), ((a + (gmb n).length : Nat) : Int))) ∨ ((∀ n : Nat, 0 < n → n ≤ 131071 → ¬ (Has (bitAt ws) a (gmb n) ∧ a + (gmb n).length ≤ N)) ∧ spec_spOne.F N ws a = some (0, ((N + 1 : Nat) : Int))) := by
  obtain ⟨t, h1, h2, h3, h4, h5, h6⟩ := next_both N ws hW hN hM (N - a) a (by omega)
  rw [spec_spOne.F_eq, spec_biNext.F_eq, h6, bsome, wn (by omega)]
  have no : ¬ (t < N ∧ t - a ≤ 16 ∧ t + 1 + (t - a) ≤ N) → ∀ n : Nat, 0 < n → n ≤ 131071 → ¬ (Has (bitAt ws) a (gmb n) ∧ a + (gmb n).length ≤ N) := by
    rintro hx n n0 n1 ⟨g1, g2⟩
    obtain ⟨e1, _⟩ := gamma_at N ws a t n n0 g1 g2 h1 h3 h4 h2
    have := (Nat.log2_lt (n := n) (k := 17) (by omega)).2 (by omega)
    rw [gmb_len] at g2
    exact hx ⟨by omega, by omega, by omega⟩
  by_cases ht : t < N
  · have e1 : wrap64 ((t : Int) - (a : Int)) = ((t - a : Nat) : Int) := by rw [w64 (by omega) (by omega)]; omega
    rw [if_pos ht, if_neg (by omega), e1, wn (by omega), spRead_F N ws hW hN hM _ _ (by omega) (by omega), bsome]
    by_cases hx : t - a ≤ 16 ∧ t + 1 + (t - a) ≤ N
    · rw [if_pos hx]
      have hf := fld_lt (fun j => bitAt ws (t + 1 + j)) (t - a)
      have hl := log2_top _ _ hf
      have hq : 2 ^ (t - a) ≤ 2 ^ 16 := Nat.pow_le_pow_right (by omega) hx.1
      have h16 : 2 ^ 16 = 65536 := by decide
      have hp := Nat.two_pow_pos (t - a)
      have hg := gmb_len (2 ^ (t - a) + fld (fun j => bitAt ws (t + 1 + j)) (t - a))
      rw [hl] at hg
      refine .inl ⟨2 ^ (t - a) + fld (fun j => bitAt ws (t + 1 + j)) (t - a), by omega, by omega, ?_, by omega, ?_⟩
      · rw [Has.gm, hl]
        refine ⟨fun i hi => h3 _ (by omega) (by omega), ?_, fun j hj => ?_⟩
        · rw [show a + (t - a) = t from by omega]; exact h4 ht
        · rw [top_bit _ _ _ hj, fld_testBit _ _ _ hj, show a + (t - a) + 1 + j = t + 1 + j from by omega]
      · rw [hg]
        congr 3
        omega
    · rw [if_neg hx]
      exact .inr ⟨no (fun y => hx y.2), rfl⟩
  · rw [if_neg ht, if_pos (by omega)]
    exact .inr ⟨no (fun y => ht y.1), rfl⟩
theorem gamma_step (K : Int) (x8 : List Int) (hx : (x8.length : Int) < K) (hK : K ≤ 60) (a : Nat) (ha : a ≤ N) : (∃ n : Nat, 0 < n ∧ n ≤ 100000 ∧ Has (bitAt ws) a (gmb n) ∧ a + (gmb n).length ≤ N ∧ spec_spDecode.L0 K false x8 a N ws = spec_spDecode.L0 K false (x8 ++ [(n : Int)]) ((a + (gmb n).length : Nat) : Int) N ws) ∨ ((∀ n : Nat, 0 < n → n ≤ 100000 → ¬ (Has (bitAt ws) a (gmb n) ∧ a + (gmb n).length ≤ N)) ∧ spec_spDecode.L0 K false x8 a N ws = some ([], false)) := by
  rw [spec_spDecode.L0_eq, if_pos hx]
  rcases spOne_F N ws hW hN hM a ha with ⟨n, n0, n1, g1, g2, e⟩ | ⟨no, e⟩
  · rw [e, bsome, if_neg (by decide), spec_spDecode.J1_eq, if_neg (by decide), if_neg (by omega)]
    by_cases h : n ≤ 100000
    · rw [if_neg (by omega), if_pos (by omega)]
      exact .inl ⟨n, n0, h, g1, g2, rfl⟩
    · rw [if_pos (by omega)]
      exact .inr ⟨fun m m0 m1 hm => h (by rw [← gm_unique m0 n0 hm.1 g1]; exact m1), rfl⟩
  · rw [e, bsome, if_neg (by decide), spec_spDecode.J1_eq, if_neg (by decide), if_pos (by omega)]
    exact .inr ⟨fun m m0 m1 => no m m0 (by omega), rfl⟩
theorem delta_step (K : Int) (x8 : List Int) (hx : (x8.length : Int) < K) (hK : K ≤ 60) (a : Nat) (ha : a ≤ N) : (∃ n : Nat, 0 < n ∧ n ≤ 100000 ∧ Has (bitAt ws) a (dlb n) ∧ a + (dlb n).length ≤ N ∧ spec_spDecode.L0 K true x8 a N ws = spec_spDecode.L0 K true (x8 ++ [(n : Int)]) ((a + (dlb n).length : Nat) : Int) N ws) ∨ ((∀ n : Nat, 0 < n → n ≤ 100000 → ¬ (Has (bitAt ws) a (dlb n) ∧ a + (dlb n).length ≤ N)) ∧ spec_spDecode.L0 K true x8 a N ws = some ([], false)) := by
  rw [spec_spDecode.L0_eq, if_pos hx]
  rcases spOne_F N ws hW hN hM a ha with ⟨q, q0, q1, g1, g2, e⟩ | ⟨no, e⟩
  · have e1 : wrap64 ((q : Int) - 1) = ((q - 1 : Nat) : Int) := by rw [w64 (by omega) (by omega)]; omega
    rw [e, bsome, if_pos rfl, spec_spDecode.J1_eq, if_pos (decide_eq_true (by omega)), e1, spRead_F N ws hW hN hM _ _ (by omega) (by omega), bsome]
    have no : ¬ (q - 1 ≤ 16 ∧ a + (gmb q).length + (q - 1) ≤ N) → ∀ n : Nat, 0 < n → n ≤ 100000 → ¬ (Has (bitAt ws) a (dlb n) ∧ a + (dlb n).length ≤ N) := by
      rintro hx n n0 n1 ⟨y1, y2⟩
      rw [dlb, Has.app] at y1
      rw [dlb, List.length_append, tlb_len] at y2
      have := gm_unique (by omega) q0 y1.1 g1
      have := log_17 n0 n1
      subst q
      exact hx ⟨by omega, by omega⟩
    by_cases h : q - 1 ≤ 16 ∧ a + (gmb q).length + (q - 1) ≤ N
    · rw [if_pos h]
      simp only
      have hf := fld_lt (fun j => bitAt ws (a + (gmb q).length + j)) (q - 1)
      have hl := log2_top _ _ hf
      have hp := Nat.two_pow_pos (q - 1)
      generalize hn : 2 ^ (q - 1) + fld (fun j => bitAt ws (a + (gmb q).length + j)) (q - 1) = n at *
      have hd : dlb n = gmb q ++ tlb n := by rw [dlb, hl, show q - 1 + 1 = q from by omega]
      have hh : Has (bitAt ws) a (dlb n) := by
        rw [hd, Has.app, Has.tl, hl]
        refine ⟨g1, fun j hj => ?_⟩
        rw [← hn, top_bit _ _ _ hj, fld_testBit _ _ _ hj]
      have hlen : (dlb n).length = (gmb q).length + (q - 1) := by rw [hd, List.length_append, tlb_len, hl]
      rw [if_neg (by omega)]
      by_cases h9 : n ≤ 100000
      · rw [if_neg (by omega), if_pos (by omega)]
        refine .inl ⟨n, by omega, h9, hh, by omega, ?_⟩
        rw [hlen, Nat.add_assoc]
      · rw [if_pos (by omega)]
        exact .inr ⟨fun m m0 m1 hm => h9 (by rw [← dl_unique m0 (by omega) hm.1 hh]; exact m1), rfl⟩
    · rw [if_neg h]
      simp only
      rw [if_pos (by omega)]
      exact .inr ⟨no h, rfl⟩
  · rw [e, bsome, if_pos rfl, spec_spDecode.J1_eq, if_neg (by rw [decide_eq_false (by omega)]; decide), if_pos (by omega)]
    refine .inr ⟨?_, rfl⟩
    rintro n n0 n1 ⟨y1, y2⟩
    rw [dlb, Has.app] at y1
    rw [dlb, List.length_append] at y2
    have := log_17 n0 n1
    exact no (Nat.log2 n + 1) (by omega) (by omega) ⟨y1.1, by omega⟩
end
def Steps (code : Nat → List Bool) (δ : Bool) (N : Nat) (ws : List Int) : Prop := ∀ (K : Int) (x8 : List Int), (x8.length : Int) < K → K ≤ 60 → ∀ a : Nat, a ≤ N → (∃ n : Nat, 0 < n ∧ n ≤ 100000 ∧ Has (bitAt ws) a (code n) ∧ a + (code n).length ≤ N ∧ spec_spDecode.L0 K δ x8 a N ws = spec_spDecode.L0 K δ (x8 ++ [(n : Int)]) ((a + (code n).length : Nat) : Int) N ws) ∨ ((∀ n : Nat, 0 < n → n ≤ 100000 → ¬ (Has (bitAt ws) a (code n) ∧ a + (code n).length ≤ N)) ∧ spec_spDecode.L0 K δ x8 a N ws = some ([], false))
section
variable {code : Nat → List Bool} {δ : Bool} {N : Nat} {ws : List Int} (hS : Steps code δ N ws)
include hS
theorem spec_yes (hu : ∀ (a m n : Nat), 0 < m → 0 < n → Has (bitAt ws) a (code m) → Has (bitAt ws) a (code n) → m = n) (l : List Int) (hc : coded l = true) (hs : Has (bitAt ws) 0 (cfl code l)) (hl : (cfl code l).length = N) :
    ∀ d i : Nat, i + d = l.length → spec_spDecode.L0 l.length δ (l.take i) (cfl code (l.take i)).length N ws = some (l, true)
  | 0, i, h => by
    have ht : l.take i = l := List.take_of_length_le (by omega)
    rw [ht, spec_spDecode.L0_eq, if_neg (by omega), hl]
    simp
  | d + 1, i, h => by
    obtain ⟨h60, ha⟩ := coded_facts hc
    obtain ⟨m, e, m0, m1, g1, g2, g3⟩ := has_at hs hl ha i (by omega)
    have hlen : (l.take i).length = i := by simp; omega
    rcases hS l.length (l.take i) (by omega) (by omega) _ (show (cfl code (l.take i)).length ≤ N by omega) with ⟨n, n0, n1, y1, y2, y3⟩ | ⟨no, _⟩
    · have := hu _ m n m0 n0 g1 y1
      subst this
      rw [y3, ← e, ← take_succ_getD l 0 i (by omega), ← g3]
      exact spec_yes hu l hc hs hl d (i + 1) (by omega)
    · exact absurd ⟨g1, g2⟩ (no m m0 m1)
theorem spec_any (K : Nat) (hK : K ≤ 60) : ∀ (d : Nat) (x8 : List Int), x8.length + d = K → allIn x8 1 100000 = true → Has (bitAt ws) 0 (cfl code x8) → (cfl code x8).length ≤ N →
    (∃ y, spec_spDecode.L0 K δ x8 (cfl code x8).length N ws = some (y, false)) ∨ ∃ x, spec_spDecode.L0 K δ x8 (cfl code x8).length N ws = some (x, true) ∧ coded x = true ∧ x.length = K ∧ (cfl code x).length = N ∧ Has (bitAt ws) 0 (cfl code x)
  | 0, x8, h, ha, hs, hl => by
    rw [spec_spDecode.L0_eq, if_neg (by omega)]
    by_cases e : (cfl code x8).length = N
    · rw [e]
      exact .inr ⟨x8, by simp, coded_of (by omega) ha, by omega, e, hs⟩
    · refine .inl ⟨x8, ?_⟩
      rw [show (((cfl code x8).length : Int) == (N : Int)) = false from by rw [beq_eq_false_iff_ne]; omega]
  | d + 1, x8, h, ha, hs, hl => by
    rcases hS K x8 (by omega) (by omega) _ hl with ⟨n, n0, n1, y1, y2, y3⟩ | ⟨no, e⟩
    · have c : cfl code (x8 ++ [(n : Int)]) = cfl code x8 ++ code n := by rw [cfl_app, cfl_one]
      have cl : (cfl code (x8 ++ [(n : Int)])).length = (cfl code x8).length + (code n).length := by rw [c, List.length_append]
      rw [y3, ← cl]
      refine spec_any K hK d (x8 ++ [(n : Int)]) (by simp; omega) (allIn_snoc ha n0 n1) ?_ (by omega)
      rw [c, Has.app, Nat.zero_add]
      exact ⟨hs, y1⟩
    · exact .inl ⟨[], e⟩
end
/-- Both tell the same. -/
theorem both_tell {code : Nat → List Bool} {δ : Bool} {N : Nat} {ws : List Int} {C : Int → List Int → Int → Bool → Option (Int × Int × Bool)} {E : List Int → Option (Int × List Int × Bool)} {L : Int → List Int → Int → Int → List Int → Int → Bool → Option (List Int × Bool)} (hL : DecEq C E L) (hE : Tells code E) (hS : Steps code δ N ws)
    (hu : ∀ (a m n : Nat), 0 < m → 0 < n → Has (bitAt ws) a (code m) → Has (bitAt ws) a (code n) → m = n)
    (hat : ∀ a n : Nat, 0 < n → n ≤ 100000 → Has (bitAt ws) a (code n) → a + (code n).length ≤ N → C N ws a false = some ((n : Int), ((a + (code n).length : Nat) : Int), false)) (htot : ∀ (a : Nat) (bad : Bool), a ≤ N → ∃ (g1 : Int) (g2 : Nat) (g3 : Bool), C N ws a bad = some (g1, (g2 : Int), g3) ∧ g2 ≤ N)
    (hM : N ≤ 4096) (hg : goodB N ws = true) (K : Nat) (hK : K ≤ 60) :
    ∃ (y : List Int) (ok : Bool), spec_spDecode.L0 K δ [] 0 N ws = some (y, ok) ∧ L N ws K 0 [] 0 false = some (if ok then y else [], ok) ∧ (ok = true → y.length = K) ∧ (∀ x : List Int, coded x = true → x.length = K → (cfl code x).length = N → Rep (cfl code x) ws → ok = true ∧ y = x) := by
  have has_rep : ∀ x : List Int, (cfl code x).length = N → Has (bitAt ws) 0 (cfl code x) → Rep (cfl code x) ws := fun x hl hs => by
    have : cfl code x = bl ws N := getD_ext (by rw [bl_len, hl]) (fun i hi => by
      rw [bl_getD ws N i (by omega)]
      have := hs i hi
      rw [Nat.zero_add] at this
      exact this.symm)
    rw [this]
    exact rep_good hg
  have rep_has : ∀ x : List Int, Rep (cfl code x) ws → Has (bitAt ws) 0 (cfl code x) := fun x hr i hi => by
    rw [Nat.zero_add]; exact bitAt_rep hr i hi
  have yes : ∀ x : List Int, coded x = true → x.length = K → (cfl code x).length = N → Rep (cfl code x) ws → spec_spDecode.L0 K δ [] 0 N ws = some (x, true) ∧ L N ws K 0 [] 0 false = some (x, true) := fun x hc hx hl hr => by
    have s := spec_yes hS hu x hc (rep_has x hr) hl x.length 0 (by omega)
    have d := dec_yes hL hE hat x hc (rep_has x hr) hl hr x.length 0 (by omega)
    rw [hx] at s d
    exact ⟨s, d⟩
  have s := spec_any hS K hK K [] (by simp) rfl (fun i hi => by simp [cfl] at hi) (by simp [cfl])
  have d := dec_any hL hE hM htot K hK K 0 [] 0 false (by omega) rfl (by omega)
  have c0 : (((cfl code []).length : Nat) : Int) = 0 := rfl
  rw [c0] at s
  have d' : L N ws K 0 [] 0 false = some ([], false) ∨ ∃ x, L N ws K 0 [] 0 false = some (x, true) ∧ coded x = true ∧ x.length = K ∧ (cfl code x).length = N ∧ Rep (cfl code x) ws := d
  rcases s with ⟨y, e⟩ | ⟨x, e, h1, h2, h3, h4⟩
  · rcases d' with f | ⟨x, f, h1, h2, h3, h4⟩
    · exact ⟨y, false, e, f, (fun h => by cases h), fun x g1 g2 g3 g4 => by
        have := (yes x g1 g2 g3 g4).1
        rw [e] at this; cases this⟩
    · have := (yes x h1 h2 h3 h4).1
      rw [e] at this; cases this
  · have hr := has_rep x h3 h4
    obtain ⟨_, f⟩ := yes x h1 h2 h3 hr
    exact ⟨x, true, e, f, fun _ => h2, fun z g1 g2 g3 g4 => ⟨rfl, by
      have := (yes z g1 g2 g3 g4).1
      rw [e] at this
      injection this with this
      injection this⟩⟩
end Go.Proofs.Ytkechjheiakibaa.X
