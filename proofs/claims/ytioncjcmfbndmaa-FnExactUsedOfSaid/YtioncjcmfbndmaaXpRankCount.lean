/- How many marks a stretch of words holds, as both sides count it, and the rank lists of the words. -/
import Derived.Test.YtioncjcmfbndmaaXg800a
import Derived.Test.YtioncjcmfbndmaaXg900a
import Derived.Test.YtioncjcmfbndmaaXpBase
import Derived.Test.YtioncjcmfbndmaaXpBitAt
import Derived.Test.YtioncjcmfbndmaaXpBitAtProg
namespace Go.Proofs.Ytioncjcmfbndmaa.X
open Go.RowKit Go.Proofs.YtioncjcmfbndmaaW.PrintWords Go.Proofs.YtioncjcmfbndmaaW.PrintLast
set_option linter.unusedVariables false
set_option linter.unusedSimpArgs false
def cbt (ws : List Int) : Nat → Nat → Nat
  | 0, _ => 0
  | d + 1, a => (if bitAt ws a then 1 else 0) + cbt ws d (a + 1)
theorem cbt_bd (ws : List Int) : ∀ d a : Nat, cbt ws d a ≤ d
  | 0, a => Nat.le_refl _
  | d + 1, a => by
    have := cbt_bd ws d (a + 1)
    show (if bitAt ws a then 1 else 0) + cbt ws d (a + 1) ≤ d + 1
    split <;> omega
theorem cbt_add (ws : List Int) (e : Nat) : ∀ d a : Nat, cbt ws (d + e) a = cbt ws d a + cbt ws e (a + d)
  | 0, a => by rw [Nat.zero_add, Nat.add_zero]; exact (Nat.zero_add _).symm
  | d + 1, a => by
    rw [show d + 1 + e = (d + e) + 1 from by omega]
    show (if bitAt ws a then 1 else 0) + cbt ws (d + e) (a + 1) = (if bitAt ws a then 1 else 0) + cbt ws d (a + 1) + cbt ws e (a + (d + 1))
    rw [cbt_add ws e d (a + 1), show a + 1 + d = a + (d + 1) from by omega]
    omega
theorem spec_count_L (N : Int) (ws : List Int) (hw : Words ws) (hi : Nat) (hb : hi ≤ 16 * ws.length) (hm : ws.length ≤ 4194304) : ∀ (d n c : Nat), n + d = hi → c + d ≤ 134217728 → spec_biCount.L0 hi c n N ws = some ((c + cbt ws d n : Nat) : Int)
  | 0, n, c, h, hc => by rw [spec_biCount.L0_eq, if_neg (by omega)]; rfl
  | d + 1, n, c, h, hc => by
    rw [spec_biCount.L0_eq, if_pos (by omega), biAt_F N ws n hw (by omega) (by omega), bsome]
    show _ = some ((c + ((if bitAt ws n then 1 else 0) + cbt ws d (n + 1)) : Nat) : Int)
    cases hv : bitAt ws n with
    | true => rw [if_pos rfl, if_pos rfl, wn (by omega), wn (by omega), spec_count_L N ws hw hi hb hm d (n + 1) (c + 1) (by omega) (by omega), Nat.add_assoc]
    | false => rw [if_neg (by simp), if_neg (by simp), wn (by omega), spec_count_L N ws hw hi hb hm d (n + 1) c (by omega) (by omega), Nat.zero_add]
theorem spec_count_F (N : Int) (ws : List Int) (hw : Words ws) (hm : ws.length ≤ 4194304) (a d : Nat) (h : a + d ≤ 16 * ws.length) (x y : Int) (hx : x = (a : Int)) (hy : y = ((a + d : Nat) : Int)) : spec_biCount.F N ws x y = some ((cbt ws d a : Nat) : Int) := by
  subst hx hy
  rw [spec_biCount.F_eq, show (0 : Int) = ((0 : Nat) : Int) from rfl, spec_count_L N ws hw (a + d) h hm d a 0 rfl (by omega), Nat.zero_add]
theorem impl_count_L (N : Int) (ws : List Int) (hw : Words ws) (hi : Nat) (hb : hi ≤ 16 * ws.length) (hm : ws.length ≤ 4194304) : ∀ (d n c : Nat), n + d = hi → c + d ≤ 134217728 → impl_Bits_count.L0 hi c n N ws = some ((c + cbt ws d n : Nat) : Int)
  | 0, n, c, h, hc => by rw [impl_Bits_count.L0_eq, if_neg (by omega)]; rfl
  | d + 1, n, c, h, hc => by
    rw [impl_Bits_count.L0_eq, if_pos (by omega), bitsAt_F N ws n hw (by omega) (by omega), bsome]
    show _ = some ((c + ((if bitAt ws n then 1 else 0) + cbt ws d (n + 1)) : Nat) : Int)
    cases hv : bitAt ws n with
    | true => rw [if_pos rfl, if_pos rfl, wn (by omega), wn (by omega), impl_count_L N ws hw hi hb hm d (n + 1) (c + 1) (by omega) (by omega), Nat.add_assoc]
    | false => rw [if_neg (by simp), if_neg (by simp), wn (by omega), impl_count_L N ws hw hi hb hm d (n + 1) c (by omega) (by omega), Nat.zero_add]
theorem impl_count_F (N : Int) (ws : List Int) (hw : Words ws) (hm : ws.length ≤ 4194304) (a d : Nat) (h : a + d ≤ 16 * ws.length) (x y : Int) (hx : x = (a : Int)) (hy : y = ((a + d : Nat) : Int)) : impl_Bits_count.F N ws x y = some ((cbt ws d a : Nat) : Int) := by
  subst hx hy
  rw [impl_Bits_count.F_eq, show (0 : Int) = ((0 : Nat) : Int) from rfl, impl_count_L N ws hw (a + d) h hm d a 0 rfl (by omega), Nat.zero_add]
theorem ranked_L (n : Nat) (ws : List Int) (hw : Words ws) (hm : ws.length ≤ 4194304) (hn : n ≤ 16 * ws.length) : ∀ (d j : Nat) (x4 x5 x7 : Int) (S O : List Int), n ≤ 16 * (j + d) → j + d ≤ 8388608 →
    (16 * j < n → x4 = ((cbt ws (16 * j) 0 : Nat) : Int)) → (16 * j < n → 16 * j % 64 ≠ 0 → x5 = ((cbt ws (16 * j / 64 * 64) 0 : Nat) : Int)) → S.length ≤ j → O.length ≤ j →
    ∃ S' O' : List Int, impl_ranked.L0 x4 x5 ((16 * j : Nat) : Int) x7 n ws n ws S O = some ((n : Int), ws, S', O') ∧ spec_raOf.L0 ((16 * j : Nat) : Int) n ws n ws S O = some ((n : Int), ws, S', O') ∧ S'.length ≤ j + d ∧ O'.length ≤ j + d
  | 0, j, x4, x5, x7, S, O, h, hd, h4, h5, hS, hO => by
    rw [impl_ranked.L0_eq, spec_raOf.L0_eq, if_neg (by omega), if_neg (by omega)]
    exact ⟨S, O, rfl, rfl, by omega, by omega⟩
  | d + 1, j, x4, x5, x7, S, O, h, hd, h4, h5, hS, hO => by
    by_cases hj : 16 * j < n
    · have hx := h4 hj
      have w1 : wrap64 (((16 * j : Nat) : Int) + 16) = ((16 * (j + 1) : Nat) : Int) := by rw [w64 (by omega) (by omega)]; omega
      have m1 : ∃ e : Nat, mn ((16 * (j + 1) : Nat) : Int) n = ((16 * j + e : Nat) : Int) ∧ 16 * j + e ≤ n ∧ (16 * (j + 1) < n → e = 16) ∧ e ≤ 16 := by
        unfold mn
        by_cases h1 : (n : Int) < ((16 * (j + 1) : Nat) : Int)
        · rw [if_pos h1]; exact ⟨n - 16 * j, by omega, by omega, by omega, by omega⟩
        · rw [if_neg h1]; exact ⟨16, by omega, by omega, by omega, by omega⟩
      obtain ⟨e, m1, m2, m3, m4⟩ := m1
      have c1 := impl_count_F (n : Int) ws hw hm (16 * j) e (by omega) ((16 * j : Nat) : Int) ((16 * j + e : Nat) : Int) rfl rfl
      have b1 := cbt_bd ws (16 * j) 0
      have b2 := cbt_bd ws e (16 * j)
      have w2 : wrap64 (x4 + ((cbt ws e (16 * j) : Nat) : Int)) = ((cbt ws (16 * j + e) 0 : Nat) : Int) := by
        rw [hx, cbt_add, Nat.zero_add, w64 (by omega) (by omega)]; omega
      have hx' : 16 * (j + 1) < n → ((cbt ws (16 * j + e) 0 : Nat) : Int) = ((cbt ws (16 * (j + 1)) 0 : Nat) : Int) := fun h6 => by rw [m3 h6]; rfl
      have w3 : wrap64 ((wrap64 (Int.tdiv ((16 * j : Nat) : Int) 64)) * 64) = ((16 * j / 64 * 64 : Nat) : Int) := by
        rw [tdiv_nn (by omega), w64 (x := ((16 * j : Nat) : Int) / 64) (by omega) (by omega), w64 (by omega) (by omega)]; omega
      have c2 := spec_count_F (n : Int) ws hw hm (16 * j / 64 * 64) (16 * j % 64) (by omega) ((16 * j / 64 * 64 : Nat) : Int) ((16 * j : Nat) : Int) rfl (by omega)
      have t1 : Int.tmod ((16 * j : Nat) : Int) 64 = ((16 * j % 64 : Nat) : Int) := by rw [tmod_nn (by omega)]; omega
      have hsum : cbt ws (16 * j) 0 = cbt ws (16 * j / 64 * 64) 0 + cbt ws (16 * j % 64) (16 * j / 64 * 64) := by
        have := cbt_add ws (16 * j % 64) (16 * j / 64 * 64) 0
        rw [Nat.zero_add, show 16 * j / 64 * 64 + 16 * j % 64 = 16 * j from by omega] at this
        exact this
      by_cases h6 : 16 * j % 64 = 0
      · have c3 := spec_count_F (n : Int) ws hw hm 0 (16 * j) (by omega) 0 ((16 * j : Nat) : Int) rfl (by omega)
        obtain ⟨S', O', r1, r2, r3, r4⟩ := ranked_L n ws hw hm hn d (j + 1) ((cbt ws (16 * j + e) 0 : Nat) : Int) x4 (wrap64 (x7 + 1)) (S ++ [x4]) (O ++ [0]) (by omega) (by omega) hx' (fun h7 h8 => by
          rw [hx, show 16 * (j + 1) / 64 * 64 = 16 * j from by omega]) (by simp; omega) (by simp; omega)
        refine ⟨S', O', ?_, ?_, by omega, by omega⟩
        · rw [impl_ranked.L0_eq, if_pos (by omega), t1, if_pos (by omega), if_pos (by omega), if_pos (by omega), w1, m1, c1, bsome, w2]
          exact r1
        · rw [spec_raOf.L0_eq, if_pos (by omega), t1, if_pos (by omega), c3, bsome, if_pos (by omega), w3, c2, bsome, if_pos (by omega), w1, ← hx, h6]
          exact r2
      · obtain ⟨S', O', r1, r2, r3, r4⟩ := ranked_L n ws hw hm hn d (j + 1) ((cbt ws (16 * j + e) 0 : Nat) : Int) x5 (wrap64 (x7 + 1)) S (O ++ [wrap64 (x4 - x5)]) (by omega) (by omega) hx' (fun h7 h8 => by
          rw [h5 hj h6, show 16 * (j + 1) / 64 * 64 = 16 * j / 64 * 64 from by omega]) (by omega) (by simp; omega)
        refine ⟨S', O', ?_, ?_, by omega, by omega⟩
        · rw [impl_ranked.L0_eq, if_pos (by omega), t1, if_neg (by omega), if_pos (by omega), w1, m1, c1, bsome, w2]
          exact r1
        · rw [show wrap64 (x4 - x5) = ((cbt ws (16 * j % 64) (16 * j / 64 * 64) : Nat) : Int) from by rw [hx, h5 hj h6, w64 (by omega) (by omega)]; omega] at r2
          rw [spec_raOf.L0_eq, if_pos (by omega), t1, if_neg (by omega), w3, c2, bsome, if_pos (by omega), w1]
          exact r2
    · rw [impl_ranked.L0_eq, spec_raOf.L0_eq, if_neg (by omega), if_neg (by omega)]
      exact ⟨S, O, rfl, rfl, by omega, by omega⟩
theorem ranked_both (n : Nat) (ws : List Int) (hw : Words ws) (hm : ws.length ≤ 65536) (hn : n ≤ 16 * ws.length) : ∃ S O : List Int, impl_ranked.F n ws = some ((n : Int), ws, S, O) ∧ spec_raOf.F n ws = some ((n : Int), ws, S, O) ∧ S.length ≤ ws.length ∧ O.length ≤ ws.length := by
  obtain ⟨S, O, r1, r2, r3, r4⟩ := ranked_L n ws hw (by omega) hn ws.length 0 0 0 0 [] [] (by omega) (by omega) (fun _ => rfl) (fun _ _ => rfl) (Nat.le_refl _) (Nat.le_refl _)
  refine ⟨S, O, ?_, ?_, by omega, by omega⟩
  · rw [impl_ranked.F_eq]
    unfold impl_cloneBits.f slices_Clone_int_int.f
    rw [if_pos (by omega), bsome, bsome]
    exact r1
  · rw [spec_raOf.F_eq]
    unfold spec_biOwn.f spec_l1Own.f
    rw [bsome, if_pos (by rw [List.length_nil]; omega), bsome, bsome, List.nil_append]
    exact r2
end Go.Proofs.Ytioncjcmfbndmaa.X
