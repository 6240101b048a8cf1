/- The drawn field that is put: the draw ends. -/
import Derived.Test.YtkechjheiakibaaXg40b
import Derived.Test.YtkechjheiakibaaXg40c
import Derived.Test.YtkechjheiakibaaXpBase
import Derived.Test.YtkechjheiakibaaXpDrawBits
import Derived.Test.YtkechjheiakibaaXpDraws
namespace Go.Proofs.Ytkechjheiakibaa.X
open Go.RowKit Go.Proofs.YtkechjheiakibaaW.PrintWords Go.Proofs.YtkechjheiakibaaW.PrintLast
set_option linter.unusedVariables false
set_option linter.unusedSimpArgs false
theorem width_t (l : List Int) (hl : Bytes l) (a s : Int) (h0 : 0 ≤ a) (h1 : a ≤ 100000) : ∃ w a' s' : Int, spec_l1Cur_width.f l a s = some (w, a', s') ∧ (-1 ≤ w ∧ w ≤ 25) ∧ 0 ≤ a' ∧ a' ≤ a + 10 := by
  obtain ⟨b, a1, s1, e1, b1, c1⟩ := one_t l hl a s 8 h0 (by omega)
  unfold spec_l1Cur_width.f
  rw [e1, bsome]
  cases b with
  | true =>
    obtain ⟨x, a2, s2, e2, hx, b2, c2⟩ := among_t l hl a1 s1 [(-1), 24, 25] (by simp) b1 (by omega)
    rw [if_pos rfl, e2, bsome]
    refine ⟨x, a2, s2, rfl, ?_, b2, by omega⟩
    simp only [List.mem_cons, List.not_mem_nil, or_false] at hx
    omega
  | false =>
    obtain ⟨x, a2, s2, e2, x0, x1, b2, c2⟩ := pick_t l hl a1 s1 12 b1 (by omega)
    rw [if_neg (by simp), e2, bsome]
    exact ⟨x, a2, s2, rfl, by omega, b2, by omega⟩
theorem clip_t (w m : Int) (hm : 0 ≤ m) : ∃ c : Int, spec_l1Clip.f w m = some c ∧ 0 ≤ c := by
  unfold spec_l1Clip.f spec_l1Least.f spec_l1Most.f
  by_cases h1 : w < m
  · rw [if_pos h1, bsome]
    by_cases h2 : (0 : Int) > w
    · rw [if_pos h2, bsome]; exact ⟨0, rfl, by omega⟩
    · rw [if_neg h2, bsome]; exact ⟨w, rfl, by omega⟩
  · rw [if_neg h1, bsome, if_neg (by omega), bsome]; exact ⟨m, rfl, hm⟩
theorem place_t (l : List Int) (hl : Bytes l) (a s n : Int) (hn : -10 ≤ n ∧ n ≤ 10000) (h0 : 0 ≤ a) (h1 : a ≤ 100000) : ∃ p a' s' : Int, spec_l1Cur_place.f l a s n = some (p, a', s') := by
  unfold spec_l1Cur_place.f spec_l1Most.f
  by_cases h2 : n > 0
  · obtain ⟨x, a2, s2, e2, x0, x1, b2, c2⟩ := pick_t l hl a s (wrap64 (n + 4)) h0 (by omega)
    rw [if_pos h2, bsome, e2, bsome]; exact ⟨_, _, _, rfl⟩
  · obtain ⟨x, a2, s2, e2, x0, x1, b2, c2⟩ := pick_t l hl a s (wrap64 (0 + 4)) h0 (by omega)
    rw [if_neg h2, bsome, e2, bsome]; exact ⟨_, _, _, rfl⟩
theorem drawPut_t (l : List Int) (hl : Bytes l) : ∃ (n : Int) (ws : List Int) (p w v : Int), spec_DrawPutField.F l = some (n, ws, p, w, v) ∧ ws.length ≤ 2000 := by
  obtain ⟨n, ws, a1, s1, e1, hn, hw, b1, c1⟩ := anyBits_t l hl 0 0 (by omega) (by omega)
  obtain ⟨w, a2, s2, e2, hw2, b2, c2⟩ := width_t l hl a1 s1 b1 (by omega)
  obtain ⟨c, e3, hc⟩ := clip_t w 12 (by omega)
  obtain ⟨x, a4, s4, e4, _, _, b4, c4⟩ := pick_t l hl a2 s2 (shl .i64 1 c) b2 (by omega)
  obtain ⟨y, a5, s5, e5, _, _, b5, c5⟩ := pick_t l hl a4 s4 2 b4 (by omega)
  obtain ⟨b, a6, s6, e6, b6, c6⟩ := one_t l hl a5 s5 8 b5 (by omega)
  rw [spec_DrawPutField.F_eq, e1, bsome, e2, bsome, e3, bsome, if_pos hc, e4, bsome, e5, bsome, e6, bsome]
  cases b with
  | true =>
    obtain ⟨d, e7, hd⟩ := clip_t w 24 (by omega)
    obtain ⟨z, a8, s8, e8, _, _, b8, c8⟩ := pick_t l hl a6 s6 2 b6 (by omega)
    obtain ⟨p, a9, s9, e9⟩ := place_t l hl a8 s8 n hn b8 (by omega)
    rw [if_pos rfl, e7, bsome, if_pos hd, e8, bsome, e9, bsome]
    exact ⟨_, _, _, _, _, rfl, hw⟩
  | false =>
    obtain ⟨p, a9, s9, e9⟩ := place_t l hl a6 s6 n hn b6 (by omega)
    rw [if_neg (by simp), e9, bsome]
    exact ⟨_, _, _, _, _, rfl, hw⟩
end Go.Proofs.Ytkechjheiakibaa.X
