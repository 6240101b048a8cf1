/- The program's and the reference's peeling make the same steps and leave the same edges. -/
import Derived.Test.YtlcedciocmjggaaXg1c00a
import Derived.Test.YtlcedciocmjggaaXg3c00a
import Derived.Test.YtlcedciocmjggaaXg3e00a
import Derived.Test.YtlcedciocmjggaaXpBase
import Derived.Test.YtlcedciocmjggaaXpDegrees
import Derived.Test.YtlcedciocmjggaaXpPeels
import Derived.Test.YtlcedciocmjggaaXx0
namespace Go.Proofs.Ytlcedciocmjggaa.X
open Go.RowKit Go.Proofs.YtlcedciocmjggaaW.PrintWords Go.Proofs.YtlcedciocmjggaaW.PrintLast
set_option linter.unusedVariables false
set_option linter.unusedSimpArgs false
theorem rd_0 (t : List Int) : rd t 0 = t.getD 0 0 := rfl
/-- One step: the place t, the edge r. -/
theorem peel_step {P : Int} {l : List (List Int)} (ho : HyOk P l) (g : List Bool) (hg : g.length = l.length) (j : Nat) (hj : j < (freeL l P (lefts g)).length) :
    ∃ r : Int, impl_Hyper_edgeAt.F P l g ((freeL l P (lefts g)).getD j 0) = some r ∧ spec_peWith.F P l (lefts g) ((freeL l P (lefts g)).getD j 0) = some r ∧ 0 ≤ r ∧ r < g.length ∧ spec_l1Drop.F (lefts g) r = some (lefts (g.set r.toNat true)) ∧ (lefts (g.set r.toNat true)).length < (lefts g).length := by
  have hl := ho.2.1
  have hll := lefts_len g
  obtain ⟨h0, h1, h2, r, hr, hm⟩ := free_mem ho (lefts g) (lefts_fit hg) (getD_mem _ 0 j hj)
  have hr' := mem_lefts hm
  refine ⟨r, edgeAt_F _ g l hg ho r hr, ?_, hr'.1, hr'.2.1, ?_, ?_⟩
  · rw [with_F _ _ l (by omega) (lefts_fit hg) ho, hr]; rfl
  · rw [drop_F _ _ (by omega), lefts_set g r hr'.1 hr'.2.1]
  · rw [lefts_set g r hr'.1 hr'.2.1]; exact filter_less _ _ hm
def StepsOk (m : Nat) (S : List S88) : Prop := ∀ s ∈ S, 0 ≤ s.f0 ∧ s.f0 < (m : Int)
theorem StepsOk.snoc {m : Nat} {S : List S88} (h : StepsOk m S) {s : S88} (hs : 0 ≤ s.f0 ∧ s.f0 < (m : Int)) : StepsOk m (S ++ [s]) := by
  intro x hx
  rcases List.mem_append.1 hx with h1 | h1
  · exact h x h1
  · simp only [List.mem_singleton] at h1; subst h1; exact hs
theorem peel_both {P : Int} {l : List (List Int)} (ho : HyOk P l) : ∀ (d : Nat) (g : List Bool) (S : List S88) (k : Int), g.length = l.length → (lefts g).length ≤ d → S.length + (lefts g).length ≤ 40 → 0 ≤ k → k + d ≤ 1000 → StepsOk l.length S →
    ∃ (S' : List S88) (r : List Int), impl_Hyper_peel.L0 S g P l = some (S', r) ∧ spec_pePeel.L0 [] true S (lefts g) k P l = some (S', r) ∧ S'.length ≤ 40 ∧ r.length ≤ 40 ∧ StepsOk l.length S' := by
  intro d
  induction d with
  | zero =>
    intro g S k hg hd hS hk hk' hok
    have hl := ho.2.1
    have h0 : lefts g = [] := List.length_eq_zero_iff.1 (by omega)
    have h1 : (freeL l P (lefts g)).length = 0 := by
      rcases Nat.eq_zero_or_pos (freeL l P (lefts g)).length with h | h
      · exact h
      · obtain ⟨_, _, _, r, _, hm⟩ := free_mem ho (lefts g) (lefts_fit hg) (getD_mem _ 0 0 h)
        rw [h0] at hm; cases hm
    refine ⟨S, lefts g, ?_, ?_, by omega, by omega, hok⟩
    · rw [impl_Hyper_peel.L0_eq, singles_F g l hg ho, bsome, if_pos (by omega), left_F g (by omega), bsome]
    · rw [spec_pePeel.L0_eq, if_pos rfl, spec_pePeel.J1_eq, if_pos rfl, free_F _ l (by omega) (lefts_fit hg) ho, bsome, if_pos (by omega)]
  | succ d ih =>
    intro g S k hg hd hS hk hk' hok
    have hl := ho.2.1
    rw [impl_Hyper_peel.L0_eq, singles_F g l hg ho, bsome, spec_pePeel.L0_eq, if_pos rfl, spec_pePeel.J1_eq, if_pos rfl, free_F _ l (by omega) (lefts_fit hg) ho, bsome]
    by_cases h : ((freeL l P (lefts g)).length : Int) = 0
    · rw [if_pos h, if_pos h, left_F g (by omega), bsome]
      exact ⟨S, lefts g, rfl, rfl, by omega, by omega, hok⟩
    · obtain ⟨r, e1, e2, r0, r1, e3, e4⟩ := peel_step ho g hg 0 (by omega)
      rw [if_neg h, if_neg h, if_pos (by omega), rd_0, e1, bsome, if_pos r0, if_pos (by omega), if_pos (by omega), if_neg (by simp; omega), if_pos (by omega), e2, bsome, if_pos (by omega), e3, bsome, w64 (by omega) (by omega)]
      exact ih (g.set r.toNat true) _ (k + 1) (by simpa using hg) (by omega) (by simp; omega) (by omega) (by omega) (hok.snoc ⟨r0, by rw [← hg]; exact r1⟩)
theorem peels_both {P : Int} {l : List (List Int)} (ho : HyOk P l) : ∃ (S : List S88) (r : List Int), impl_Hyper_peel.F P l = some (S, r) ∧ spec_pePeel.F P l [] true = some (S, r) ∧ S.length ≤ 40 ∧ r.length ≤ 40 ∧ StepsOk l.length S := by
  have hl := ho.2.1
  have hn : (lefts (List.replicate l.length false)).length ≤ 40 := by have := lefts_len (List.replicate l.length false); simp at this; omega
  obtain ⟨S, r, h1, h2, h3⟩ := peel_both ho 40 (List.replicate l.length false) [] 0 (by simp) hn (by simpa using hn) (by omega) (by omega) (by intro s hs; cases hs)
  refine ⟨S, r, ?_, ?_, h3⟩
  · rw [impl_Hyper_peel.F_eq, none_f P l (by omega), bsome]; exact h1
  · rw [spec_pePeel.F_eq, all_F P l (by omega), bsome]; exact h2
end Go.Proofs.Ytlcedciocmjggaa.X
