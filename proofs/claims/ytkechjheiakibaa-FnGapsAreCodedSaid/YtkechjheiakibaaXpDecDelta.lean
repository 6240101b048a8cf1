/- Both decoders tell the same, for whatever vector and count; and they read back what was encoded. -/
import Derived.Test.YtkechjheiakibaaXg38a
import Derived.Test.YtkechjheiakibaaXg3ca
import Derived.Test.YtkechjheiakibaaXg3fb
import Derived.Test.YtkechjheiakibaaXpBase
import Derived.Test.YtkechjheiakibaaXpBitAt
import Derived.Test.YtkechjheiakibaaXpBitNat
import Derived.Test.YtkechjheiakibaaXpBitReps
import Derived.Test.YtkechjheiakibaaXpBitsGood
import Derived.Test.YtkechjheiakibaaXpCodeBits
import Derived.Test.YtkechjheiakibaaXpCoding
import Derived.Test.YtkechjheiakibaaXpDecodes
import Derived.Test.YtkechjheiakibaaXpReads
import Derived.Test.YtkechjheiakibaaXpWithin
namespace Go.Proofs.Ytkechjheiakibaa.X
open Go.RowKit Go.Proofs.YtkechjheiakibaaW.PrintWords Go.Proofs.YtkechjheiakibaaW.PrintLast
set_option linter.unusedVariables false
set_option linter.unusedSimpArgs false
theorem delta_decodes (n : Int) (ws : List Int) (c : Int) (hl : ws.length ≤ 1048576) :
    (spec_DecodeDelta.F n ws c = some ([], false) ∧ impl_DecodeDelta.F n ws c = some ([], false) ∧ ∀ (x : List Int), coded x = true → (x.length : Int) = c → ((cfl dlb x).length : Int) = n → ¬ Rep (cfl dlb x) ws) ∨
    ∃ y : List Int, spec_DecodeDelta.F n ws c = some (y, true) ∧ impl_DecodeDelta.F n ws c = some (y, true) ∧ (y.length : Int) = c ∧ y.length ≤ 60 ∧ ∀ x : List Int, coded x = true → (x.length : Int) = c → ((cfl dlb x).length : Int) = n → Rep (cfl dlb x) ws → y = x := by
  rw [spec_DecodeDelta.F_eq, impl_DecodeDelta.F_eq, impl_decode_at_impl_EncodeDelta.F_eq, biGood_F n ws hl, isBits_F n ws hl, bsome, bsome]
  have no : ∀ (x : List Int), coded x = true → ((cfl dlb x).length : Int) = n → Rep (cfl dlb x) ws → goodB n ws = true := fun x hc hn hr => by
    obtain ⟨h1, h2⟩ := coded_facts hc
    have h3 := cfl_len dlb dlb_40 x h2
    rw [← hn]
    exact good_rep hr (by omega)
  by_cases hg : goodB n ws = true
  · obtain ⟨g1, g2, g3⟩ := goodB_facts hg
    obtain ⟨N, rfl⟩ := Int.eq_ofNat_of_zero_le g1.1
    rw [if_pos hg, if_pos hg, in_f, l1In_f, bsome, bsome]
    by_cases hk : 0 ≤ c ∧ c ≤ 60
    · obtain ⟨K, rfl⟩ := Int.eq_ofNat_of_zero_le hk.1
      rw [decide_eq_true hk, if_pos rfl, spec_DecodeDelta.J0_eq, if_neg (by decide), spec_spDecode.F_eq]
      have hW : Words ws := words_rep (rep_good hg)
      have hE : Tells dlb impl_EncodeDelta.F := fun l h => by
        rcases delta_both l h with ⟨h1, _, h2⟩ | ⟨h1, u, _, h2, h3, h4⟩
        · exact .inl ⟨h1, h2⟩
        · exact .inr ⟨h1, u, h2, h3, h4⟩
      obtain ⟨y, ok, e1, e2, e3, e4⟩ := both_tell (code := dlb) (δ := true) (N := N) (ws := ws) (C := impl_decoder_delta.F) (E := impl_EncodeDelta.F) (L := impl_decode_at_impl_EncodeDelta.L0) impl_decode_at_impl_EncodeDelta.L0_eq hE (fun A x8 h1 h2 a ha => delta_step N ws hW (by omega) (by omega) A x8 h1 h2 a ha) (fun a m q hm hq h1 h2 => dl_unique hm hq h1 h2) (fun a m m0 m1 h1 h2 => decDelta_at N ws hW (by omega) (by omega) a m m0 (log_17 m0 m1) h1 h2) (fun a b ha => delta_total N ws hW (by omega) (by omega) a ha b) (by omega) hg K (by omega)
      rw [e1, e2, bsome, bsome]
      unfold spec_spIf.f
      cases ok with
      | true =>
        rw [if_pos rfl, bsome]
        exact .inr ⟨y, rfl, rfl, by have := e3 rfl; omega, by have := e3 rfl; omega, fun x h1 h2 h3 h4 => (e4 x h1 (by omega) (by omega) h4).2⟩
      | false =>
        refine .inl ⟨rfl, rfl, fun x h1 h2 h3 h4 => ?_⟩
        cases (e4 x h1 (by omega) (by omega) h4).1
    · rw [decide_eq_false hk, if_neg (by decide), spec_DecodeDelta.J0_eq, if_pos (show (!false) = true from rfl)]
      refine .inl ⟨rfl, rfl, fun x h1 h2 _ _ => ?_⟩
      have := (coded_facts h1).1
      omega
  · rw [if_neg hg, if_neg hg, spec_DecodeDelta.J0_eq, if_pos rfl]
    exact .inl ⟨rfl, rfl, fun x h1 _ h3 h4 => hg (no x h1 h3 h4)⟩
end Go.Proofs.Ytkechjheiakibaa.X
