/- Marks of two digits: the reference's packing and the program's are the same words. -/
import Derived.Test.YtioncjcmfbndmaaXg40a
import Derived.Test.YtioncjcmfbndmaaXpBase
import Derived.Test.YtioncjcmfbndmaaXpBitNat
import Derived.Test.YtioncjcmfbndmaaXpBitPut
namespace Go.Proofs.Ytioncjcmfbndmaa.X
open Go.RowKit Go.Proofs.YtioncjcmfbndmaaW.PrintWords Go.Proofs.YtioncjcmfbndmaaW.PrintLast
set_option linter.unusedVariables false
set_option linter.unusedSimpArgs false
theorem packs_L (l : List Int) (hl : l.length ≤ 1048576) : ∀ (d n : Nat) (bs : List Bool) (ws : List Int), n + d = l.length → bs.length = 2 * l.length → Rep bs ws →
    ∃ ws', spec_pfPack.L0 bs l l.length n = some (((2 * l.length : Nat) : Int), ws') ∧ impl_fields.L0 2 l l.length n ((2 * l.length : Nat) : Int) ws = some (((2 * l.length : Nat) : Int), ws') ∧ ws'.length = (2 * l.length + 15) / 16
  | 0, n, bs, ws, h, hb, hr => by
    obtain ⟨w0, e, r⟩ := biSome_F bs (by omega)
    rw [spec_pfPack.L0_eq, impl_fields.L0_eq, if_neg (by omega), if_neg (by omega), e, bsome, ← hb]
    have := r.unique hr
    subst this
    exact ⟨w0, rfl, rfl, r.1⟩
  | d + 1, n, bs, ws, h, hb, hr => by
    obtain ⟨b1, w1, e1, e2, e3, r1⟩ := put_F (2 * n) 2 (l.getD n 0) bs ws ((2 * l.length : Nat) : Int) (by omega) (by omega) hr
    obtain ⟨w2, e4, e5, e7⟩ := packs_L l hl d (n + 1) b1 w1 (by omega) (by omega) r1
    rw [show ((2 : Nat) : Int) = 2 from rfl] at e1 e2
    have p1 : wrap64 (2 * (n : Int)) = ((2 * n : Nat) : Int) := by rw [w64 (by omega) (by omega)]; omega
    have p2 : wrap64 ((n : Int) * 2) = ((2 * n : Nat) : Int) := by rw [w64 (by omega) (by omega)]; omega
    rw [spec_pfPack.L0_eq, impl_fields.L0_eq, if_pos (by omega), if_pos (by omega), if_pos (by omega), if_pos (by omega), if_pos (by omega), if_pos (by omega), p1, p2, rdn, e1, bsome, e2, bsome, wn (by omega)]
    exact ⟨w2, e4, e5, e7⟩
theorem packs_F (l : List Int) (hl : l.length ≤ 1048576) : ∃ ws, spec_pfPack.F l = some (((2 * l.length : Nat) : Int), ws) ∧ impl_fields.F l 2 = some (((2 * l.length : Nat) : Int), ws) ∧ ws.length = (2 * l.length + 15) / 16 := by
  have p1 : wrap64 (2 * (l.length : Int)) = ((2 * l.length : Nat) : Int) := by rw [w64 (by omega) (by omega)]; omega
  have p2 : wrap64 ((l.length : Int) * 2) = ((2 * l.length : Nat) : Int) := by rw [w64 (by omega) (by omega)]; omega
  obtain ⟨ws, h1, h2, h4⟩ := packs_L l hl l.length 0 (List.replicate (2 * l.length) false) _ (by omega) (by simp) (Rep.zeros (2 * l.length))
  refine ⟨ws, ?_, ?_, h4⟩
  · rw [spec_pfPack.F_eq, p1, if_pos (by omega), if_pos (by omega), Int.toNat_natCast]
    exact h1
  · rw [impl_fields.F_eq, p2, blank_F _ (by omega), bsome]
    exact h2
end Go.Proofs.Ytioncjcmfbndmaa.X
