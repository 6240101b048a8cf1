/- A vector made of told marks: the words hold just these. -/
import Derived.Test.YtkechjheiakibaaXg3fa
import Derived.Test.YtkechjheiakibaaXg7fa
import Derived.Test.YtkechjheiakibaaXpBase
import Derived.Test.YtkechjheiakibaaXpBitNat
import Derived.Test.YtkechjheiakibaaXpBitPut
namespace Go.Proofs.Ytkechjheiakibaa.X
open Go.RowKit Go.Proofs.YtkechjheiakibaaW.PrintWords Go.Proofs.YtkechjheiakibaaW.PrintLast
set_option linter.unusedVariables false
set_option linter.unusedSimpArgs false
theorem blank_A (n : Nat) (h : n ≤ 4194304) : impl_blank.f (n : Int) = some ((n : Int), List.replicate ((n + 15) / 16) 0) := by
  unfold impl_blank.f impl_words.f
  rw [w64 (x := (n : Int) + 16) (by omega) (by omega), w64 (x := (n : Int) + 16 - 1) (by omega) (by omega), tdiv_nn (by omega), w64 (by omega) (by omega), bsome, if_pos (by omega), if_pos (by omega)]
  rw [show (((n : Int) + 16 - 1) / 16).toNat = (n + 15) / 16 from by omega]
theorem madeA_L (bs : List Bool) (hb : bs.length ≤ 4194304) : ∀ (d n : Nat) (ws : List Int), n + d = bs.length → Rep (bs.take n ++ List.replicate (bs.length - n) false) ws → ∃ ws', impl_madeBits_at_impl_encode_1.L0 bs.length n bs bs.length ws = some ((bs.length : Int), ws') ∧ Rep bs ws'
  | 0, n, ws, h, hr => by
    rw [impl_madeBits_at_impl_encode_1.L0_eq, if_neg (by omega)]
    refine ⟨ws, rfl, ?_⟩
    have : n = bs.length := by omega
    subst this
    simpa using hr
  | d + 1, n, ws, h, hr => by
    have hs := set_step bs false false n (by omega)
    obtain ⟨ws', e, hr'⟩ := bitsSet_F hr bs.length n (bs.getD n false) (by simp; omega) (by simp; omega)
    rw [hs] at hr'
    obtain ⟨ws2, e2, h2⟩ := madeA_L bs hb d (n + 1) ws' (by omega) hr'
    refine ⟨ws2, ?_, h2⟩
    rw [impl_madeBits_at_impl_encode_1.L0_eq, if_pos (by omega)]
    unfold impl_encode_1.f
    rw [if_pos (by omega), if_pos (by omega), rdOfn, bsome, e, bsome, wn (by omega)]
    exact e2
theorem made_F (bs : List Bool) (hb : bs.length ≤ 4194304) : ∃ ws, impl_madeBits_at_impl_encode_1.F (bs.length : Int) bs = some ((bs.length : Int), ws) ∧ Rep bs ws := by
  rw [impl_madeBits_at_impl_encode_1.F_eq, blank_A _ hb, bsome]
  refine madeA_L bs hb bs.length 0 _ (by omega) ?_
  simpa using Rep.zeros bs.length
end Go.Proofs.Ytkechjheiakibaa.X
