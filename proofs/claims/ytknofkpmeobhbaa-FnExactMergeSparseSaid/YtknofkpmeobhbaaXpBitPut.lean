/- Marks one by one: the reference sets them in a list of truth values and packs it, the program sets them in the words themselves. -/
import Derived.Test.YtknofkpmeobhbaaXg1a
import Derived.Test.YtknofkpmeobhbaaXg1d
import Derived.Test.YtknofkpmeobhbaaXpBase
import Derived.Test.YtknofkpmeobhbaaXpBitNat
set_option linter.unusedVariables false
set_option linter.unusedSimpArgs false
namespace Go.Proofs.Ytknofkpmeobhbaa.X
open Go.RowKit Go.Proofs.YtknofkpmeobhbaaW.PrintWords Go.Proofs.YtknofkpmeobhbaaW.PrintLast
theorem biSet_F {bs : List Bool} {ws : List Int} (h : Rep bs ws) (n : Int) (i : Nat) (hi : i < bs.length) (hb : bs.length ≤ 4194304) : ∃ ws', spec_biSet.f n ws i = some ws' ∧ Rep (bs.set i true) ws' := by
  obtain ⟨hl, m, h0, h1, h2⟩ := h.at i hi
  obtain ⟨w1, w2⟩ := word_at i (by omega)
  obtain ⟨m', e, h3, h4⟩ := or_bit m (i % 16) h1 (by omega)
  refine ⟨_, ?_, h.put i hi true m m' h0 h3 fun j hj => ?_⟩
  · unfold spec_biSet.f
    rw [w1, w2, if_pos (by omega), if_pos (by omega), if_pos (by omega), rdn, h0, e, Int.toNat_natCast]
  · rw [h4 j]
    by_cases hq : i % 16 = j <;> simp [hq]
theorem bitsSet_F {bs : List Bool} {ws : List Int} (h : Rep bs ws) (n : Int) (i : Nat) (v : Bool) (hi : i < bs.length) (hb : bs.length ≤ 4194304) : ∃ ws', impl_Bits_set.f n ws i v = some ws' ∧ Rep (bs.set i v) ws' := by
  obtain ⟨hl, m, h0, h1, h2⟩ := h.at i hi
  obtain ⟨w1, w2⟩ := word_at i (by omega)
  obtain ⟨m1, e1, h3, h4⟩ := not_bit m (i % 16) h1 (by omega)
  obtain ⟨m2, e2, h5, h6⟩ := or_bit m1 (i % 16) h3 (by omega)
  cases v with
  | false =>
    refine ⟨_, ?_, h.put i hi false m m1 h0 h3 fun j hj => ?_⟩
    · unfold impl_Bits_set.f
      rw [w1, w2, if_pos (by omega), if_pos (by omega), if_pos (by omega), rdn, h0, e1, Int.toNat_natCast, bsome, if_neg (by decide)]
    · rw [h4 j]
      by_cases hq : i % 16 = j <;> simp [hq]
  | true =>
    refine ⟨_, ?_, h.put i hi true m m2 h0 h5 fun j hj => ?_⟩
    · unfold impl_Bits_set.f
      rw [w1, w2, if_pos (by omega), if_pos (by omega), if_pos (by omega), rdn, h0, e1, Int.toNat_natCast, bsome, if_pos rfl, rdn, getD_set_self _ _ _ _ hl, e2, List.set_set]
    · rw [h6 j, h4 j]
      by_cases hq : i % 16 = j <;> simp [hq]
theorem biSome_L (bs : List Bool) (hb : bs.length ≤ 4194304) : ∀ (d n : Nat) (ws : List Int), n + d = bs.length → Rep (bs.take n ++ List.replicate (bs.length - n) false) ws → ∃ ws', spec_biSome.L0 bs bs.length n bs.length ws = some ((bs.length : Int), ws') ∧ Rep bs ws'
  | 0, n, ws, h, hr => by
    rw [spec_biSome.L0_eq, if_neg (by omega)]
    refine ⟨ws, rfl, ?_⟩
    have : n = bs.length := by omega
    subst this
    simpa using hr
  | d + 1, n, ws, h, hr => by
    have hs := set_step bs false false n (by omega)
    cases hv : bs.getD n false with
    | true =>
      obtain ⟨ws', e, hr'⟩ := biSet_F hr bs.length n (by simp; omega) (by simp; omega)
      rw [hv] at hs
      rw [hs] at hr'
      obtain ⟨ws2, e2, h2⟩ := biSome_L bs hb d (n + 1) ws' (by omega) hr'
      refine ⟨ws2, ?_, h2⟩
      rw [spec_biSome.L0_eq, if_pos (by omega), if_pos (by omega), if_pos (by omega), rdOfn, hv, if_pos rfl, e, bsome, wn (by omega)]
      exact e2
    | false =>
      have hr' : Rep (bs.take (n + 1) ++ List.replicate (bs.length - (n + 1)) false) ws := by
        rw [← hs, hv]
        have : (bs.take n ++ List.replicate (bs.length - n) false).set n false = bs.take n ++ List.replicate (bs.length - n) false := by
          rw [List.set_append_right _ _ (by simp; omega), List.length_take, Nat.min_eq_left (by omega), Nat.sub_self, show bs.length - n = (bs.length - n - 1) + 1 from by omega, List.replicate_succ, List.set_cons_zero]
        rw [this]
        exact hr
      obtain ⟨ws2, e2, h2⟩ := biSome_L bs hb d (n + 1) ws (by omega) hr'
      refine ⟨ws2, ?_, h2⟩
      rw [spec_biSome.L0_eq, if_pos (by omega), if_pos (by omega), if_pos (by omega), rdOfn, hv, if_neg (by decide), wn (by omega)]
      exact e2
theorem biSome_F (bs : List Bool) (hb : bs.length ≤ 4194304) : ∃ ws, spec_biSome.F bs = some ((bs.length : Int), ws) ∧ Rep bs ws := by
  have e : spec_biNew.f (bs.length : Int) = some ((bs.length : Int), List.replicate ((bs.length + 15) / 16) 0) := by
    unfold spec_biNew.f
    rw [w64 (x := (bs.length : Int) + 15) (by omega) (by omega), tdiv_nn (by omega), w64 (by omega) (by omega), if_pos (by omega), if_pos (by omega)]
    rw [show (((bs.length : Int) + 15) / 16).toNat = (bs.length + 15) / 16 from by omega]
  rw [spec_biSome.F_eq, e, bsome]
  refine biSome_L bs hb bs.length 0 _ (by omega) ?_
  simpa using Rep.zeros bs.length
theorem put_L (p w : Nat) (v : Int) : ∀ (d j : Nat) (bs : List Bool) (ws : List Int) (n : Int), j + d = w → p + w ≤ bs.length → bs.length ≤ 4194304 → Rep bs ws →
    ∃ bs' ws', spec_biPut.L0 bs p w v j = some bs' ∧ impl_Bits_setField.L0 p v w j n ws = some ws' ∧ bs'.length = bs.length ∧ Rep bs' ws'
  | 0, j, bs, ws, n, h, hp, hb, hr => by
    rw [spec_biPut.L0_eq, impl_Bits_setField.L0_eq, if_neg (by omega), if_neg (by omega)]
    exact ⟨bs, ws, rfl, rfl, rfl, hr⟩
  | d + 1, j, bs, ws, n, h, hp, hb, hr => by
    have e : wrap64 ((p : Int) + (j : Int)) = ((p + j : Nat) : Int) := by rw [w64 (by omega) (by omega)]; omega
    rw [spec_biPut.L0_eq, impl_Bits_setField.L0_eq, if_pos (by omega), if_pos (by omega), if_pos (by omega), if_pos (by omega), e, if_pos (by omega), if_pos (by omega), Int.toNat_natCast, wn (by omega)]
    obtain ⟨w1, e1, r1⟩ := bitsSet_F hr n (p + j) (Go.bits .and .i64 (shr .i64 v (j : Int)) 1 == 1) (by omega) hb
    rw [e1, bsome]
    obtain ⟨b2, w2, e2, e3, e4, r2⟩ := put_L p w v d (j + 1) _ w1 n (by omega) (by simpa using hp) (by simpa using hb) r1
    exact ⟨b2, w2, e2, e3, by simpa using e4, r2⟩
theorem put_F (p w : Nat) (v : Int) (bs : List Bool) (ws : List Int) (n : Int) (hp : p + w ≤ bs.length) (hb : bs.length ≤ 4194304) (hr : Rep bs ws) :
    ∃ bs' ws', spec_biPut.F bs p w v = some bs' ∧ impl_Bits_setField.F n ws p w v = some ws' ∧ bs'.length = bs.length ∧ Rep bs' ws' := by
  rw [spec_biPut.F_eq, impl_Bits_setField.F_eq]
  exact put_L p w v w 0 bs ws n (by omega) hp hb hr
end Go.Proofs.Ytknofkpmeobhbaa.X
