/- Written by a program of this session: what functions of the given program compute, and that their calls do so. -/
import Derived.Test.YtkechjheiakibaaXx0
import Derived.Test.YtkechjheiakibaaXg3ca
import Derived.Test.YtkechjheiakibaaXg3fb
import Derived.Test.YtkechjheiakibaaXg7ca
import Derived.Test.YtkechjheiakibaaXg7fa
import Derived.Test.YtkechjheiakibaaXs
namespace Go.Proofs.Ytkechjheiakibaa.X
open Go.RowKit Go.Proofs.YtkechjheiakibaaW.PrintWords Go.Proofs.YtkechjheiakibaaW.PrintLast Go.Proofs.YtkechjheiakibaaW.PrintMore
attribute [local go_sem] max2_int min2_int max_two min_two max_three min_three max_four min_four   -- for this text's walks alone
set_option linter.unusedVariables false
set_option linter.unusedSimpArgs false
/-! ### spec_DecodeDelta: function 25 -/
def spec_DecodeDelta.j0 : Nat → Int → Bool → Int → List Int → Option (List Int × Bool)
  | 0, _, _, _, _ => none
  | k + 1, x1, x13, x414000, x414001 => if x13 = true then (some (([] : List Int), false)) else ((spec_spDecode.f k x414000 x414001 x1 true).bind fun bt416 => ((spec_spIf.f bt416.1 bt416.2).bind fun bt420 => (some (bt420.1, bt420.2))))
def spec_DecodeDelta.f (k : Nat) (a0_0 : Int) (l0_1 : List Int) (a1 : Int) : Option (List Int × Bool) := (spec_biGood.f k a0_0 l0_1).bind fun t414 => (if t414 = true then ((spec_l1In.f a1 0 60).bind fun t415 => (spec_DecodeDelta.j0 k a1 (!t415) a0_0 l0_1)) else (spec_DecodeDelta.j0 k a1 true a0_0 l0_1))
theorem spec_DecodeDelta.mono_l : ∀ k, (∀ y0 y1 y2 y3, LeO (spec_DecodeDelta.j0 k y0 y1 y2 y3) (spec_DecodeDelta.j0 (k + 1) y0 y1 y2 y3))
  | 0 => fun _ _ _ _ r h => by simp [spec_DecodeDelta.j0] at h
  | k + 1 => by
    have ih0 := spec_DecodeDelta.mono_l k
    · intro y0 y1 y2 y3
      unfold spec_DecodeDelta.j0
      repeat' first
      | (with_reducible exact ih0 _ _ _ _)
      | (with_reducible exact spec_biGood.mono _ _ _)
      | (with_reducible exact spec_spDecode.mono _ _ _ _ _)
      | (with_reducible exact LeO.refl _)
      | (with_reducible exact LeO.none _)
      | (with_reducible refine LeO.ite ?_ ?_)
      | (with_reducible refine LeO.bind ?_ (fun _ => ?_))
      | exact ih0 _ _ _ _
      | exact spec_biGood.mono _ _ _
      | exact spec_spDecode.mono _ _ _ _ _
      | exact LeO.none _
      | refine LeO.ite ?_ ?_
      | refine LeO.bind ?_ (fun _ => ?_)
theorem spec_DecodeDelta.mono : ∀ a0 a1 a2 k, LeO (spec_DecodeDelta.f k a0 a1 a2) (spec_DecodeDelta.f (k + 1) a0 a1 a2) := by
  intro a0 a1 a2 k
  have ih0 := spec_DecodeDelta.mono_l k
  unfold spec_DecodeDelta.f
  repeat' first
      | (with_reducible exact ih0 _ _ _ _)
      | (with_reducible exact spec_biGood.mono _ _ _)
      | (with_reducible exact spec_spDecode.mono _ _ _ _ _)
      | (with_reducible exact LeO.refl _)
      | (with_reducible exact LeO.none _)
      | (with_reducible refine LeO.ite ?_ ?_)
      | (with_reducible refine LeO.bind ?_ (fun _ => ?_))
      | exact ih0 _ _ _ _
      | exact spec_biGood.mono _ _ _
      | exact spec_spDecode.mono _ _ _ _ _
      | exact LeO.none _
      | refine LeO.ite ?_ ?_
      | refine LeO.bind ?_ (fun _ => ?_)
noncomputable def spec_DecodeDelta.J0 (y0 : Int) (y1 : Bool) (y2 : Int) (y3 : List Int) : Option (List Int × Bool) := lim fun k => spec_DecodeDelta.j0 k y0 y1 y2 y3
theorem spec_DecodeDelta.J0_sup (y0 : Int) (y1 : Bool) (y2 : Int) (y3 : List Int) : Sup (fun k => spec_DecodeDelta.j0 k y0 y1 y2 y3) (spec_DecodeDelta.J0 y0 y1 y2 y3) := Sup.of_mono fun k => spec_DecodeDelta.mono_l k y0 y1 y2 y3
noncomputable def spec_DecodeDelta.F (a0_0 : Int) (l0_1 : List Int) (a1 : Int) : Option (List Int × Bool) := lim fun k => spec_DecodeDelta.f k a0_0 l0_1 a1
theorem spec_DecodeDelta.F_sup (a0_0 : Int) (l0_1 : List Int) (a1 : Int) : Sup (fun k => spec_DecodeDelta.f k a0_0 l0_1 a1) (spec_DecodeDelta.F a0_0 l0_1 a1) := Sup.of_mono fun k => spec_DecodeDelta.mono a0_0 l0_1 a1 k
theorem spec_DecodeDelta.J0_eq (x1 : Int) (x13 : Bool) (x414000 : Int) (x414001 : List Int) : spec_DecodeDelta.J0 x1 x13 x414000 x414001 = if x13 = true then (some (([] : List Int), false)) else ((spec_spDecode.F x414000 x414001 x1 true).bind fun bt416 => ((spec_spIf.f bt416.1 bt416.2).bind fun bt420 => (some (bt420.1, bt420.2)))) := by
  refine Sup.unique (spec_DecodeDelta.J0_sup x1 x13 x414000 x414001) (Sup.shift (fun k => spec_DecodeDelta.mono_l k x1 x13 x414000 x414001) (Sup.congr (g' := fun k => if x13 = true then (some (([] : List Int), false)) else ((spec_spDecode.f k x414000 x414001 x1 true).bind fun bt416 => ((spec_spIf.f bt416.1 bt416.2).bind fun bt420 => (some (bt420.1, bt420.2))))) (fun k => by first | rfl | simp only [spec_DecodeDelta.j0]) ?_))
  repeat' first
    | (with_reducible exact spec_DecodeDelta.J0_sup _ _ _ _)
    | (with_reducible exact spec_biGood.F_sup _ _)
    | (with_reducible exact spec_spDecode.F_sup _ _ _ _)
    | (with_reducible refine Sup.ite ?_ ?_)
    | (with_reducible refine Sup.bind ?_ (fun _ => ?_))
    | (with_reducible exact Sup.const _)
    | exact spec_DecodeDelta.J0_sup _ _ _ _
    | exact spec_biGood.F_sup _ _
    | exact spec_spDecode.F_sup _ _ _ _
    | exact Sup.const _
theorem spec_DecodeDelta.F_eq (a0_0 : Int) (l0_1 : List Int) (a1 : Int) : spec_DecodeDelta.F a0_0 l0_1 a1 = (spec_biGood.F a0_0 l0_1).bind fun t414 => (if t414 = true then ((spec_l1In.f a1 0 60).bind fun t415 => (spec_DecodeDelta.J0 a1 (!t415) a0_0 l0_1)) else (spec_DecodeDelta.J0 a1 true a0_0 l0_1)) := by
  refine Sup.unique (spec_DecodeDelta.F_sup a0_0 l0_1 a1) (Sup.congr (g' := fun k => (spec_biGood.f k a0_0 l0_1).bind fun t414 => (if t414 = true then ((spec_l1In.f a1 0 60).bind fun t415 => (spec_DecodeDelta.j0 k a1 (!t415) a0_0 l0_1)) else (spec_DecodeDelta.j0 k a1 true a0_0 l0_1))) (fun k => by first | rfl | simp only [spec_DecodeDelta.f]) ?_)
  repeat' first
    | (with_reducible exact spec_DecodeDelta.J0_sup _ _ _ _)
    | (with_reducible exact spec_biGood.F_sup _ _)
    | (with_reducible exact spec_spDecode.F_sup _ _ _ _)
    | (with_reducible refine Sup.ite ?_ ?_)
    | (with_reducible refine Sup.bind ?_ (fun _ => ?_))
    | (with_reducible exact Sup.const _)
    | exact spec_DecodeDelta.J0_sup _ _ _ _
    | exact spec_biGood.F_sup _ _
    | exact spec_spDecode.F_sup _ _ _ _
    | exact Sup.const _
set_option maxHeartbeats 8000000 in
set_option maxRecDepth 100000 in
theorem spec_DecodeDelta.calls (k : Nat) (a0_0 : Int) (A0_1 : Option Addr) (c0_1 : Nat) (l0_1 : List Int) (a1 : Int) (r1 : List Int) (r2 : Bool) (w : World) (hr0_1 : Kd.C (Kd.int .i64) w A0_1 l0_1.length l0_1) (hc0_1 : l0_1.length ≤ c0_1) (h : spec_DecodeDelta.f k a0_0 l0_1 a1 = some (r1, r2)) :
    Calls Try.prog 25 #[.agg #[.int .i64 a0_0, .slice A0_1 l0_1.length c0_1], .int .i64 a1] w fun e w' => ∃ v0_ : Value, e = .returned (.tuple #[v0_, .bool r2]) ∧ Kd.R (Kd.int .i64) 3 w' w.heap.size (fun _ => True) v0_ r1 ∧ Below w.heap.size w w' := by
  have hu24 := Try.underlying24
  have HR0_1 := Aside0.mk hr0_1
  have HC0_1 := Aside0.mk hc0_1
  clear hr0_1 hc0_1
  have HB := Aside0.mk (Below.refl w.heap.size w)
  have H : ((spec_biGood.f k a0_0 l0_1).bind fun t414 => (if t414 = true then ((spec_l1In.f a1 0 60).bind fun t415 => (spec_DecodeDelta.j0 k a1 (!t415) a0_0 l0_1)) else (spec_DecodeDelta.j0 k a1 true a0_0 l0_1))) = some (r1, r2) := h
  clear h
  have HC3 := Aside0.mk H
  clear H
  go_enter Try.func25, Try.ntmps25
  go_upto_region 1 with (first | ((with_reducible refine gate_dst (N := 2) rfl ?_); refine bx_ 2 #[.int .i64 a0_0, .slice A0_1 l0_1.length c0_1] 24 ?_; intro gb413 hg w4 hbox hb; have BK413 := Aside0.mk (hbox); have GW413 := Aside0.mk ((ge_ hg)); have GE413 := Aside0.mk ((ge_ hg)); replace HB := Aside0.mk (below_step hB_ hb); clear hb hbox hg))
  (try simp only [Act.put, List.setIfInBounds_toArray, List.set_cons_zero, List.set_cons_succ])
  go_cut [13] (fun v13 wc => ∃ (kq : Nat) (x13_2 : Bool), v13 = .bool x13_2 ∧ Aside0 (spec_DecodeDelta.j0 kq a1 x13_2 a0_0 l0_1 = some (r1, r2)) ∧ Aside0 (kq ≤ k) ∧ Aside0 (wc.heap[gb413]? = some (.cells #[.int .i64 a0_0, (.slice A0_1 l0_1.length c0_1)] 24 (0, 0))) ∧ Aside0 (Below w.heap.size w wc))
  case first =>
   have H := HC3.out
   clear HC3
   replace H := Option.bind_eq_some_iff.mp H
   obtain ⟨t414, A50, H⟩ := H
   replace H : (if t414 = true then ((spec_l1In.f a1 0 60).bind fun t415 => (spec_DecodeDelta.j0 k a1 (!t415) a0_0 l0_1)) else (spec_DecodeDelta.j0 k a1 true a0_0 l0_1)) = some (r1, r2) := H
   have A5 := Aside0.mk A50
   clear A50
   by_cases c6 : t414 = true
   ·subst c6
    have H1 : ((spec_l1In.f a1 0 60).bind fun t415 => (spec_DecodeDelta.j0 k a1 (!t415) a0_0 l0_1)) = some (r1, r2) := by rw [if_pos rfl] at H; exact H
    clear H
    have H := H1
    clear H1
    replace H := Option.bind_eq_some_iff.mp H
    obtain ⟨t415, A70, H⟩ := H
    replace H : (spec_DecodeDelta.j0 k a1 (!t415) a0_0 l0_1) = some (r1, r2) := H
    have A7 := Aside0.mk A70
    clear A70
    have H' := Aside0.mk H
    clear H
    have hcz8_0 : w4.cell? ⟨gb413, 0, none⟩ = some (.int .i64 a0_0) := (blk_cell BK413.out 0).trans rfl
    have hcz8_1 : w4.cell? ⟨gb413, 1, none⟩ = some (.slice A0_1 l0_1.length c0_1) := (blk_cell BK413.out 1).trans rfl
    have hfz8_0 := blk_frozen BK413.out 0
    have hfz8_1 := blk_frozen BK413.out 1
    go_wp2_with (first | ((with_reducible refine gate_callee (f := 50) rfl ?_); refine gl_ 7 Try.func50 #[.agg #[.int .i64 a0_0, .slice A0_1 l0_1.length c0_1]] ?_; (with_reducible refine (spec_biGood.calls k a0_0 _ _ l0_1 true _ ?side1 ?side2 A5.out).mono ?_); (case side1 => exact kC_ HR0_1); (case side2 => exact HC0_1.out); rintro e w9 ⟨rfl, hb⟩; refine ⟨_, rfl, ?_⟩; replace BK413 := Aside0.mk (blk_below (kB_ BK413) hb); replace HB := Aside0.mk (below_step hB_ hb); (try clear hb); (try clear hb2); (try clear hk); (try clear hi)) | (go_at_call 51; (with_reducible refine (spec_l1In.calls a1 0 60 t415 _ A7.out).mono ?_); rintro e w' ⟨rfl, ⟨nd, rfl⟩⟩))
    go_meet
    case rel => exact ⟨_, (!t415), rg_, H', ⟨by first | omega | exact Nat.le_refl _⟩, ⟨kB_ BK413⟩, ⟨hB_⟩⟩
   ·replace c6 := Bool.eq_false_iff.mpr c6
    subst c6
    have H1 : (spec_DecodeDelta.j0 k a1 true a0_0 l0_1) = some (r1, r2) := by rw [if_neg (show ¬ (false = true) by decide)] at H; exact H
    clear H
    have H := H1
    clear H1
    have H' := Aside0.mk H
    clear H
    have hcz10_0 : w4.cell? ⟨gb413, 0, none⟩ = some (.int .i64 a0_0) := (blk_cell BK413.out 0).trans rfl
    have hcz10_1 : w4.cell? ⟨gb413, 1, none⟩ = some (.slice A0_1 l0_1.length c0_1) := (blk_cell BK413.out 1).trans rfl
    have hfz10_0 := blk_frozen BK413.out 0
    have hfz10_1 := blk_frozen BK413.out 1
    go_wp2_with (first | ((with_reducible refine gate_callee (f := 50) rfl ?_); refine gl_ 7 Try.func50 #[.agg #[.int .i64 a0_0, .slice A0_1 l0_1.length c0_1]] ?_; (with_reducible refine (spec_biGood.calls k a0_0 _ _ l0_1 false _ ?side1 ?side2 A5.out).mono ?_); (case side1 => exact kC_ HR0_1); (case side2 => exact HC0_1.out); rintro e w11 ⟨rfl, hb⟩; refine ⟨_, rfl, ?_⟩; replace BK413 := Aside0.mk (blk_below (kB_ BK413) hb); replace HB := Aside0.mk (below_step hB_ hb); (try clear hb); (try clear hb2); (try clear hk); (try clear hi)))
    go_meet
    case rel => exact ⟨_, (true), rg_, H', ⟨by first | omega | exact Nat.le_refl _⟩, ⟨kB_ BK413⟩, ⟨hB_⟩⟩
  case rest =>
   clear HC3
   try clear c2
   try clear p2
   try clear c5
   try clear c6
   try clear hcz10_0
   try clear hcz10_1
   try clear hcz8_0
   try clear hcz8_1
   try clear hfz10_0
   try clear hfz10_1
   try clear hfz8_0
   try clear hfz8_1
   obtain ⟨kq, x13_2, rfl, HA, HJ2, BK413, HB⟩ := hcut
   cases kq with
   | zero => exact absurd HA.out (by simp [spec_DecodeDelta.j0])
   | succ kj2 =>
    have H := HA.out
    clear HA
    simp only [spec_DecodeDelta.j0] at H
    by_cases c12 : x13_2 = true
    ·subst c12
     have H1 : (some (([] : List Int), false)) = some (r1, r2) := by rw [if_pos rfl] at H; exact H
     clear H
     have H := H1
     clear H1
     simp only [Option.some.injEq, Prod.mk.injEq] at H
     obtain ⟨rfl, rfl⟩ := H
     go_wp2
     go_ret2
     exact ⟨_, rf_, by first | exact Kd.R_nil _ _ _ _ _ | exact Kd.N_nil _ _ _ _ _ | exact Kd.V_nil _ _ _ _ _ | exact Kd.Q_nil _ _ _ _ _ | exact Kd.S_nil _ _ _ _ _, hB_⟩
    ·replace c12 := Bool.eq_false_iff.mpr c12
     subst c12
     have H1 : ((spec_spDecode.f kj2 a0_0 l0_1 a1 true).bind fun bt416 => ((spec_spIf.f bt416.1 bt416.2).bind fun bt420 => (some (bt420.1, bt420.2)))) = some (r1, r2) := by rw [if_neg (show ¬ (false = true) by decide)] at H; exact H
     clear H
     have H := H1
     clear H1
     replace H := Option.bind_eq_some_iff.mp H
     obtain ⟨⟨t416, t419⟩, A130, H⟩ := H
     replace H : ((spec_spIf.f t416 t419).bind fun bt420 => (some (bt420.1, bt420.2))) = some (r1, r2) := H
     have A13 := Aside0.mk A130
     clear A130
     replace H := Option.bind_eq_some_iff.mp H
     obtain ⟨⟨t420, t423⟩, A140, H⟩ := H
     replace H : (some (t420, t423)) = some (r1, r2) := H
     have A14 := Aside0.mk A140
     clear A140
     simp only [Option.some.injEq, Prod.mk.injEq] at H
     obtain ⟨rfl, rfl⟩ := H
     have hcz15_0 : wc.cell? ⟨gb413, 0, none⟩ = some (.int .i64 a0_0) := (blk_cell BK413.out 0).trans rfl
     have hcz15_1 : wc.cell? ⟨gb413, 1, none⟩ = some (.slice A0_1 l0_1.length c0_1) := (blk_cell BK413.out 1).trans rfl
     have hfz15_0 := blk_frozen BK413.out 0
     have hfz15_1 := blk_frozen BK413.out 1
     go_wp2_with (first | ((with_reducible refine gate_callee (f := 53) rfl ?_); refine gl_ 16 Try.func53 #[.agg #[.int .i64 a0_0, .slice A0_1 l0_1.length c0_1], .int .i64 a1, .bool true] ?_; (with_reducible refine (spec_spDecode.calls kj2 a0_0 _ _ l0_1 a1 true t416 t419 _ ?side1 ?side2 A13.out).mono ?_); (case side1 => exact kC_ HR0_1); (case side2 => exact HC0_1.out); rintro e w16 ⟨v417, rfl, ho0, hb⟩; refine ⟨_, rfl, ?_⟩; have HO418 := Aside0.mk (Kd.R_lower ho0 (below_size hB_)); replace BK413 := Aside0.mk (blk_below (kB_ BK413) hb); replace HB := Aside0.mk (below_step hB_ hb); (try clear hb); (try clear hb2); (try clear hk); (try clear hi); (try clear ho0); obtain ⟨Ao17, co17, eo17⟩ := Kd.R_slice HO418.out; subst eo17) | ((with_reducible refine gate_callee (f := 52) rfl ?_); refine gl_ 19 Try.func52 #[.slice Ao17 t416.length co17, .bool t419] ?_; (with_reducible refine (spec_spIf.calls (fun k_ => some k_ = (.slice Ao17 t416.length co17 : Value).ownBlock) (.slice Ao17 t416.length co17) t416 t419 t420 t423 w _ ?side1 ?side2 A14.out).mono ?_); (case side1 => exact hB_); (case side2 => exact Kd.R_tight rfl HO418.out); rintro e w18 ⟨v421, rfl, ho0, hb, hkp⟩; refine ⟨_, rfl, ?_⟩; have n0_ := Aside0.mk (blk_kept (kB_ BK413) hkp (fun hs_ => (fun e_ => (Kd.R_ne HO418.out BK413.out (by decide)) e_) hs_)); have n1_ := Aside0.mk (Kd.R_mono (ok' := fun k_ => True) ho0 (fun k_ hk_ => trivial)); have n2_ := Aside0.mk (hb); clear BK413; clear HB; clear HO418; have BK413 := n0_; have HO422 := n1_; have HB := n2_; clear n0_ n1_ n2_; (try clear hb); (try clear hkp); (try clear ho0)))
     go_ret2
     exact ⟨_, rf_, kR_ HO422, hB_⟩
/-! ### impl_decode_at_impl_EncodeDelta: function 133 -/
def impl_decode_at_impl_EncodeDelta.l0 : Nat → Int → List Int → Int → Int → List Int → Int → Bool → Option (List Int × Bool)
  | 0, _, _, _, _, _, _, _ => none
  | k + 1, b0, l0, a1, x25, out, at_, bad => if x25 < a1 then ((impl_decoder_delta.f k b0 l0 at_ bad).bind fun g => (if out.length < 17592186044416 then (impl_decode_at_impl_EncodeDelta.l0 k b0 l0 a1 (wrap64 (x25 + 1)) (out ++ [g.1]) g.2.1 g.2.2) else (none))) else ((impl_EncodeDelta.f k out).bind fun x => (if bad = true then (some ([], false)) else (if x.2.2 = true then ((impl_sameBits.f k x.1 x.2.1 b0 l0).bind fun s => (if s = true then (some (out, true)) else (some ([], false)))) else (some ([], false)))))
def impl_decode_at_impl_EncodeDelta.f (k : Nat) (b0 : Int) (l0 : List Int) (a1 : Int) : Option (List Int × Bool) := (impl_IsBits.f k b0 l0).bind fun t1 => (if t1 = true then ((impl_in.f a1 0 60).bind fun t2 => (if t2 = true then (impl_decode_at_impl_EncodeDelta.l0 k b0 l0 a1 0 [] 0 false) else (some ([], false)))) else (some ([], false)))
theorem impl_decode_at_impl_EncodeDelta.mono_l : ∀ k, (∀ y0 y1 y2 y3 y4 y5 y6, LeO (impl_decode_at_impl_EncodeDelta.l0 k y0 y1 y2 y3 y4 y5 y6) (impl_decode_at_impl_EncodeDelta.l0 (k + 1) y0 y1 y2 y3 y4 y5 y6))
  | 0 => fun _ _ _ _ _ _ _ r h => by simp [impl_decode_at_impl_EncodeDelta.l0] at h
  | k + 1 => by
    have ih0 := impl_decode_at_impl_EncodeDelta.mono_l k
    · intro y0 y1 y2 y3 y4 y5 y6
      unfold impl_decode_at_impl_EncodeDelta.l0
      repeat' first
      | (with_reducible exact ih0 _ _ _ _ _ _ _)
      | (with_reducible exact impl_decoder_delta.mono _ _ _ _ _)
      | (with_reducible exact impl_EncodeDelta.mono _ _)
      | (with_reducible exact impl_sameBits.mono _ _ _ _ _)
      | (with_reducible exact impl_IsBits.mono _ _ _)
      | (with_reducible exact LeO.refl _)
      | (with_reducible exact LeO.none _)
      | (with_reducible refine LeO.ite ?_ ?_)
      | (with_reducible refine LeO.bind ?_ (fun _ => ?_))
      | exact ih0 _ _ _ _ _ _ _
      | exact impl_decoder_delta.mono _ _ _ _ _
      | exact impl_EncodeDelta.mono _ _
      | exact impl_sameBits.mono _ _ _ _ _
      | exact impl_IsBits.mono _ _ _
      | exact LeO.none _
      | refine LeO.ite ?_ ?_
      | refine LeO.bind ?_ (fun _ => ?_)
theorem impl_decode_at_impl_EncodeDelta.mono : ∀ a0 a1 a2 k, LeO (impl_decode_at_impl_EncodeDelta.f k a0 a1 a2) (impl_decode_at_impl_EncodeDelta.f (k + 1) a0 a1 a2) := by
  intro a0 a1 a2 k
  have ih0 := impl_decode_at_impl_EncodeDelta.mono_l k
  unfold impl_decode_at_impl_EncodeDelta.f
  repeat' first
      | (with_reducible exact ih0 _ _ _ _ _ _ _)
      | (with_reducible exact impl_decoder_delta.mono _ _ _ _ _)
      | (with_reducible exact impl_EncodeDelta.mono _ _)
      | (with_reducible exact impl_sameBits.mono _ _ _ _ _)
      | (with_reducible exact impl_IsBits.mono _ _ _)
      | (with_reducible exact LeO.refl _)
      | (with_reducible exact LeO.none _)
      | (with_reducible refine LeO.ite ?_ ?_)
      | (with_reducible refine LeO.bind ?_ (fun _ => ?_))
      | exact ih0 _ _ _ _ _ _ _
      | exact impl_decoder_delta.mono _ _ _ _ _
      | exact impl_EncodeDelta.mono _ _
      | exact impl_sameBits.mono _ _ _ _ _
      | exact impl_IsBits.mono _ _ _
      | exact LeO.none _
      | refine LeO.ite ?_ ?_
      | refine LeO.bind ?_ (fun _ => ?_)
noncomputable def impl_decode_at_impl_EncodeDelta.L0 (y0 : Int) (y1 : List Int) (y2 : Int) (y3 : Int) (y4 : List Int) (y5 : Int) (y6 : Bool) : Option (List Int × Bool) := lim fun k => impl_decode_at_impl_EncodeDelta.l0 k y0 y1 y2 y3 y4 y5 y6
theorem impl_decode_at_impl_EncodeDelta.L0_sup (y0 : Int) (y1 : List Int) (y2 : Int) (y3 : Int) (y4 : List Int) (y5 : Int) (y6 : Bool) : Sup (fun k => impl_decode_at_impl_EncodeDelta.l0 k y0 y1 y2 y3 y4 y5 y6) (impl_decode_at_impl_EncodeDelta.L0 y0 y1 y2 y3 y4 y5 y6) := Sup.of_mono fun k => impl_decode_at_impl_EncodeDelta.mono_l k y0 y1 y2 y3 y4 y5 y6
noncomputable def impl_decode_at_impl_EncodeDelta.F (b0 : Int) (l0 : List Int) (a1 : Int) : Option (List Int × Bool) := lim fun k => impl_decode_at_impl_EncodeDelta.f k b0 l0 a1
theorem impl_decode_at_impl_EncodeDelta.F_sup (b0 : Int) (l0 : List Int) (a1 : Int) : Sup (fun k => impl_decode_at_impl_EncodeDelta.f k b0 l0 a1) (impl_decode_at_impl_EncodeDelta.F b0 l0 a1) := Sup.of_mono fun k => impl_decode_at_impl_EncodeDelta.mono b0 l0 a1 k
theorem impl_decode_at_impl_EncodeDelta.L0_eq (b0 : Int) (l0 : List Int) (a1 : Int) (x25 : Int) (out : List Int) (at_ : Int) (bad : Bool) : impl_decode_at_impl_EncodeDelta.L0 b0 l0 a1 x25 out at_ bad = if x25 < a1 then ((impl_decoder_delta.F b0 l0 at_ bad).bind fun g => (if out.length < 17592186044416 then (impl_decode_at_impl_EncodeDelta.L0 b0 l0 a1 (wrap64 (x25 + 1)) (out ++ [g.1]) g.2.1 g.2.2) else (none))) else ((impl_EncodeDelta.F out).bind fun x => (if bad = true then (some ([], false)) else (if x.2.2 = true then ((impl_sameBits.F x.1 x.2.1 b0 l0).bind fun s => (if s = true then (some (out, true)) else (some ([], false)))) else (some ([], false))))) := by
  refine Sup.unique (impl_decode_at_impl_EncodeDelta.L0_sup b0 l0 a1 x25 out at_ bad) (Sup.shift (fun k => impl_decode_at_impl_EncodeDelta.mono_l k b0 l0 a1 x25 out at_ bad) (Sup.congr (g' := fun k => if x25 < a1 then ((impl_decoder_delta.f k b0 l0 at_ bad).bind fun g => (if out.length < 17592186044416 then (impl_decode_at_impl_EncodeDelta.l0 k b0 l0 a1 (wrap64 (x25 + 1)) (out ++ [g.1]) g.2.1 g.2.2) else (none))) else ((impl_EncodeDelta.f k out).bind fun x => (if bad = true then (some ([], false)) else (if x.2.2 = true then ((impl_sameBits.f k x.1 x.2.1 b0 l0).bind fun s => (if s = true then (some (out, true)) else (some ([], false)))) else (some ([], false)))))) (fun k => by first | rfl | simp only [impl_decode_at_impl_EncodeDelta.l0]) ?_))
  repeat' first
    | (with_reducible exact impl_decode_at_impl_EncodeDelta.L0_sup _ _ _ _ _ _ _)
    | (with_reducible exact impl_decoder_delta.F_sup _ _ _ _)
    | (with_reducible exact impl_EncodeDelta.F_sup _)
    | (with_reducible exact impl_sameBits.F_sup _ _ _ _)
    | (with_reducible exact impl_IsBits.F_sup _ _)
    | (with_reducible refine Sup.ite ?_ ?_)
    | (with_reducible refine Sup.bind ?_ (fun _ => ?_))
    | (with_reducible exact Sup.const _)
    | exact impl_decode_at_impl_EncodeDelta.L0_sup _ _ _ _ _ _ _
    | exact impl_decoder_delta.F_sup _ _ _ _
    | exact impl_EncodeDelta.F_sup _
    | exact impl_sameBits.F_sup _ _ _ _
    | exact impl_IsBits.F_sup _ _
    | exact Sup.const _
theorem impl_decode_at_impl_EncodeDelta.F_eq (b0 : Int) (l0 : List Int) (a1 : Int) : impl_decode_at_impl_EncodeDelta.F b0 l0 a1 = (impl_IsBits.F b0 l0).bind fun t1 => (if t1 = true then ((impl_in.f a1 0 60).bind fun t2 => (if t2 = true then (impl_decode_at_impl_EncodeDelta.L0 b0 l0 a1 0 [] 0 false) else (some ([], false)))) else (some ([], false))) := by
  refine Sup.unique (impl_decode_at_impl_EncodeDelta.F_sup b0 l0 a1) (Sup.congr (g' := fun k => (impl_IsBits.f k b0 l0).bind fun t1 => (if t1 = true then ((impl_in.f a1 0 60).bind fun t2 => (if t2 = true then (impl_decode_at_impl_EncodeDelta.l0 k b0 l0 a1 0 [] 0 false) else (some ([], false)))) else (some ([], false)))) (fun k => by first | rfl | simp only [impl_decode_at_impl_EncodeDelta.f]) ?_)
  repeat' first
    | (with_reducible exact impl_decode_at_impl_EncodeDelta.L0_sup _ _ _ _ _ _ _)
    | (with_reducible exact impl_decoder_delta.F_sup _ _ _ _)
    | (with_reducible exact impl_EncodeDelta.F_sup _)
    | (with_reducible exact impl_sameBits.F_sup _ _ _ _)
    | (with_reducible exact impl_IsBits.F_sup _ _)
    | (with_reducible refine Sup.ite ?_ ?_)
    | (with_reducible refine Sup.bind ?_ (fun _ => ?_))
    | (with_reducible exact Sup.const _)
    | exact impl_decode_at_impl_EncodeDelta.L0_sup _ _ _ _ _ _ _
    | exact impl_decoder_delta.F_sup _ _ _ _
    | exact impl_EncodeDelta.F_sup _
    | exact impl_sameBits.F_sup _ _ _ _
    | exact impl_IsBits.F_sup _ _
    | exact Sup.const _
theorem impl_decode_at_impl_EncodeDelta.goesV {P : Program} {ops : Array Oper} {Q : Exit → Act → World → Prop} {rest : List Oper} {oi : Oper} {a : Act} {w : World} (N : Option Tmp) (hd : oi.dst = N) (hg : oi.guard = none) {f : FuncId} {fn : Func} {xs : Array Operand} {ts : Array TypeId} (t : Tmp) (hf : P.funcs[f]? = some fn) (hname : (fn.name == "runtime.NumGoroutine") = false) (hb : fn.body.isSome = true) (args : Array Value)
    (hop : oi.op = .call { callee := .value (.tmp t), args := xs, argTypes := ts }) (hv : a.eval (.tmp t) = .func (.func f) #[] #[]) (hargs : xs.map a.eval = args)
    (h : Calls P f args w fun e w' => ∃ v, e = .returned v ∧ wpList P ops Q rest (a.put N v) w') : wpList P ops Q (oi :: rest) a w := by
  refine wpList_plain hg fun K hK => ?_
  have he := enters_ hf hname hb args w
  have hrun : (execOp a.eval oi).run P w = .ok (.enter f args) w := by
    unfold execOp
    simp [hop, hv, resolve, Deferred.ofValue, invoke, hargs, he]
  unfold Oper.wp
  rw [hrun, Oper.upon_enter]
  refine h.mono fun e w'' hh => ?_
  obtain ⟨v, rfl, hk⟩ := hh
  subst hd
  exact hK _ _ hk
set_option maxHeartbeats 8000000 in
set_option maxRecDepth 100000 in
theorem impl_decode_at_impl_EncodeDelta.calls (k : Nat) (b0 : Int) (A0 : Option Addr) (c0 : Nat) (l0 : List Int) (a1 : Int) (r1 : List Int) (r2 : Bool) (w : World) (hr : Kd.C (Kd.int .i64) w A0 l0.length l0) (hc : l0.length ≤ c0) (h : impl_decode_at_impl_EncodeDelta.f k b0 l0 a1 = some (r1, r2)) :
    Calls Try.prog 54 #[.agg #[.int .i64 b0, .slice A0 l0.length c0], .int .i64 a1, .func (.func 56) #[] #[], .func (.func 19) #[] #[]] w fun e w' => ∃ v0_ : Value, e = .returned (.tuple #[v0_, .bool r2]) ∧ Kd.R (Kd.int .i64) 3 w' w.heap.size (fun _ => True) v0_ r1 ∧ Below w.heap.size w w' := by
  have hu94 := Try.underlying94
  have hu24 := Try.underlying24
  have HR := Aside0.mk hr
  have HC := Aside0.mk hc
  have HB := Aside0.mk (Below.refl w.heap.size w)
  clear hr hc
  replace h : ((impl_IsBits.f k b0 l0).bind fun t1 => (if t1 = true then ((impl_in.f a1 0 60).bind fun t2 => (if t2 = true then (impl_decode_at_impl_EncodeDelta.l0 k b0 l0 a1 0 [] 0 false) else (some ([], false)))) else (some ([], false)))) = some (r1, r2) := h
  obtain ⟨t1, A10, h⟩ := Option.bind_eq_some_iff.mp h
  have A1 := Aside0.mk A10
  clear A10
  go_enter Try.func54, Try.ntmps54
  cases t1 with
  | false =>
   rw [if_neg (by decide)] at h
   simp only [Option.some.injEq, Prod.mk.injEq] at h
   obtain ⟨rfl, rfl⟩ := h
   go_wp2_with (first | ((with_reducible refine gate_dst (N := 4) rfl ?_); refine bx_ 4 #[.int .i64 b0, .slice A0 l0.length c0] 24 ?_; intro gb hg w5 hbox hb; have GEb := Aside0.mk (show w.heap.size ≤ gb by rw [hg]; exact Nat.le_refl _); clear HB; have HB := Aside0.mk hb; have BKb := Aside0.mk hbox; have hcb0 : w5.cell? ⟨gb, 0, none⟩ = some (.int .i64 b0) := (blk_cell hbox 0).trans rfl; have hcb1 : w5.cell? ⟨gb, 1, none⟩ = some (.slice A0 l0.length c0) := (blk_cell hbox 1).trans rfl; have hfb0 := blk_frozen hbox 0; have hfb1 := blk_frozen hbox 1; clear hb hbox hg) | (go_at_call 62; (with_reducible refine (impl_IsBits.calls k b0 A0 c0 l0 false _ ?side1 HC.out A1.out).mono ?_); (case side1 => exact kC_ HR); rintro e w6 ⟨rfl, hb⟩; have n0_ := Aside0.mk (blk_below (kB_ BKb) hb); have n1_ := Aside0.mk (below_step hB_ hb); clear BKb HB hb; have BKb := n0_; have HB := n1_; clear n0_ n1_ hcb0 hcb1 hfb0 hfb1))
   go_ret2
   exact ⟨_, rfl, Kd.R_nil _ _ _ _ _, hB_⟩
  | true =>
   rw [if_pos rfl] at h
   obtain ⟨t2, A20, h⟩ := Option.bind_eq_some_iff.mp h
   have A2 := Aside0.mk A20
   clear A20
   cases t2 with
   | false =>
    rw [if_neg (by decide)] at h
    simp only [Option.some.injEq, Prod.mk.injEq] at h
    obtain ⟨rfl, rfl⟩ := h
    go_wp2_with (first | ((with_reducible refine gate_dst (N := 4) rfl ?_); refine bx_ 4 #[.int .i64 b0, .slice A0 l0.length c0] 24 ?_; intro gb hg w5 hbox hb; have GEb := Aside0.mk (show w.heap.size ≤ gb by rw [hg]; exact Nat.le_refl _); clear HB; have HB := Aside0.mk hb; have BKb := Aside0.mk hbox; have hcb0 : w5.cell? ⟨gb, 0, none⟩ = some (.int .i64 b0) := (blk_cell hbox 0).trans rfl; have hcb1 : w5.cell? ⟨gb, 1, none⟩ = some (.slice A0 l0.length c0) := (blk_cell hbox 1).trans rfl; have hfb0 := blk_frozen hbox 0; have hfb1 := blk_frozen hbox 1; clear hb hbox hg) | (go_at_call 62; (with_reducible refine (impl_IsBits.calls k b0 A0 c0 l0 true _ ?side1 HC.out A1.out).mono ?_); (case side1 => exact kC_ HR); rintro e w6 ⟨rfl, hb⟩; have n0_ := Aside0.mk (blk_below (kB_ BKb) hb); have n1_ := Aside0.mk (below_step hB_ hb); clear BKb HB hb; have BKb := n0_; have HB := n1_; clear n0_ n1_ hcb0 hcb1 hfb0 hfb1) | (go_at_call 58; (with_reducible refine (impl_in.calls a1 0 60 false _ A2.out).mono ?_); rintro e w' ⟨rfl, ⟨nd, rfl⟩⟩))
    go_ret2
    exact ⟨_, rfl, Kd.R_nil _ _ _ _ _, hB_⟩
   | true =>
    rw [if_pos rfl] at h
    have H' := Aside0.mk h
    clear h
    go_wp2_with (first | ((with_reducible refine gate_dst (N := 4) rfl ?_); refine bx_ 4 #[.int .i64 b0, .slice A0 l0.length c0] 24 ?_; intro gb hg w5 hbox hb; have GEb := Aside0.mk (show w.heap.size ≤ gb by rw [hg]; exact Nat.le_refl _); clear HB; have HB := Aside0.mk hb; have BKb := Aside0.mk hbox; have hcb0 : w5.cell? ⟨gb, 0, none⟩ = some (.int .i64 b0) := (blk_cell hbox 0).trans rfl; have hcb1 : w5.cell? ⟨gb, 1, none⟩ = some (.slice A0 l0.length c0) := (blk_cell hbox 1).trans rfl; have hfb0 := blk_frozen hbox 0; have hfb1 := blk_frozen hbox 1; clear hb hbox hg) | (go_at_call 62; (with_reducible refine (impl_IsBits.calls k b0 A0 c0 l0 true _ ?side1 HC.out A1.out).mono ?_); (case side1 => exact kC_ HR); rintro e w6 ⟨rfl, hb⟩; have n0_ := Aside0.mk (blk_below (kB_ BKb) hb); have n1_ := Aside0.mk (below_step hB_ hb); clear BKb HB hb; have BKb := n0_; have HB := n1_; clear n0_ n1_ hcb0 hcb1 hfb0 hfb1) | (go_at_call 58; (with_reducible refine (impl_in.calls a1 0 60 true _ A2.out).mono ?_); rintro e w' ⟨rfl, ⟨nd, rfl⟩⟩) | ((with_reducible refine gate_dst (N := 23) rfl ?_); refine Kd.R_lit (Kd.int .i64) _ 3 ?hg (N := 23) ?hd (xs := ([] : List Int)) (inner := []) (ok := fun _ => True) (okp := fun _ => True) ?hr ?hp (fun _ hk => hk) trivial (Below.refl _ _) (Nat.le_refl _) (by simp) ?_; (case hd => rfl); (case hg => rfl); (case hr => first | (go_simp; done) | (go_simp; rfl)); (case hp => exact (Reps.none _ _)); intro v23 w7 ho hb hg_ hnew_; clear hg_ hnew_; have n0_ := Aside0.mk (Kd.R_lower ho (below_size hB_)); have n1_ := Aside0.mk (blk_below (kB_ BKb) hb); have n2_ := Aside0.mk (below_step hB_ hb); clear BKb HB ho hb; have HO := n0_; have BKb := n1_; have HB := n2_; clear n0_ n1_ n2_) | ((with_reducible refine gate_dst (N := 10) rfl ?_); refine bx_ 10 #[.pointer none, .int .i64 0, .bool false] 94 ?_; intro gd hg w8 hbox hb; have GEd := Aside0.mk (show w.heap.size ≤ gd by rw [hg]; exact below_size HB.out); have HNE := Aside0.mk (show gb ≠ gd by rw [hg]; exact Nat.ne_of_lt (blk_lt BKb.out)); replace HO := Aside0.mk (Kd.R_below HO.out hb); replace BKb := Aside0.mk (blk_below BKb.out hb); replace HB := Aside0.mk (below_step HB.out hb); have BKd := Aside0.mk hbox; clear hb hg            ; have hcd0 : w8.cell? ⟨gd, 0, none⟩ = some (.pointer none) := (blk_cell hbox 0).trans rfl; have hcd1 : w8.cell? ⟨gd, 1, none⟩ = some (.int .i64 0) := (blk_cell hbox 1).trans rfl; have hcd2 : w8.cell? ⟨gd, 2, none⟩ = some (.bool false) := (blk_cell hbox 2).trans rfl; have hfd0 := blk_frozen hbox 0; have hfd1 := blk_frozen hbox 1; have hfd2 := blk_frozen hbox 2; clear hbox))
    go_loopg [11, 25] k (fun kq v11 v25 w' => ∃ (out : List Int) (x25 : Int) (at_ : Int) (bad : Bool), v25 = .int .i64 x25 ∧ Aside0 (impl_decode_at_impl_EncodeDelta.l0 kq b0 l0 a1 x25 out at_ bad = some (r1, r2)) ∧ Aside0 (kq ≤ k) ∧ Aside0 (Kd.R (Kd.int .i64) 3 w' w.heap.size (fun _ => True) v11 out) ∧ Aside0 (w'.heap[gd]? = some (.cells #[.pointer (some ⟨gb, 0, none⟩), .int .i64 at_, .bool bad] 94 (0, 0))) ∧ Aside0 (w'.heap[gb]? = some (.cells #[.int .i64 b0, .slice A0 l0.length c0] 24 (0, 0))) ∧ Aside0 (Below w.heap.size w w'))
    case atStart => exact ⟨[], 0, 0, false, rfl, H', ⟨Nat.le_refl _⟩, ⟨Kd.R_mono (Kd.R_far (p := ⟨gd, 2, none⟩) (Kd.R_far (p := ⟨gd, 1, none⟩) (Kd.R_far (p := ⟨gd, 0, none⟩) (Kd.R_types HO.out BKd.out (by decide)) (fun _ hk => hk.2) _) (fun _ hk => hk.2) _) (fun _ hk => hk.2) _) (fun _ _ => trivial)⟩, ⟨blk_put (cs := #[.pointer (some ⟨gb, 0, none⟩), .int .i64 0, .bool false]) (blk_put (cs := #[.pointer (some ⟨gb, 0, none⟩), .int .i64 0, .bool false]) (blk_put (cs := #[.pointer none, .int .i64 0, .bool false]) BKd.out 0 _ rfl) 1 _ rfl) 2 _ rfl⟩, ⟨blk_far (p := ⟨gd, 2, none⟩) (blk_far (p := ⟨gd, 1, none⟩) (blk_far (p := ⟨gd, 0, none⟩) BKb.out HNE.out _) HNE.out _) HNE.out _⟩, ⟨below_set (below_set (below_set HB.out GEd.out) GEd.out) GEd.out⟩⟩
    case round =>
     clear H' HO BKd BKb HB hcd0 hcd1 hcd2 hfd0 hfd1 hfd2
     obtain ⟨out, x25, at_, bad, rfl, HA, HK1, HO, BKd, BKb, HB⟩ := hrel
     cases gk with
     | zero => exact absurd HA.out (by simp [impl_decode_at_impl_EncodeDelta.l0])
     | succ k1 =>
      have H := HA.out
      clear HA
      simp only [impl_decode_at_impl_EncodeDelta.l0] at H
      by_cases c3 : x25 < a1
      ·rw [if_pos c3] at H
       have c3b0 : decide (x25 < a1) = true := decide_eq_true c3
       clear c3
       obtain ⟨⟨g1, g2, g3⟩, A50, H⟩ := Option.bind_eq_some_iff.mp H
       have A5 := Aside0.mk A50
       clear A50
       replace H : (if out.length < 17592186044416 then (impl_decode_at_impl_EncodeDelta.l0 k1 b0 l0 a1 (wrap64 (x25 + 1)) (out ++ [g1]) g2 g3) else (none)) = some (r1, r2) := H
       by_cases c4 : out.length < 17592186044416
       ·rw [if_pos c4] at H
        have LM := Aside0.mk c4
        clear c4
        obtain ⟨y5, hy5⟩ : ∃ y_ : List Int, y_ = out ++ [g1] := ⟨_, rfl⟩
        rw [← hy5] at H
        have NY := Aside0.mk hy5
        clear hy5
        have H' := Aside0.mk H
        clear H
        go_wp2_with (first | (go_at_call 56; (with_reducible refine (impl_decoder_delta.calls k1 gd gb b0 A0 c0 l0 at_ bad g1 g2 g3 w _ HB.out GEd.out BKd.out BKb.out HR.out HC.out A5.out).mono ?_); rintro e w9 ⟨rfl, hbk, hkp, hbb⟩; have n0_ := Aside0.mk (Kd.R_mono (Kd.R_keep (Kd.R_types HO.out BKd.out (by decide)) hkp (fun _ hk => hk.2)) (fun _ _ => trivial)); have n1_ := Aside0.mk (KeepBut.blk hkp BKb.out HNE.out (by simp)); clear HO BKd BKb HB; have HO := n0_; have BKb := n1_; have BKd := Aside0.mk hbk; have HB := Aside0.mk hbb; clear hbk hkp hbb        ) | ((with_reducible refine gate_builtin (b := .append) (xs := #[.tmp 27, .tmp 30]) rfl ?_); at_builtin; refine Kd.R_append (Kd.int .i64) (w0 := w) w.heap.size rfl (.tmp 27) (.tmp 30) 22 3 (.int .i64 0) 8 rfl Try.underlying22 info3 rfl (by decide) (by omega) u11 out g1 [.int .i64 g1] (fun _ => True) (fun _ => False) rfl rfl ?aP (fun _ hk => hk.elim) ?aF ?aO ?aB ?aS ?aL ?_; (case aP => exact rfl); (case aB => exact hB_); (case aF => exact (fun _ _ => trivial)); (case aO => (with_reducible repeat (first | apply Kd.R_alloc | apply Kd.R_drewN | apply Kd.R_drew)); exact HO.out); (case aS => exact below_size hB_); (case aL => have := LM.out; omega); intro v31 w10 ho hb hg hat; rw [← NY.out] at ho; have n0_ := Aside0.mk (blk_grown (g := gd) (kB_ BKd) hg (Kd.R_ne HO.out BKd.out (by decide))); have n1_ := Aside0.mk (blk_grown (g := gb) (kB_ BKb) hg (Kd.R_ne HO.out BKb.out (by decide))); clear HO BKd BKb HB; have HO := Aside0.mk ho; have BKd := n0_; have BKb := n1_; have HB := Aside0.mk hb; clear n0_ n1_ ho hb hg hat))
        go_roundg k1
        case measure => have := HK1.out; omega
        case rel => exact ⟨_, _, _, _, rfl, H', ⟨by have := HK1.out; omega⟩, HO, BKd, BKb, HB⟩
       ·rw [if_neg c4] at H
        exact absurd H (by simp)
      ·rw [if_neg c3] at H
       have c3b0 : decide (x25 < a1) = false := decide_eq_false c3
       clear c3
       obtain ⟨⟨x1, x2, x3⟩, A70, H⟩ := Option.bind_eq_some_iff.mp H
       have A7 := Aside0.mk A70
       clear A70
       replace H : (if bad = true then (some ([], false)) else (if x3 = true then ((impl_sameBits.f k1 x1 x2 b0 l0).bind fun s => (if s = true then (some (out, true)) else (some ([], false)))) else (some ([], false)))) = some (r1, r2) := H
       obtain ⟨Ao, co, eo⟩ := Kd.R_slice HO.out
       subst eo
       have HOr := Aside0.mk (Kd.R_reads' HO.out).2.2
       have HOl := Aside0.mk (Kd.R_reads' HO.out).2.1
       cases bad with
       | true =>
        rw [if_pos rfl] at H
        simp only [Option.some.injEq, Prod.mk.injEq] at H
        obtain ⟨rfl, rfl⟩ := H
        go_wp2_with (first | ((with_reducible refine gate_dst (N := 36) rfl ?_); refine impl_decode_at_impl_EncodeDelta.goesV (some 36) rfl rfl 34 Try.func19 (by kernel_rfl) rfl #[.slice Ao out.length co] rfl rfl (by (try simp only [List.map_toArray, List.map_cons, List.map_nil]); first | done | rfl) ?_; (with_reducible refine (impl_EncodeDelta.calls k1 Ao co out x1 x2 x3 _ HOr.out HOl.out A7.out).mono ?_); rintro e w10 ⟨vx, rfl, hox, hbx⟩; refine ⟨_, rfl, ?_⟩; obtain ⟨Ax, cx, ex⟩ := Kd.R_slice hox; subst ex; have HX := Aside0.mk (Kd.R_lower hox (below_size HB.out)); have n0_ := Aside0.mk (Kd.R_below HO.out hbx); have n1_ := Aside0.mk (blk_below BKd.out hbx); have n2_ := Aside0.mk (blk_below BKb.out hbx); have n3_ := Aside0.mk (below_step HB.out hbx); clear HO BKd BKb HB hox hbx; have HO := n0_; have BKd := n1_; have BKb := n2_; have HB := n3_; clear n0_ n1_ n2_ n3_) | ((with_reducible refine gate_dst (N := 12) rfl ?_); refine bx_ 12 #[.int .i64 0, .slice none 0 0] 24 ?_; intro gx hg w11 hbox hb; have GEx := Aside0.mk (show w.heap.size ≤ gx by rw [hg]; exact below_size HB.out); have hne1 : gb ≠ gx := (by rw [hg]; exact Nat.ne_of_lt (blk_lt BKb.out)); have hne2 : gx ≠ gb := fun e_ => hne1 e_.symm; have hne3 : gd ≠ gx := (by rw [hg]; exact Nat.ne_of_lt (blk_lt BKd.out)); have hne4 : gx ≠ gd := fun e_ => hne3 e_.symm; replace HO := Aside0.mk (Kd.R_below HO.out hb); replace BKd := Aside0.mk (blk_below BKd.out hb); replace BKb := Aside0.mk (blk_below BKb.out hb); replace HB := Aside0.mk (below_step HB.out hb); replace HX := Aside0.mk (Kd.R_below HX.out hb); have BKx := Aside0.mk hbox; skip                     ; have hcx0 : w11.cell? ⟨gx, 0, none⟩ = some (.int .i64 0) := (blk_cell hbox 0).trans rfl; have hcx1 : w11.cell? ⟨gx, 1, none⟩ = some (.slice none 0 0) := (blk_cell hbox 1).trans rfl; have hfx0 := blk_frozen hbox 0; have hfx1 := blk_frozen hbox 1; have hce0 : w11.cell? ⟨gb, 0, none⟩ = some (.int .i64 b0) := (blk_cell BKb.out 0).trans rfl; have hce1 : w11.cell? ⟨gb, 1, none⟩ = some (.slice A0 l0.length c0) := (blk_cell BKb.out 1).trans rfl; have hfe0 := blk_frozen BKb.out 0; have hfe1 := blk_frozen BKb.out 1; have hcg2 : w11.cell? ⟨gd, 2, none⟩ = some (.bool true) := (blk_cell BKd.out 2).trans rfl; have hfg2 := blk_frozen BKd.out 2; clear hb hbox hg))
        go_ret2
        exact ⟨_, rfl, Kd.R_nil _ _ _ _ _, below_set (below_set HB.out GEx.out) GEx.out⟩
       | false =>
        rw [if_neg (by decide)] at H
        cases x3 with
        | false =>
         rw [if_neg (by decide)] at H
         simp only [Option.some.injEq, Prod.mk.injEq] at H
         obtain ⟨rfl, rfl⟩ := H
         go_wp2_with (first | ((with_reducible refine gate_dst (N := 36) rfl ?_); refine impl_decode_at_impl_EncodeDelta.goesV (some 36) rfl rfl 34 Try.func19 (by kernel_rfl) rfl #[.slice Ao out.length co] rfl rfl (by (try simp only [List.map_toArray, List.map_cons, List.map_nil]); first | done | rfl) ?_; (with_reducible refine (impl_EncodeDelta.calls k1 Ao co out x1 x2 false _ HOr.out HOl.out A7.out).mono ?_); rintro e w10 ⟨vx, rfl, hox, hbx⟩; refine ⟨_, rfl, ?_⟩; obtain ⟨Ax, cx, ex⟩ := Kd.R_slice hox; subst ex; have HX := Aside0.mk (Kd.R_lower hox (below_size HB.out)); have n0_ := Aside0.mk (Kd.R_below HO.out hbx); have n1_ := Aside0.mk (blk_below BKd.out hbx); have n2_ := Aside0.mk (blk_below BKb.out hbx); have n3_ := Aside0.mk (below_step HB.out hbx); clear HO BKd BKb HB hox hbx; have HO := n0_; have BKd := n1_; have BKb := n2_; have HB := n3_; clear n0_ n1_ n2_ n3_) | ((with_reducible refine gate_dst (N := 12) rfl ?_); refine bx_ 12 #[.int .i64 0, .slice none 0 0] 24 ?_; intro gx hg w11 hbox hb; have GEx := Aside0.mk (show w.heap.size ≤ gx by rw [hg]; exact below_size HB.out); have hne1 : gb ≠ gx := (by rw [hg]; exact Nat.ne_of_lt (blk_lt BKb.out)); have hne2 : gx ≠ gb := fun e_ => hne1 e_.symm; have hne3 : gd ≠ gx := (by rw [hg]; exact Nat.ne_of_lt (blk_lt BKd.out)); have hne4 : gx ≠ gd := fun e_ => hne3 e_.symm; replace HO := Aside0.mk (Kd.R_below HO.out hb); replace BKd := Aside0.mk (blk_below BKd.out hb); replace BKb := Aside0.mk (blk_below BKb.out hb); replace HB := Aside0.mk (below_step HB.out hb); replace HX := Aside0.mk (Kd.R_below HX.out hb); have BKx := Aside0.mk hbox; skip                     ; have hcx0 : w11.cell? ⟨gx, 0, none⟩ = some (.int .i64 0) := (blk_cell hbox 0).trans rfl; have hcx1 : w11.cell? ⟨gx, 1, none⟩ = some (.slice none 0 0) := (blk_cell hbox 1).trans rfl; have hfx0 := blk_frozen hbox 0; have hfx1 := blk_frozen hbox 1; have hce0 : w11.cell? ⟨gb, 0, none⟩ = some (.int .i64 b0) := (blk_cell BKb.out 0).trans rfl; have hce1 : w11.cell? ⟨gb, 1, none⟩ = some (.slice A0 l0.length c0) := (blk_cell BKb.out 1).trans rfl; have hfe0 := blk_frozen BKb.out 0; have hfe1 := blk_frozen BKb.out 1; have hcg2 : w11.cell? ⟨gd, 2, none⟩ = some (.bool false) := (blk_cell BKd.out 2).trans rfl; have hfg2 := blk_frozen BKd.out 2; clear hb hbox hg))
         go_ret2
         exact ⟨_, rfl, Kd.R_nil _ _ _ _ _, below_set (below_set HB.out GEx.out) GEx.out⟩
        | true =>
         rw [if_pos rfl] at H
         obtain ⟨s, A80, H⟩ := Option.bind_eq_some_iff.mp H
         have A8 := Aside0.mk A80
         clear A80
         cases s with
         | false =>
          rw [if_neg (by decide)] at H
          simp only [Option.some.injEq, Prod.mk.injEq] at H
          obtain ⟨rfl, rfl⟩ := H
          go_wp2_with (first | ((with_reducible refine gate_dst (N := 36) rfl ?_); refine impl_decode_at_impl_EncodeDelta.goesV (some 36) rfl rfl 34 Try.func19 (by kernel_rfl) rfl #[.slice Ao out.length co] rfl rfl (by (try simp only [List.map_toArray, List.map_cons, List.map_nil]); first | done | rfl) ?_; (with_reducible refine (impl_EncodeDelta.calls k1 Ao co out x1 x2 true _ HOr.out HOl.out A7.out).mono ?_); rintro e w10 ⟨vx, rfl, hox, hbx⟩; refine ⟨_, rfl, ?_⟩; obtain ⟨Ax, cx, ex⟩ := Kd.R_slice hox; subst ex; have HX := Aside0.mk (Kd.R_lower hox (below_size HB.out)); have n0_ := Aside0.mk (Kd.R_below HO.out hbx); have n1_ := Aside0.mk (blk_below BKd.out hbx); have n2_ := Aside0.mk (blk_below BKb.out hbx); have n3_ := Aside0.mk (below_step HB.out hbx); clear HO BKd BKb HB hox hbx; have HO := n0_; have BKd := n1_; have BKb := n2_; have HB := n3_; clear n0_ n1_ n2_ n3_) | ((with_reducible refine gate_dst (N := 12) rfl ?_); refine bx_ 12 #[.int .i64 0, .slice none 0 0] 24 ?_; intro gx hg w11 hbox hb; have GEx := Aside0.mk (show w.heap.size ≤ gx by rw [hg]; exact below_size HB.out); have hne1 : gb ≠ gx := (by rw [hg]; exact Nat.ne_of_lt (blk_lt BKb.out)); have hne2 : gx ≠ gb := fun e_ => hne1 e_.symm; have hne3 : gd ≠ gx := (by rw [hg]; exact Nat.ne_of_lt (blk_lt BKd.out)); have hne4 : gx ≠ gd := fun e_ => hne3 e_.symm; replace HO := Aside0.mk (Kd.R_below HO.out hb); replace BKd := Aside0.mk (blk_below BKd.out hb); replace BKb := Aside0.mk (blk_below BKb.out hb); replace HB := Aside0.mk (below_step HB.out hb); replace HX := Aside0.mk (Kd.R_below HX.out hb); have BKx := Aside0.mk hbox; skip                     ; have hcx0 : w11.cell? ⟨gx, 0, none⟩ = some (.int .i64 0) := (blk_cell hbox 0).trans rfl; have hcx1 : w11.cell? ⟨gx, 1, none⟩ = some (.slice none 0 0) := (blk_cell hbox 1).trans rfl; have hfx0 := blk_frozen hbox 0; have hfx1 := blk_frozen hbox 1; have hce0 : w11.cell? ⟨gb, 0, none⟩ = some (.int .i64 b0) := (blk_cell BKb.out 0).trans rfl; have hce1 : w11.cell? ⟨gb, 1, none⟩ = some (.slice A0 l0.length c0) := (blk_cell BKb.out 1).trans rfl; have hfe0 := blk_frozen BKb.out 0; have hfe1 := blk_frozen BKb.out 1; have hcg2 : w11.cell? ⟨gd, 2, none⟩ = some (.bool false) := (blk_cell BKd.out 2).trans rfl; have hfg2 := blk_frozen BKd.out 2; clear hb hbox hg) | (go_at_call 87; (with_reducible refine (impl_sameBits.calls k1 x1 Ax cx x2 b0 A0 c0 l0 false _ ?side1 ?side2 ?side3 HC.out A8.out).mono ?_); (case side1 => exact (Kd.R_reads' (Kd.R_far (p := ⟨gx, 1, none⟩) (Kd.R_far (p := ⟨gx, 0, none⟩) (Kd.R_types HX.out BKx.out (by decide)) (fun _ hk => hk.2) _) (fun _ hk => hk.2) _)).2.2); (case side2 => exact (Kd.R_reads' HX.out).2.1); (case side3 => exact Kd.C_below HR.out (below_set (below_set HB.out GEx.out) GEx.out)); rintro e w12 ⟨rfl, hb⟩; have n0_ := Aside0.mk (Kd.R_mono (Kd.R_below (Kd.R_far (p := ⟨gx, 1, none⟩) (Kd.R_far (p := ⟨gx, 0, none⟩) (Kd.R_types HO.out BKx.out (by decide)) (fun _ hk => hk.2) _) (fun _ hk => hk.2) _) hb) (fun _ _ => trivial)); have n1_ := Aside0.mk (below_step (below_set (below_set HB.out GEx.out) GEx.out) hb); clear HO HB hb; have HO := n0_; have HB := n1_; clear n0_ n1_))
          go_ret2
          exact ⟨_, rfl, Kd.R_nil _ _ _ _ _, HB.out⟩
         | true =>
          rw [if_pos rfl] at H
          simp only [Option.some.injEq, Prod.mk.injEq] at H
          obtain ⟨rfl, rfl⟩ := H
          go_wp2_with (first | ((with_reducible refine gate_dst (N := 36) rfl ?_); refine impl_decode_at_impl_EncodeDelta.goesV (some 36) rfl rfl 34 Try.func19 (by kernel_rfl) rfl #[.slice Ao out.length co] rfl rfl (by (try simp only [List.map_toArray, List.map_cons, List.map_nil]); first | done | rfl) ?_; (with_reducible refine (impl_EncodeDelta.calls k1 Ao co out x1 x2 true _ HOr.out HOl.out A7.out).mono ?_); rintro e w10 ⟨vx, rfl, hox, hbx⟩; refine ⟨_, rfl, ?_⟩; obtain ⟨Ax, cx, ex⟩ := Kd.R_slice hox; subst ex; have HX := Aside0.mk (Kd.R_lower hox (below_size HB.out)); have n0_ := Aside0.mk (Kd.R_below HO.out hbx); have n1_ := Aside0.mk (blk_below BKd.out hbx); have n2_ := Aside0.mk (blk_below BKb.out hbx); have n3_ := Aside0.mk (below_step HB.out hbx); clear HO BKd BKb HB hox hbx; have HO := n0_; have BKd := n1_; have BKb := n2_; have HB := n3_; clear n0_ n1_ n2_ n3_) | ((with_reducible refine gate_dst (N := 12) rfl ?_); refine bx_ 12 #[.int .i64 0, .slice none 0 0] 24 ?_; intro gx hg w11 hbox hb; have GEx := Aside0.mk (show w.heap.size ≤ gx by rw [hg]; exact below_size HB.out); have hne1 : gb ≠ gx := (by rw [hg]; exact Nat.ne_of_lt (blk_lt BKb.out)); have hne2 : gx ≠ gb := fun e_ => hne1 e_.symm; have hne3 : gd ≠ gx := (by rw [hg]; exact Nat.ne_of_lt (blk_lt BKd.out)); have hne4 : gx ≠ gd := fun e_ => hne3 e_.symm; replace HO := Aside0.mk (Kd.R_below HO.out hb); replace BKd := Aside0.mk (blk_below BKd.out hb); replace BKb := Aside0.mk (blk_below BKb.out hb); replace HB := Aside0.mk (below_step HB.out hb); replace HX := Aside0.mk (Kd.R_below HX.out hb); have BKx := Aside0.mk hbox; skip                     ; have hcx0 : w11.cell? ⟨gx, 0, none⟩ = some (.int .i64 0) := (blk_cell hbox 0).trans rfl; have hcx1 : w11.cell? ⟨gx, 1, none⟩ = some (.slice none 0 0) := (blk_cell hbox 1).trans rfl; have hfx0 := blk_frozen hbox 0; have hfx1 := blk_frozen hbox 1; have hce0 : w11.cell? ⟨gb, 0, none⟩ = some (.int .i64 b0) := (blk_cell BKb.out 0).trans rfl; have hce1 : w11.cell? ⟨gb, 1, none⟩ = some (.slice A0 l0.length c0) := (blk_cell BKb.out 1).trans rfl; have hfe0 := blk_frozen BKb.out 0; have hfe1 := blk_frozen BKb.out 1; have hcg2 : w11.cell? ⟨gd, 2, none⟩ = some (.bool false) := (blk_cell BKd.out 2).trans rfl; have hfg2 := blk_frozen BKd.out 2; clear hb hbox hg) | (go_at_call 87; (with_reducible refine (impl_sameBits.calls k1 x1 Ax cx x2 b0 A0 c0 l0 true _ ?side1 ?side2 ?side3 HC.out A8.out).mono ?_); (case side1 => exact (Kd.R_reads' (Kd.R_far (p := ⟨gx, 1, none⟩) (Kd.R_far (p := ⟨gx, 0, none⟩) (Kd.R_types HX.out BKx.out (by decide)) (fun _ hk => hk.2) _) (fun _ hk => hk.2) _)).2.2); (case side2 => exact (Kd.R_reads' HX.out).2.1); (case side3 => exact Kd.C_below HR.out (below_set (below_set HB.out GEx.out) GEx.out)); rintro e w12 ⟨rfl, hb⟩; have n0_ := Aside0.mk (Kd.R_mono (Kd.R_below (Kd.R_far (p := ⟨gx, 1, none⟩) (Kd.R_far (p := ⟨gx, 0, none⟩) (Kd.R_types HO.out BKx.out (by decide)) (fun _ hk => hk.2) _) (fun _ hk => hk.2) _) hb) (fun _ _ => trivial)); have n1_ := Aside0.mk (below_step (below_set (below_set HB.out GEx.out) GEx.out) hb); clear HO HB hb; have HO := n0_; have HB := n1_; clear n0_ n1_))
          go_ret2
          exact ⟨_, rfl, HO.out, HB.out⟩
/-! ### impl_DecodeDelta: function 26 -/
def impl_DecodeDelta.f (k : Nat) (a0_0 : Int) (l0_1 : List Int) (a1 : Int) : Option (List Int × Bool) := (impl_decode_at_impl_EncodeDelta.f k a0_0 l0_1 a1).bind fun bt425 => (some (bt425.1, bt425.2))
theorem impl_DecodeDelta.mono : ∀ a0 a1 a2 k, LeO (impl_DecodeDelta.f k a0 a1 a2) (impl_DecodeDelta.f (k + 1) a0 a1 a2) := by
  intro a0 a1 a2 k
  unfold impl_DecodeDelta.f
  repeat' first
      | (with_reducible exact impl_decode_at_impl_EncodeDelta.mono _ _ _ _)
      | (with_reducible exact LeO.refl _)
      | (with_reducible exact LeO.none _)
      | (with_reducible refine LeO.ite ?_ ?_)
      | (with_reducible refine LeO.bind ?_ (fun _ => ?_))
      | exact impl_decode_at_impl_EncodeDelta.mono _ _ _ _
      | exact LeO.none _
      | refine LeO.ite ?_ ?_
      | refine LeO.bind ?_ (fun _ => ?_)
noncomputable def impl_DecodeDelta.F (a0_0 : Int) (l0_1 : List Int) (a1 : Int) : Option (List Int × Bool) := lim fun k => impl_DecodeDelta.f k a0_0 l0_1 a1
theorem impl_DecodeDelta.F_sup (a0_0 : Int) (l0_1 : List Int) (a1 : Int) : Sup (fun k => impl_DecodeDelta.f k a0_0 l0_1 a1) (impl_DecodeDelta.F a0_0 l0_1 a1) := Sup.of_mono fun k => impl_DecodeDelta.mono a0_0 l0_1 a1 k
theorem impl_DecodeDelta.F_eq (a0_0 : Int) (l0_1 : List Int) (a1 : Int) : impl_DecodeDelta.F a0_0 l0_1 a1 = (impl_decode_at_impl_EncodeDelta.F a0_0 l0_1 a1).bind fun bt425 => (some (bt425.1, bt425.2)) := by
  refine Sup.unique (impl_DecodeDelta.F_sup a0_0 l0_1 a1) (Sup.congr (g' := fun k => (impl_decode_at_impl_EncodeDelta.f k a0_0 l0_1 a1).bind fun bt425 => (some (bt425.1, bt425.2))) (fun k => by first | rfl | simp only [impl_DecodeDelta.f]) ?_)
  repeat' first
    | (with_reducible exact impl_decode_at_impl_EncodeDelta.F_sup _ _ _)
    | (with_reducible refine Sup.ite ?_ ?_)
    | (with_reducible refine Sup.bind ?_ (fun _ => ?_))
    | (with_reducible exact Sup.const _)
    | exact impl_decode_at_impl_EncodeDelta.F_sup _ _ _
    | exact Sup.const _
set_option maxHeartbeats 8000000 in
set_option maxRecDepth 100000 in
theorem impl_DecodeDelta.calls (k : Nat) (a0_0 : Int) (A0_1 : Option Addr) (c0_1 : Nat) (l0_1 : List Int) (a1 : Int) (r1 : List Int) (r2 : Bool) (w : World) (hr0_1 : Kd.C (Kd.int .i64) w A0_1 l0_1.length l0_1) (hc0_1 : l0_1.length ≤ c0_1) (h : impl_DecodeDelta.f k a0_0 l0_1 a1 = some (r1, r2)) :
    Calls Try.prog 26 #[.agg #[.int .i64 a0_0, .slice A0_1 l0_1.length c0_1], .int .i64 a1] w fun e w' => ∃ v0_ : Value, e = .returned (.tuple #[v0_, .bool r2]) ∧ Kd.R (Kd.int .i64) 3 w' w.heap.size (fun _ => True) v0_ r1 ∧ Below w.heap.size w w' := by
  have hu24 := Try.underlying24
  have HR0_1 := Aside0.mk hr0_1
  have HC0_1 := Aside0.mk hc0_1
  clear hr0_1 hc0_1
  have HB := Aside0.mk (Below.refl w.heap.size w)
  have H : ((impl_decode_at_impl_EncodeDelta.f k a0_0 l0_1 a1).bind fun bt425 => (some (bt425.1, bt425.2))) = some (r1, r2) := h
  clear h
  replace H := Option.bind_eq_some_iff.mp H
  obtain ⟨⟨t425, t428⟩, A30, H⟩ := H
  replace H : (some (t425, t428)) = some (r1, r2) := H
  have A3 := Aside0.mk A30
  clear A30
  simp only [Option.some.injEq, Prod.mk.injEq] at H
  obtain ⟨rfl, rfl⟩ := H
  go_enter Try.func26, Try.ntmps26
  go_wp2_with (first | ((with_reducible refine gate_dst (N := 2) rfl ?_); refine bx_ 2 #[.int .i64 a0_0, .slice A0_1 l0_1.length c0_1] 24 ?_; intro gb424 hg w4 hbox hb; have BK424 := Aside0.mk (hbox); have GW424 := Aside0.mk ((ge_ hg)); have GE424 := Aside0.mk ((ge_ hg)); replace HB := Aside0.mk (below_step hB_ hb); clear hb hbox hg; have hcz5_0 : w4.cell? ⟨gb424, 0, none⟩ = some (.int .i64 a0_0) := (blk_cell BK424.out 0).trans rfl; have hcz5_1 : w4.cell? ⟨gb424, 1, none⟩ = some (.slice A0_1 l0_1.length c0_1) := (blk_cell BK424.out 1).trans rfl; have hfz5_0 := blk_frozen BK424.out 0; have hfz5_1 := blk_frozen BK424.out 1) | ((with_reducible refine gate_callee (f := 54) rfl ?_); refine gl_ 8 Try.func54 #[.agg #[.int .i64 a0_0, .slice A0_1 l0_1.length c0_1], .int .i64 a1, .func (.func 56) #[] #[], .func (.func 19) #[] #[]] ?_; (with_reducible refine (impl_decode_at_impl_EncodeDelta.calls k a0_0 _ _ l0_1 a1 t425 t428 _ ?side1 ?side2 A3.out).mono ?_); (case side1 => exact kC_ HR0_1); (case side2 => exact HC0_1.out); rintro e w6 ⟨v426, rfl, ho0, hb⟩; refine ⟨_, rfl, ?_⟩; have HO427 := Aside0.mk (Kd.R_lower ho0 (below_size hB_)); replace BK424 := Aside0.mk (blk_below (kB_ BK424) hb); replace HB := Aside0.mk (below_step hB_ hb); (try clear hb); (try clear hb2); (try clear hk); (try clear hi); (try clear ho0)))
  go_ret2
  exact ⟨_, rf_, kR_ HO427, hB_⟩
end Go.Proofs.Ytkechjheiakibaa.X
