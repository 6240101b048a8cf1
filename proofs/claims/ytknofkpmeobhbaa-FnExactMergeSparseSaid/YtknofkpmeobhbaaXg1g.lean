/- Written by a program of this session: what functions of the given program compute, and that their calls do so. -/
import Derived.Test.YtknofkpmeobhbaaXx0
import Derived.Test.YtknofkpmeobhbaaXg1f
import Derived.Test.YtknofkpmeobhbaaXs
namespace Go.Proofs.Ytknofkpmeobhbaa.X
open Go.RowKit Go.Proofs.YtknofkpmeobhbaaW.PrintWords Go.Proofs.YtknofkpmeobhbaaW.PrintLast Go.Proofs.YtknofkpmeobhbaaW.PrintMore
attribute [local go_sem] max2_int min2_int max_two min_two max_three min_three max_four min_four   -- for this text's walks alone
set_option linter.unusedVariables false
set_option linter.unusedSimpArgs false
/-! ### laws_heldSparse: function 10 -/
def laws_heldSparse.f (k : Nat) (a0_0 : Int) (a0_1 : Int) (a0_2 : Int) (a0_3 : Int) (l0_4 : List Int) (a0_5 : Int) (l0_6 : List Int) (a1 : Int) : Option (Int) := (laws_heldBits.f k a0_3 l0_4 a1).bind fun t412 => (if t412 < 0 then (some (-1)) else ((laws_heldBits.f k a0_5 l0_6 t412).bind fun t413 => (if t413 < 0 then (some (-1)) else (some t413))))
theorem laws_heldSparse.mono : ∀ a0 a1 a2 a3 a4 a5 a6 a7 k, LeO (laws_heldSparse.f k a0 a1 a2 a3 a4 a5 a6 a7) (laws_heldSparse.f (k + 1) a0 a1 a2 a3 a4 a5 a6 a7) := by
  intro a0 a1 a2 a3 a4 a5 a6 a7 k
  unfold laws_heldSparse.f
  repeat' first
      | (with_reducible exact laws_heldBits.mono _ _ _ _)
      | (with_reducible exact LeO.refl _)
      | (with_reducible exact LeO.none _)
      | (with_reducible refine LeO.ite ?_ ?_)
      | (with_reducible refine LeO.bind ?_ (fun _ => ?_))
      | exact laws_heldBits.mono _ _ _ _
      | exact LeO.none _
      | refine LeO.ite ?_ ?_
      | refine LeO.bind ?_ (fun _ => ?_)
noncomputable def laws_heldSparse.F (a0_0 : Int) (a0_1 : Int) (a0_2 : Int) (a0_3 : Int) (l0_4 : List Int) (a0_5 : Int) (l0_6 : List Int) (a1 : Int) : Option (Int) := lim fun k => laws_heldSparse.f k a0_0 a0_1 a0_2 a0_3 l0_4 a0_5 l0_6 a1
theorem laws_heldSparse.F_sup (a0_0 : Int) (a0_1 : Int) (a0_2 : Int) (a0_3 : Int) (l0_4 : List Int) (a0_5 : Int) (l0_6 : List Int) (a1 : Int) : Sup (fun k => laws_heldSparse.f k a0_0 a0_1 a0_2 a0_3 l0_4 a0_5 l0_6 a1) (laws_heldSparse.F a0_0 a0_1 a0_2 a0_3 l0_4 a0_5 l0_6 a1) := Sup.of_mono fun k => laws_heldSparse.mono a0_0 a0_1 a0_2 a0_3 l0_4 a0_5 l0_6 a1 k
theorem laws_heldSparse.F_eq (a0_0 : Int) (a0_1 : Int) (a0_2 : Int) (a0_3 : Int) (l0_4 : List Int) (a0_5 : Int) (l0_6 : List Int) (a1 : Int) : laws_heldSparse.F a0_0 a0_1 a0_2 a0_3 l0_4 a0_5 l0_6 a1 = (laws_heldBits.F a0_3 l0_4 a1).bind fun t412 => (if t412 < 0 then (some (-1)) else ((laws_heldBits.F a0_5 l0_6 t412).bind fun t413 => (if t413 < 0 then (some (-1)) else (some t413)))) := by
  refine Sup.unique (laws_heldSparse.F_sup a0_0 a0_1 a0_2 a0_3 l0_4 a0_5 l0_6 a1) (Sup.congr (g' := fun k => (laws_heldBits.f k a0_3 l0_4 a1).bind fun t412 => (if t412 < 0 then (some (-1)) else ((laws_heldBits.f k a0_5 l0_6 t412).bind fun t413 => (if t413 < 0 then (some (-1)) else (some t413))))) (fun k => by first | rfl | simp only [laws_heldSparse.f]) ?_)
  repeat' first
    | (with_reducible exact laws_heldBits.F_sup _ _ _)
    | (with_reducible refine Sup.ite ?_ ?_)
    | (with_reducible refine Sup.bind ?_ (fun _ => ?_))
    | (with_reducible exact Sup.const _)
    | exact laws_heldBits.F_sup _ _ _
    | exact Sup.const _
set_option maxHeartbeats 8000000 in
set_option maxRecDepth 100000 in
theorem laws_heldSparse.calls (k : Nat) (a0_0 : Int) (a0_1 : Int) (a0_2 : Int) (a0_3 : Int) (A0_4 : Option Addr) (c0_4 : Nat) (l0_4 : List Int) (a0_5 : Int) (A0_6 : Option Addr) (c0_6 : Nat) (l0_6 : List Int) (a1 : Int) (r : Int) (w : World) (hr0_4 : Kd.C (Kd.int .i64) w A0_4 l0_4.length l0_4) (hc0_4 : l0_4.length ≤ c0_4) (hr0_6 : Kd.C (Kd.int .i64) w A0_6 l0_6.length l0_6) (hc0_6 : l0_6.length ≤ c0_6) (h : laws_heldSparse.f k a0_0 a0_1 a0_2 a0_3 l0_4 a0_5 l0_6 a1 = some r) :
    Calls Try.prog 10 #[.agg #[.int .i64 a0_0, .int .i64 a0_1, .int .i64 a0_2, .int .i64 a0_3, .slice A0_4 l0_4.length c0_4, .int .i64 a0_5, .slice A0_6 l0_6.length c0_6], .int .i64 a1] w fun e w' => e = .returned (.int .i64 r) ∧ Below w.heap.size w w' := by
  have hu30 := Try.underlying30
  have hu28 := Try.underlying28
  have HR0_4 := Aside0.mk hr0_4
  have HC0_4 := Aside0.mk hc0_4
  clear hr0_4 hc0_4
  have HR0_6 := Aside0.mk hr0_6
  have HC0_6 := Aside0.mk hc0_6
  clear hr0_6 hc0_6
  have HB := Aside0.mk (Below.refl w.heap.size w)
  have H : ((laws_heldBits.f k a0_3 l0_4 a1).bind fun t412 => (if t412 < 0 then (some (-1)) else ((laws_heldBits.f k a0_5 l0_6 t412).bind fun t413 => (if t413 < 0 then (some (-1)) else (some t413))))) = some r := h
  clear h
  replace H := Option.bind_eq_some_iff.mp H
  obtain ⟨t412, A30, H⟩ := H
  replace H : (if t412 < 0 then (some (-1)) else ((laws_heldBits.f k a0_5 l0_6 t412).bind fun t413 => (if t413 < 0 then (some (-1)) else (some t413)))) = some r := H
  have A3 := Aside0.mk A30
  clear A30
  by_cases c4 : t412 < 0
  ·rw [if_pos c4] at H
   have c4b0 : decide (t412 < 0) = true := decide_eq_true c4
   clear c4
   obtain rfl := Option.some.inj H
   go_enter Try.func10, Try.ntmps10
   go_wp2_with (first | ((with_reducible refine gate_dst (N := 2) rfl ?_); refine bx_ 2 #[.int .i64 a0_0, .int .i64 a0_1, .int .i64 a0_2, .int .i64 a0_3, .slice A0_4 l0_4.length c0_4, .int .i64 a0_5, .slice A0_6 l0_6.length c0_6] 30 ?_; intro gb411 hg w5 hbox hb; have BK411 := Aside0.mk (hbox); have GW411 := Aside0.mk ((ge_ hg)); have GE411 := Aside0.mk ((ge_ hg)); replace HB := Aside0.mk (below_step hB_ hb); clear hb hbox hg; have hcz6_0 : w5.cell? ⟨gb411, 0, none⟩ = some (.int .i64 a0_0) := (blk_cell BK411.out 0).trans rfl; have hcz6_1 : w5.cell? ⟨gb411, 1, none⟩ = some (.int .i64 a0_1) := (blk_cell BK411.out 1).trans rfl; have hcz6_2 : w5.cell? ⟨gb411, 2, none⟩ = some (.int .i64 a0_2) := (blk_cell BK411.out 2).trans rfl; have hcz6_3 : w5.cell? ⟨gb411, 3, none⟩ = some (.int .i64 a0_3) := (blk_cell BK411.out 3).trans rfl; have hcz6_4 : w5.cell? ⟨gb411, 4, none⟩ = some (.slice A0_4 l0_4.length c0_4) := (blk_cell BK411.out 4).trans rfl; have hcz6_5 : w5.cell? ⟨gb411, 5, none⟩ = some (.int .i64 a0_5) := (blk_cell BK411.out 5).trans rfl; have hcz6_6 : w5.cell? ⟨gb411, 6, none⟩ = some (.slice A0_6 l0_6.length c0_6) := (blk_cell BK411.out 6).trans rfl; have hfz6_0 := blk_frozen BK411.out 0; have hfz6_1 := blk_frozen BK411.out 1; have hfz6_2 := blk_frozen BK411.out 2; have hfz6_3 := blk_frozen BK411.out 3; have hfz6_4 := blk_frozen BK411.out 4; have hfz6_5 := blk_frozen BK411.out 5; have hfz6_6 := blk_frozen BK411.out 6) | ((with_reducible refine gate_callee (f := 24) rfl ?_); refine gl_ 8 Try.func24 #[.agg #[.int .i64 a0_3, .slice A0_4 l0_4.length c0_4], .int .i64 a1] ?_; (with_reducible refine (laws_heldBits.calls k a0_3 _ _ l0_4 a1 t412 _ ?side1 ?side2 A3.out).mono ?_); (case side1 => exact kC_ HR0_4); (case side2 => exact HC0_4.out); rintro e w7 ⟨rfl, hb⟩; refine ⟨_, rfl, ?_⟩; have n0_ := Aside0.mk (below_step hB_ hb); clear HB; clear BK411; have HB := n0_; clear n0_; (try clear hb); (try clear hb2); (try clear hk); (try clear hi)))
   go_ret
   exact ⟨rf_, hB_⟩
  ·rw [if_neg c4] at H
   have c4b0 : decide (t412 < 0) = false := decide_eq_false c4
   clear c4
   replace H := Option.bind_eq_some_iff.mp H
   obtain ⟨t413, A80, H⟩ := H
   replace H : (if t413 < 0 then (some (-1)) else (some t413)) = some r := H
   have A8 := Aside0.mk A80
   clear A80
   by_cases c9 : t413 < 0
   ·rw [if_pos c9] at H
    have c9b0 : decide (t413 < 0) = true := decide_eq_true c9
    clear c9
    obtain rfl := Option.some.inj H
    go_enter Try.func10, Try.ntmps10
    go_wp2_with (first | ((with_reducible refine gate_dst (N := 2) rfl ?_); refine bx_ 2 #[.int .i64 a0_0, .int .i64 a0_1, .int .i64 a0_2, .int .i64 a0_3, .slice A0_4 l0_4.length c0_4, .int .i64 a0_5, .slice A0_6 l0_6.length c0_6] 30 ?_; intro gb411 hg w10 hbox hb; have BK411 := Aside0.mk (hbox); have GW411 := Aside0.mk ((ge_ hg)); have GE411 := Aside0.mk ((ge_ hg)); replace HB := Aside0.mk (below_step hB_ hb); clear hb hbox hg; have hcz11_0 : w10.cell? ⟨gb411, 0, none⟩ = some (.int .i64 a0_0) := (blk_cell BK411.out 0).trans rfl; have hcz11_1 : w10.cell? ⟨gb411, 1, none⟩ = some (.int .i64 a0_1) := (blk_cell BK411.out 1).trans rfl; have hcz11_2 : w10.cell? ⟨gb411, 2, none⟩ = some (.int .i64 a0_2) := (blk_cell BK411.out 2).trans rfl; have hcz11_3 : w10.cell? ⟨gb411, 3, none⟩ = some (.int .i64 a0_3) := (blk_cell BK411.out 3).trans rfl; have hcz11_4 : w10.cell? ⟨gb411, 4, none⟩ = some (.slice A0_4 l0_4.length c0_4) := (blk_cell BK411.out 4).trans rfl; have hcz11_5 : w10.cell? ⟨gb411, 5, none⟩ = some (.int .i64 a0_5) := (blk_cell BK411.out 5).trans rfl; have hcz11_6 : w10.cell? ⟨gb411, 6, none⟩ = some (.slice A0_6 l0_6.length c0_6) := (blk_cell BK411.out 6).trans rfl; have hfz11_0 := blk_frozen BK411.out 0; have hfz11_1 := blk_frozen BK411.out 1; have hfz11_2 := blk_frozen BK411.out 2; have hfz11_3 := blk_frozen BK411.out 3; have hfz11_4 := blk_frozen BK411.out 4; have hfz11_5 := blk_frozen BK411.out 5; have hfz11_6 := blk_frozen BK411.out 6) | ((with_reducible refine gate_callee (f := 24) rfl ?_); refine gl_ 8 Try.func24 #[.agg #[.int .i64 a0_3, .slice A0_4 l0_4.length c0_4], .int .i64 a1] ?_; (with_reducible refine (laws_heldBits.calls k a0_3 _ _ l0_4 a1 t412 _ ?side1 ?side2 A3.out).mono ?_); (case side1 => exact kC_ HR0_4); (case side2 => exact HC0_4.out); rintro e w12 ⟨rfl, hb⟩; refine ⟨_, rfl, ?_⟩; replace BK411 := Aside0.mk (blk_below (kB_ BK411) hb); replace HB := Aside0.mk (below_step hB_ hb); (try clear hb); (try clear hb2); (try clear hk); (try clear hi); have hcz13_0 : w12.cell? ⟨gb411, 0, none⟩ = some (.int .i64 a0_0) := (blk_cell BK411.out 0).trans rfl; have hcz13_1 : w12.cell? ⟨gb411, 1, none⟩ = some (.int .i64 a0_1) := (blk_cell BK411.out 1).trans rfl; have hcz13_2 : w12.cell? ⟨gb411, 2, none⟩ = some (.int .i64 a0_2) := (blk_cell BK411.out 2).trans rfl; have hcz13_3 : w12.cell? ⟨gb411, 3, none⟩ = some (.int .i64 a0_3) := (blk_cell BK411.out 3).trans rfl; have hcz13_4 : w12.cell? ⟨gb411, 4, none⟩ = some (.slice A0_4 l0_4.length c0_4) := (blk_cell BK411.out 4).trans rfl; have hcz13_5 : w12.cell? ⟨gb411, 5, none⟩ = some (.int .i64 a0_5) := (blk_cell BK411.out 5).trans rfl; have hcz13_6 : w12.cell? ⟨gb411, 6, none⟩ = some (.slice A0_6 l0_6.length c0_6) := (blk_cell BK411.out 6).trans rfl; have hfz13_0 := blk_frozen BK411.out 0; have hfz13_1 := blk_frozen BK411.out 1; have hfz13_2 := blk_frozen BK411.out 2; have hfz13_3 := blk_frozen BK411.out 3; have hfz13_4 := blk_frozen BK411.out 4; have hfz13_5 := blk_frozen BK411.out 5; have hfz13_6 := blk_frozen BK411.out 6) | ((with_reducible refine gate_callee (f := 24) rfl ?_); refine gl_ 14 Try.func24 #[.agg #[.int .i64 a0_5, .slice A0_6 l0_6.length c0_6], .int .i64 t412] ?_; (with_reducible refine (laws_heldBits.calls k a0_5 _ _ l0_6 t412 t413 _ ?side1 ?side2 A8.out).mono ?_); (case side1 => exact kC_ HR0_6); (case side2 => exact HC0_6.out); rintro e w14 ⟨rfl, hb⟩; refine ⟨_, rfl, ?_⟩; have n0_ := Aside0.mk (below_step hB_ hb); clear HB; clear BK411; have HB := n0_; clear n0_; (try clear hb); (try clear hb2); (try clear hk); (try clear hi)))
    go_ret
    exact ⟨rf_, hB_⟩
   ·rw [if_neg c9] at H
    have c9b0 : decide (t413 < 0) = false := decide_eq_false c9
    clear c9
    obtain rfl := Option.some.inj H
    go_enter Try.func10, Try.ntmps10
    go_wp2_with (first | ((with_reducible refine gate_dst (N := 2) rfl ?_); refine bx_ 2 #[.int .i64 a0_0, .int .i64 a0_1, .int .i64 a0_2, .int .i64 a0_3, .slice A0_4 l0_4.length c0_4, .int .i64 a0_5, .slice A0_6 l0_6.length c0_6] 30 ?_; intro gb411 hg w15 hbox hb; have BK411 := Aside0.mk (hbox); have GW411 := Aside0.mk ((ge_ hg)); have GE411 := Aside0.mk ((ge_ hg)); replace HB := Aside0.mk (below_step hB_ hb); clear hb hbox hg; have hcz16_0 : w15.cell? ⟨gb411, 0, none⟩ = some (.int .i64 a0_0) := (blk_cell BK411.out 0).trans rfl; have hcz16_1 : w15.cell? ⟨gb411, 1, none⟩ = some (.int .i64 a0_1) := (blk_cell BK411.out 1).trans rfl; have hcz16_2 : w15.cell? ⟨gb411, 2, none⟩ = some (.int .i64 a0_2) := (blk_cell BK411.out 2).trans rfl; have hcz16_3 : w15.cell? ⟨gb411, 3, none⟩ = some (.int .i64 a0_3) := (blk_cell BK411.out 3).trans rfl; have hcz16_4 : w15.cell? ⟨gb411, 4, none⟩ = some (.slice A0_4 l0_4.length c0_4) := (blk_cell BK411.out 4).trans rfl; have hcz16_5 : w15.cell? ⟨gb411, 5, none⟩ = some (.int .i64 a0_5) := (blk_cell BK411.out 5).trans rfl; have hcz16_6 : w15.cell? ⟨gb411, 6, none⟩ = some (.slice A0_6 l0_6.length c0_6) := (blk_cell BK411.out 6).trans rfl; have hfz16_0 := blk_frozen BK411.out 0; have hfz16_1 := blk_frozen BK411.out 1; have hfz16_2 := blk_frozen BK411.out 2; have hfz16_3 := blk_frozen BK411.out 3; have hfz16_4 := blk_frozen BK411.out 4; have hfz16_5 := blk_frozen BK411.out 5; have hfz16_6 := blk_frozen BK411.out 6) | ((with_reducible refine gate_callee (f := 24) rfl ?_); refine gl_ 8 Try.func24 #[.agg #[.int .i64 a0_3, .slice A0_4 l0_4.length c0_4], .int .i64 a1] ?_; (with_reducible refine (laws_heldBits.calls k a0_3 _ _ l0_4 a1 t412 _ ?side1 ?side2 A3.out).mono ?_); (case side1 => exact kC_ HR0_4); (case side2 => exact HC0_4.out); rintro e w17 ⟨rfl, hb⟩; refine ⟨_, rfl, ?_⟩; replace BK411 := Aside0.mk (blk_below (kB_ BK411) hb); replace HB := Aside0.mk (below_step hB_ hb); (try clear hb); (try clear hb2); (try clear hk); (try clear hi); have hcz18_0 : w17.cell? ⟨gb411, 0, none⟩ = some (.int .i64 a0_0) := (blk_cell BK411.out 0).trans rfl; have hcz18_1 : w17.cell? ⟨gb411, 1, none⟩ = some (.int .i64 a0_1) := (blk_cell BK411.out 1).trans rfl; have hcz18_2 : w17.cell? ⟨gb411, 2, none⟩ = some (.int .i64 a0_2) := (blk_cell BK411.out 2).trans rfl; have hcz18_3 : w17.cell? ⟨gb411, 3, none⟩ = some (.int .i64 a0_3) := (blk_cell BK411.out 3).trans rfl; have hcz18_4 : w17.cell? ⟨gb411, 4, none⟩ = some (.slice A0_4 l0_4.length c0_4) := (blk_cell BK411.out 4).trans rfl; have hcz18_5 : w17.cell? ⟨gb411, 5, none⟩ = some (.int .i64 a0_5) := (blk_cell BK411.out 5).trans rfl; have hcz18_6 : w17.cell? ⟨gb411, 6, none⟩ = some (.slice A0_6 l0_6.length c0_6) := (blk_cell BK411.out 6).trans rfl; have hfz18_0 := blk_frozen BK411.out 0; have hfz18_1 := blk_frozen BK411.out 1; have hfz18_2 := blk_frozen BK411.out 2; have hfz18_3 := blk_frozen BK411.out 3; have hfz18_4 := blk_frozen BK411.out 4; have hfz18_5 := blk_frozen BK411.out 5; have hfz18_6 := blk_frozen BK411.out 6) | ((with_reducible refine gate_callee (f := 24) rfl ?_); refine gl_ 14 Try.func24 #[.agg #[.int .i64 a0_5, .slice A0_6 l0_6.length c0_6], .int .i64 t412] ?_; (with_reducible refine (laws_heldBits.calls k a0_5 _ _ l0_6 t412 t413 _ ?side1 ?side2 A8.out).mono ?_); (case side1 => exact kC_ HR0_6); (case side2 => exact HC0_6.out); rintro e w19 ⟨rfl, hb⟩; refine ⟨_, rfl, ?_⟩; have n0_ := Aside0.mk (below_step hB_ hb); clear HB; clear BK411; have HB := n0_; clear n0_; (try clear hb); (try clear hb2); (try clear hk); (try clear hi)))
    go_ret
    exact ⟨rf_, hB_⟩
end Go.Proofs.Ytknofkpmeobhbaa.X
