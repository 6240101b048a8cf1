/- Written by a program of this session: what functions of the given program compute, and that their calls do so. -/
import Derived.Test.YtkechjheiakibaaXx0
import Derived.Test.YtkechjheiakibaaXg24a
import Derived.Test.YtkechjheiakibaaXgca
import Derived.Test.YtkechjheiakibaaXgfa
namespace Go.Proofs.Ytkechjheiakibaa.X
open Go.RowKit Go.Proofs.YtkechjheiakibaaW.PrintWords Go.Proofs.YtkechjheiakibaaW.PrintLast Go.Proofs.YtkechjheiakibaaW.PrintMore
attribute [local go_sem] max2_int min2_int max_two min_two max_three min_three max_four min_four   -- for this text's walks alone
set_option linter.unusedVariables false
set_option linter.unusedSimpArgs false
/-! ### laws_FnExactDecodeGamma: function 5 -/
def laws_FnExactDecodeGamma.f (k : Nat) (a0_0 : Int) (l0_1 : List Int) (a1 : Int) : Option (Bool) := (laws_szBits.f a0_0 l0_1 1048576).bind fun t373 => (if t373 < 0 then (some true) else ((laws_toBits.f k a0_0 l0_1).bind fun bt374 => ((spec_DecodeGamma.f k bt374.1 bt374.2 a1).bind fun bt378 => ((laws_toBits.f k a0_0 l0_1).bind fun bt382 => ((impl_DecodeGamma.f k bt382.1 bt382.2 a1).bind fun bt387 => ((laws_eqIntS.f k bt387.1 bt378.1).bind fun t391 => (if t391 = true then (if (bt387.2 != bt378.2) = true then (none) else ((laws_toBits.f k a0_0 l0_1).bind fun bt392 => ((laws_eqBits.f k bt382.1 bt382.2 bt392.1 bt392.2).bind fun t396 => (if t396 = true then ((laws_markBits.f k bt382.1 bt382.2 1).bind fun bt397 => (if bt397.1 < 0 then (none) else ((laws_eqIntS.f k bt387.1 bt378.1).bind fun t399 => (if t399 = true then ((laws_markIntS.f k bt387.1 1).bind fun bt400 => ((laws_heldIntS.f k bt400.2 1).bind fun t402 => (if t402 < 0 then (none) else (if t402 = bt400.1 then ((laws_toBits.f k a0_0 l0_1).bind fun bt403 => ((impl_DecodeGamma.f k bt403.1 bt403.2 a1).bind fun bt407 => ((laws_eqIntS.f k bt407.1 bt378.1).bind fun t411 => (if t411 = true then (if (bt407.2 != bt378.2) = true then (none) else ((laws_heldIntS.f k bt400.2 1).bind fun t412 => (if t412 < 0 then (none) else (if t412 = bt400.1 then (some true) else (none))))) else (none))))) else (none))))) else (none))))) else (none))))) else (none))))))))
theorem laws_FnExactDecodeGamma.mono : ∀ a0 a1 a2 k, LeO (laws_FnExactDecodeGamma.f k a0 a1 a2) (laws_FnExactDecodeGamma.f (k + 1) a0 a1 a2) := by
  intro a0 a1 a2 k
  unfold laws_FnExactDecodeGamma.f
  repeat' first
      | (with_reducible exact impl_DecodeGamma.mono _ _ _ _)
      | (with_reducible exact laws_eqBits.mono _ _ _ _ _)
      | (with_reducible exact laws_eqIntS.mono _ _ _)
      | (with_reducible exact laws_heldIntS.mono _ _ _)
      | (with_reducible exact laws_markBits.mono _ _ _ _)
      | (with_reducible exact laws_markIntS.mono _ _ _)
      | (with_reducible exact laws_toBits.mono _ _ _)
      | (with_reducible exact spec_DecodeGamma.mono _ _ _ _)
      | (with_reducible exact LeO.refl _)
      | (with_reducible exact LeO.none _)
      | (with_reducible refine LeO.ite ?_ ?_)
      | (with_reducible refine LeO.bind ?_ (fun _ => ?_))
      | exact impl_DecodeGamma.mono _ _ _ _
      | exact laws_eqBits.mono _ _ _ _ _
      | exact laws_eqIntS.mono _ _ _
      | exact laws_heldIntS.mono _ _ _
      | exact laws_markBits.mono _ _ _ _
      | exact laws_markIntS.mono _ _ _
      | exact laws_toBits.mono _ _ _
      | exact spec_DecodeGamma.mono _ _ _ _
      | exact LeO.none _
      | refine LeO.ite ?_ ?_
      | refine LeO.bind ?_ (fun _ => ?_)
noncomputable def laws_FnExactDecodeGamma.F (a0_0 : Int) (l0_1 : List Int) (a1 : Int) : Option (Bool) := lim fun k => laws_FnExactDecodeGamma.f k a0_0 l0_1 a1
theorem laws_FnExactDecodeGamma.F_sup (a0_0 : Int) (l0_1 : List Int) (a1 : Int) : Sup (fun k => laws_FnExactDecodeGamma.f k a0_0 l0_1 a1) (laws_FnExactDecodeGamma.F a0_0 l0_1 a1) := Sup.of_mono fun k => laws_FnExactDecodeGamma.mono a0_0 l0_1 a1 k
theorem laws_FnExactDecodeGamma.F_eq (a0_0 : Int) (l0_1 : List Int) (a1 : Int) : laws_FnExactDecodeGamma.F a0_0 l0_1 a1 = (laws_szBits.f a0_0 l0_1 1048576).bind fun t373 => (if t373 < 0 then (some true) else ((laws_toBits.F a0_0 l0_1).bind fun bt374 => ((spec_DecodeGamma.F bt374.1 bt374.2 a1).bind fun bt378 => ((laws_toBits.F a0_0 l0_1).bind fun bt382 => ((impl_DecodeGamma.F bt382.1 bt382.2 a1).bind fun bt387 => ((laws_eqIntS.F bt387.1 bt378.1).bind fun t391 => (if t391 = true then (if (bt387.2 != bt378.2) = true then (none) else ((laws_toBits.F a0_0 l0_1).bind fun bt392 => ((laws_eqBits.F bt382.1 bt382.2 bt392.1 bt392.2).bind fun t396 => (if t396 = true then ((laws_markBits.F bt382.1 bt382.2 1).bind fun bt397 => (if bt397.1 < 0 then (none) else ((laws_eqIntS.F bt387.1 bt378.1).bind fun t399 => (if t399 = true then ((laws_markIntS.F bt387.1 1).bind fun bt400 => ((laws_heldIntS.F bt400.2 1).bind fun t402 => (if t402 < 0 then (none) else (if t402 = bt400.1 then ((laws_toBits.F a0_0 l0_1).bind fun bt403 => ((impl_DecodeGamma.F bt403.1 bt403.2 a1).bind fun bt407 => ((laws_eqIntS.F bt407.1 bt378.1).bind fun t411 => (if t411 = true then (if (bt407.2 != bt378.2) = true then (none) else ((laws_heldIntS.F bt400.2 1).bind fun t412 => (if t412 < 0 then (none) else (if t412 = bt400.1 then (some true) else (none))))) else (none))))) else (none))))) else (none))))) else (none))))) else (none)))))))) := by
  refine Sup.unique (laws_FnExactDecodeGamma.F_sup a0_0 l0_1 a1) (Sup.congr (g' := fun k => (laws_szBits.f a0_0 l0_1 1048576).bind fun t373 => (if t373 < 0 then (some true) else ((laws_toBits.f k a0_0 l0_1).bind fun bt374 => ((spec_DecodeGamma.f k bt374.1 bt374.2 a1).bind fun bt378 => ((laws_toBits.f k a0_0 l0_1).bind fun bt382 => ((impl_DecodeGamma.f k bt382.1 bt382.2 a1).bind fun bt387 => ((laws_eqIntS.f k bt387.1 bt378.1).bind fun t391 => (if t391 = true then (if (bt387.2 != bt378.2) = true then (none) else ((laws_toBits.f k a0_0 l0_1).bind fun bt392 => ((laws_eqBits.f k bt382.1 bt382.2 bt392.1 bt392.2).bind fun t396 => (if t396 = true then ((laws_markBits.f k bt382.1 bt382.2 1).bind fun bt397 => (if bt397.1 < 0 then (none) else ((laws_eqIntS.f k bt387.1 bt378.1).bind fun t399 => (if t399 = true then ((laws_markIntS.f k bt387.1 1).bind fun bt400 => ((laws_heldIntS.f k bt400.2 1).bind fun t402 => (if t402 < 0 then (none) else (if t402 = bt400.1 then ((laws_toBits.f k a0_0 l0_1).bind fun bt403 => ((impl_DecodeGamma.f k bt403.1 bt403.2 a1).bind fun bt407 => ((laws_eqIntS.f k bt407.1 bt378.1).bind fun t411 => (if t411 = true then (if (bt407.2 != bt378.2) = true then (none) else ((laws_heldIntS.f k bt400.2 1).bind fun t412 => (if t412 < 0 then (none) else (if t412 = bt400.1 then (some true) else (none))))) else (none))))) else (none))))) else (none))))) else (none))))) else (none))))))))) (fun k => by first | rfl | simp only [laws_FnExactDecodeGamma.f]) ?_)
  repeat' first
    | (with_reducible exact laws_eqBits.F_sup _ _ _ _)
    | (with_reducible exact laws_eqIntS.F_sup _ _)
    | (with_reducible exact laws_markIntS.F_sup _ _)
    | (with_reducible exact laws_markBits.F_sup _ _ _)
    | (with_reducible exact spec_DecodeGamma.F_sup _ _ _)
    | (with_reducible exact laws_toBits.F_sup _ _)
    | (with_reducible exact impl_DecodeGamma.F_sup _ _ _)
    | (with_reducible exact laws_heldIntS.F_sup _ _)
    | (with_reducible refine Sup.ite ?_ ?_)
    | (with_reducible refine Sup.bind ?_ (fun _ => ?_))
    | (with_reducible exact Sup.const _)
    | exact laws_eqBits.F_sup _ _ _ _
    | exact laws_eqIntS.F_sup _ _
    | exact laws_markIntS.F_sup _ _
    | exact laws_markBits.F_sup _ _ _
    | exact spec_DecodeGamma.F_sup _ _ _
    | exact laws_toBits.F_sup _ _
    | exact impl_DecodeGamma.F_sup _ _ _
    | exact laws_heldIntS.F_sup _ _
    | exact Sup.const _
set_option maxHeartbeats 8000000 in
set_option maxRecDepth 100000 in
theorem laws_FnExactDecodeGamma.calls (k : Nat) (a0_0 : Int) (A0_1 : Option Addr) (c0_1 : Nat) (l0_1 : List Int) (a1 : Int) (r : Bool) (w : World) (hr0_1 : Kd.C (Kd.int .i64) w A0_1 l0_1.length l0_1) (hc0_1 : l0_1.length ≤ c0_1) (h : laws_FnExactDecodeGamma.f k a0_0 l0_1 a1 = some r) :
    Calls Try.prog 5 #[.agg #[.int .i64 a0_0, .slice A0_1 l0_1.length c0_1], .int .i64 a1] w fun e w' => e = .returned (.bool r) ∧ Below w.heap.size w w' := by
  have hu33 := Try.underlying33
  have hu24 := Try.underlying24
  have HR0_1 := Aside0.mk hr0_1
  have HC0_1 := Aside0.mk hc0_1
  clear hr0_1 hc0_1
  have HB := Aside0.mk (Below.refl w.heap.size w)
  have H : ((laws_szBits.f a0_0 l0_1 1048576).bind fun t373 => (if t373 < 0 then (some true) else ((laws_toBits.f k a0_0 l0_1).bind fun bt374 => ((spec_DecodeGamma.f k bt374.1 bt374.2 a1).bind fun bt378 => ((laws_toBits.f k a0_0 l0_1).bind fun bt382 => ((impl_DecodeGamma.f k bt382.1 bt382.2 a1).bind fun bt387 => ((laws_eqIntS.f k bt387.1 bt378.1).bind fun t391 => (if t391 = true then (if (bt387.2 != bt378.2) = true then (none) else ((laws_toBits.f k a0_0 l0_1).bind fun bt392 => ((laws_eqBits.f k bt382.1 bt382.2 bt392.1 bt392.2).bind fun t396 => (if t396 = true then ((laws_markBits.f k bt382.1 bt382.2 1).bind fun bt397 => (if bt397.1 < 0 then (none) else ((laws_eqIntS.f k bt387.1 bt378.1).bind fun t399 => (if t399 = true then ((laws_markIntS.f k bt387.1 1).bind fun bt400 => ((laws_heldIntS.f k bt400.2 1).bind fun t402 => (if t402 < 0 then (none) else (if t402 = bt400.1 then ((laws_toBits.f k a0_0 l0_1).bind fun bt403 => ((impl_DecodeGamma.f k bt403.1 bt403.2 a1).bind fun bt407 => ((laws_eqIntS.f k bt407.1 bt378.1).bind fun t411 => (if t411 = true then (if (bt407.2 != bt378.2) = true then (none) else ((laws_heldIntS.f k bt400.2 1).bind fun t412 => (if t412 < 0 then (none) else (if t412 = bt400.1 then (some true) else (none))))) else (none))))) else (none))))) else (none))))) else (none))))) else (none))))))))) = some r := h
  clear h
  replace H := Option.bind_eq_some_iff.mp H
  obtain ⟨t373, A30, H⟩ := H
  replace H : (if t373 < 0 then (some true) else ((laws_toBits.f k a0_0 l0_1).bind fun bt374 => ((spec_DecodeGamma.f k bt374.1 bt374.2 a1).bind fun bt378 => ((laws_toBits.f k a0_0 l0_1).bind fun bt382 => ((impl_DecodeGamma.f k bt382.1 bt382.2 a1).bind fun bt387 => ((laws_eqIntS.f k bt387.1 bt378.1).bind fun t391 => (if t391 = true then (if (bt387.2 != bt378.2) = true then (none) else ((laws_toBits.f k a0_0 l0_1).bind fun bt392 => ((laws_eqBits.f k bt382.1 bt382.2 bt392.1 bt392.2).bind fun t396 => (if t396 = true then ((laws_markBits.f k bt382.1 bt382.2 1).bind fun bt397 => (if bt397.1 < 0 then (none) else ((laws_eqIntS.f k bt387.1 bt378.1).bind fun t399 => (if t399 = true then ((laws_markIntS.f k bt387.1 1).bind fun bt400 => ((laws_heldIntS.f k bt400.2 1).bind fun t402 => (if t402 < 0 then (none) else (if t402 = bt400.1 then ((laws_toBits.f k a0_0 l0_1).bind fun bt403 => ((impl_DecodeGamma.f k bt403.1 bt403.2 a1).bind fun bt407 => ((laws_eqIntS.f k bt407.1 bt378.1).bind fun t411 => (if t411 = true then (if (bt407.2 != bt378.2) = true then (none) else ((laws_heldIntS.f k bt400.2 1).bind fun t412 => (if t412 < 0 then (none) else (if t412 = bt400.1 then (some true) else (none))))) else (none))))) else (none))))) else (none))))) else (none))))) else (none)))))))) = some r := H
  have A3 := Aside0.mk A30
  clear A30
  by_cases c4 : t373 < 0
  ·rw [if_pos c4] at H
   have c4b0 : decide (t373 < 0) = true := decide_eq_true c4
   clear c4
   obtain rfl := Option.some.inj H
   go_enter Try.func5, Try.ntmps5
   go_wp2_with (first | ((with_reducible refine gate_dst (N := 2) rfl ?_); refine box_event ?hg (N := 2) ?hd (cs := #[.int .i64 a0_0, .slice A0_1 l0_1.length c0_1]) (t := 33) ?hr ?_; (case hd => rfl); (case hg => rfl); (case hr => first | (go_simp; done) | (go_simp; rfl)); intro gb372 hg w5 hbox hb; have n0_ := Aside0.mk (below_step (by repeat (first | (with_reducible first | exact HB.out | apply below_alloc | apply pw_below_drewN | apply below_drew1) | exact HB.out)) hb); have n1_ := Aside0.mk (hbox); have n2_ := Aside0.mk ((by rw [hg]; exact (below_size (by repeat (first | (with_reducible first | exact HB.out | apply below_alloc | apply pw_below_drewN | apply below_drew1) | exact HB.out))) : w.heap.size ≤ gb372)); have n3_ := Aside0.mk ((by rw [hg]; exact (below_size (by repeat (first | (with_reducible first | exact HB.out | apply below_alloc | apply pw_below_drewN | apply below_drew1) | exact HB.out))) : w.heap.size ≤ gb372)); clear HB; have HB := n0_; have BK372 := n1_; have GW372 := n2_; have GE372 := n3_; clear n0_ n1_ n2_ n3_; clear hb hbox hg; have hcz6_0 : w5.cell? ⟨gb372, 0, none⟩ = some (.int .i64 a0_0) := (blk_cell BK372.out 0).trans rfl; have hcz6_1 : w5.cell? ⟨gb372, 1, none⟩ = some (.slice A0_1 l0_1.length c0_1) := (blk_cell BK372.out 1).trans rfl; have hfz6_0 := blk_frozen BK372.out 0; have hfz6_1 := blk_frozen BK372.out 1) | ((with_reducible refine gate_callee (f := 20) rfl ?_); refine goesL_ (some 18) rfl rfl Try.func20 (by kernel_rfl) rfl #[.agg #[.int .i64 a0_0, .slice A0_1 l0_1.length c0_1], .int .i64 1048576] rfl (by (try simp only [List.map_toArray, List.map_cons, List.map_nil]); first | done | rfl | (simp only [List.length_drop, List.length_take]; rfl)) ?_; (with_reducible refine (laws_szBits.calls a0_0 _ _ l0_1 1048576 t373 _ ?side1 ?side2 A3.out).mono ?_); (case side1 => repeat (first | exact (Kd.C_below HR0_1.out HB.out) | (with_reducible refine Kd.C_alloc ?_ _) | (with_reducible refine Kd.C_drewN ?_ _) | (with_reducible refine Kd.C_drew ?_))); (case side2 => exact HC0_1.out); rintro e w7 ⟨rfl, hb⟩; refine ⟨_, rfl, ?_⟩; have n0_ := Aside0.mk (blk_below (g := gb372) (o := .cells #[.int .i64 a0_0, .slice A0_1 l0_1.length c0_1] 33 (0, 0)) (by (with_reducible repeat (first | refine blk_drewN ?_ _ | refine blk_drew ?_ | refine blk_alloc ?_ _)); exact BK372.out) hb); have n1_ := Aside0.mk (below_step (by repeat (first | (with_reducible first | exact HB.out | apply below_alloc | apply pw_below_drewN | apply below_drew1 | refine below_set ?_ GE372.out) | exact HB.out)) hb); clear BK372; clear HB; have BK372 := n0_; have HB := n1_; clear n0_ n1_; (try clear hb); (try clear hb2); (try clear hk); (try clear hi)))
   go_ret
   exact ⟨by first | rfl | (simp [errW_none, errW_some] <;> rfl) | (simp [*, errW_none, errW_some] <;> rfl), by repeat (first | (with_reducible first | exact HB.out | apply below_alloc | apply pw_below_drewN | apply below_drew1 | refine below_set ?_ GE372.out) | exact HB.out)⟩
  ·rw [if_neg c4] at H
   have c4b0 : decide (t373 < 0) = false := decide_eq_false c4
   clear c4
   replace H := Option.bind_eq_some_iff.mp H
   obtain ⟨⟨t374, t375⟩, A80, H⟩ := H
   replace H : ((spec_DecodeGamma.f k t374 t375 a1).bind fun bt378 => ((laws_toBits.f k a0_0 l0_1).bind fun bt382 => ((impl_DecodeGamma.f k bt382.1 bt382.2 a1).bind fun bt387 => ((laws_eqIntS.f k bt387.1 bt378.1).bind fun t391 => (if t391 = true then (if (bt387.2 != bt378.2) = true then (none) else ((laws_toBits.f k a0_0 l0_1).bind fun bt392 => ((laws_eqBits.f k bt382.1 bt382.2 bt392.1 bt392.2).bind fun t396 => (if t396 = true then ((laws_markBits.f k bt382.1 bt382.2 1).bind fun bt397 => (if bt397.1 < 0 then (none) else ((laws_eqIntS.f k bt387.1 bt378.1).bind fun t399 => (if t399 = true then ((laws_markIntS.f k bt387.1 1).bind fun bt400 => ((laws_heldIntS.f k bt400.2 1).bind fun t402 => (if t402 < 0 then (none) else (if t402 = bt400.1 then ((laws_toBits.f k a0_0 l0_1).bind fun bt403 => ((impl_DecodeGamma.f k bt403.1 bt403.2 a1).bind fun bt407 => ((laws_eqIntS.f k bt407.1 bt378.1).bind fun t411 => (if t411 = true then (if (bt407.2 != bt378.2) = true then (none) else ((laws_heldIntS.f k bt400.2 1).bind fun t412 => (if t412 < 0 then (none) else (if t412 = bt400.1 then (some true) else (none))))) else (none))))) else (none))))) else (none))))) else (none))))) else (none)))))) = some r := H
   have A8 := Aside0.mk A80
   clear A80
   replace H := Option.bind_eq_some_iff.mp H
   obtain ⟨⟨t378, t381⟩, A90, H⟩ := H
   replace H : ((laws_toBits.f k a0_0 l0_1).bind fun bt382 => ((impl_DecodeGamma.f k bt382.1 bt382.2 a1).bind fun bt387 => ((laws_eqIntS.f k bt387.1 t378).bind fun t391 => (if t391 = true then (if (bt387.2 != t381) = true then (none) else ((laws_toBits.f k a0_0 l0_1).bind fun bt392 => ((laws_eqBits.f k bt382.1 bt382.2 bt392.1 bt392.2).bind fun t396 => (if t396 = true then ((laws_markBits.f k bt382.1 bt382.2 1).bind fun bt397 => (if bt397.1 < 0 then (none) else ((laws_eqIntS.f k bt387.1 t378).bind fun t399 => (if t399 = true then ((laws_markIntS.f k bt387.1 1).bind fun bt400 => ((laws_heldIntS.f k bt400.2 1).bind fun t402 => (if t402 < 0 then (none) else (if t402 = bt400.1 then ((laws_toBits.f k a0_0 l0_1).bind fun bt403 => ((impl_DecodeGamma.f k bt403.1 bt403.2 a1).bind fun bt407 => ((laws_eqIntS.f k bt407.1 t378).bind fun t411 => (if t411 = true then (if (bt407.2 != t381) = true then (none) else ((laws_heldIntS.f k bt400.2 1).bind fun t412 => (if t412 < 0 then (none) else (if t412 = bt400.1 then (some true) else (none))))) else (none))))) else (none))))) else (none))))) else (none))))) else (none))))) = some r := H
   have A9 := Aside0.mk A90
   clear A90
   replace H := Option.bind_eq_some_iff.mp H
   obtain ⟨⟨t382, t383⟩, A100, H⟩ := H
   replace H : ((impl_DecodeGamma.f k t382 t383 a1).bind fun bt387 => ((laws_eqIntS.f k bt387.1 t378).bind fun t391 => (if t391 = true then (if (bt387.2 != t381) = true then (none) else ((laws_toBits.f k a0_0 l0_1).bind fun bt392 => ((laws_eqBits.f k t382 t383 bt392.1 bt392.2).bind fun t396 => (if t396 = true then ((laws_markBits.f k t382 t383 1).bind fun bt397 => (if bt397.1 < 0 then (none) else ((laws_eqIntS.f k bt387.1 t378).bind fun t399 => (if t399 = true then ((laws_markIntS.f k bt387.1 1).bind fun bt400 => ((laws_heldIntS.f k bt400.2 1).bind fun t402 => (if t402 < 0 then (none) else (if t402 = bt400.1 then ((laws_toBits.f k a0_0 l0_1).bind fun bt403 => ((impl_DecodeGamma.f k bt403.1 bt403.2 a1).bind fun bt407 => ((laws_eqIntS.f k bt407.1 t378).bind fun t411 => (if t411 = true then (if (bt407.2 != t381) = true then (none) else ((laws_heldIntS.f k bt400.2 1).bind fun t412 => (if t412 < 0 then (none) else (if t412 = bt400.1 then (some true) else (none))))) else (none))))) else (none))))) else (none))))) else (none))))) else (none)))) = some r := H
   have A10 := Aside0.mk A100
   clear A100
   replace H := Option.bind_eq_some_iff.mp H
   obtain ⟨⟨t387, t390⟩, A110, H⟩ := H
   replace H : ((laws_eqIntS.f k t387 t378).bind fun t391 => (if t391 = true then (if (t390 != t381) = true then (none) else ((laws_toBits.f k a0_0 l0_1).bind fun bt392 => ((laws_eqBits.f k t382 t383 bt392.1 bt392.2).bind fun t396 => (if t396 = true then ((laws_markBits.f k t382 t383 1).bind fun bt397 => (if bt397.1 < 0 then (none) else ((laws_eqIntS.f k t387 t378).bind fun t399 => (if t399 = true then ((laws_markIntS.f k t387 1).bind fun bt400 => ((laws_heldIntS.f k bt400.2 1).bind fun t402 => (if t402 < 0 then (none) else (if t402 = bt400.1 then ((laws_toBits.f k a0_0 l0_1).bind fun bt403 => ((impl_DecodeGamma.f k bt403.1 bt403.2 a1).bind fun bt407 => ((laws_eqIntS.f k bt407.1 t378).bind fun t411 => (if t411 = true then (if (bt407.2 != t381) = true then (none) else ((laws_heldIntS.f k bt400.2 1).bind fun t412 => (if t412 < 0 then (none) else (if t412 = bt400.1 then (some true) else (none))))) else (none))))) else (none))))) else (none))))) else (none))))) else (none))) = some r := H
   have A11 := Aside0.mk A110
   clear A110
   replace H := Option.bind_eq_some_iff.mp H
   obtain ⟨t391, A120, H⟩ := H
   replace H : (if t391 = true then (if (t390 != t381) = true then (none) else ((laws_toBits.f k a0_0 l0_1).bind fun bt392 => ((laws_eqBits.f k t382 t383 bt392.1 bt392.2).bind fun t396 => (if t396 = true then ((laws_markBits.f k t382 t383 1).bind fun bt397 => (if bt397.1 < 0 then (none) else ((laws_eqIntS.f k t387 t378).bind fun t399 => (if t399 = true then ((laws_markIntS.f k t387 1).bind fun bt400 => ((laws_heldIntS.f k bt400.2 1).bind fun t402 => (if t402 < 0 then (none) else (if t402 = bt400.1 then ((laws_toBits.f k a0_0 l0_1).bind fun bt403 => ((impl_DecodeGamma.f k bt403.1 bt403.2 a1).bind fun bt407 => ((laws_eqIntS.f k bt407.1 t378).bind fun t411 => (if t411 = true then (if (bt407.2 != t381) = true then (none) else ((laws_heldIntS.f k bt400.2 1).bind fun t412 => (if t412 < 0 then (none) else (if t412 = bt400.1 then (some true) else (none))))) else (none))))) else (none))))) else (none))))) else (none))))) else (none)) = some r := H
   have A12 := Aside0.mk A120
   clear A120
   by_cases c13 : t391 = true
   ·subst c13
    have H1 : (if (t390 != t381) = true then (none) else ((laws_toBits.f k a0_0 l0_1).bind fun bt392 => ((laws_eqBits.f k t382 t383 bt392.1 bt392.2).bind fun t396 => (if t396 = true then ((laws_markBits.f k t382 t383 1).bind fun bt397 => (if bt397.1 < 0 then (none) else ((laws_eqIntS.f k t387 t378).bind fun t399 => (if t399 = true then ((laws_markIntS.f k t387 1).bind fun bt400 => ((laws_heldIntS.f k bt400.2 1).bind fun t402 => (if t402 < 0 then (none) else (if t402 = bt400.1 then ((laws_toBits.f k a0_0 l0_1).bind fun bt403 => ((impl_DecodeGamma.f k bt403.1 bt403.2 a1).bind fun bt407 => ((laws_eqIntS.f k bt407.1 t378).bind fun t411 => (if t411 = true then (if (bt407.2 != t381) = true then (none) else ((laws_heldIntS.f k bt400.2 1).bind fun t412 => (if t412 < 0 then (none) else (if t412 = bt400.1 then (some true) else (none))))) else (none))))) else (none))))) else (none))))) else (none))))) = some r := by rw [if_pos rfl] at H; exact H
    clear H
    have H := H1
    clear H1
    by_cases c14 : (t390 != t381) = true
    ·rw [if_pos c14] at H
     exact absurd H (by simp)
    ·rw [if_neg c14] at H
     have c14b0 : (t390 != t381) = false := by simpa using c14
     (try (have c14b1 : decide (t390 = t381) = true := by simpa using c14))
     (try (have c14b2 : (t390 == t381) = true := by simpa using c14))
     clear c14
     replace H := Option.bind_eq_some_iff.mp H
     obtain ⟨⟨t392, t393⟩, A150, H⟩ := H
     replace H : ((laws_eqBits.f k t382 t383 t392 t393).bind fun t396 => (if t396 = true then ((laws_markBits.f k t382 t383 1).bind fun bt397 => (if bt397.1 < 0 then (none) else ((laws_eqIntS.f k t387 t378).bind fun t399 => (if t399 = true then ((laws_markIntS.f k t387 1).bind fun bt400 => ((laws_heldIntS.f k bt400.2 1).bind fun t402 => (if t402 < 0 then (none) else (if t402 = bt400.1 then ((laws_toBits.f k a0_0 l0_1).bind fun bt403 => ((impl_DecodeGamma.f k bt403.1 bt403.2 a1).bind fun bt407 => ((laws_eqIntS.f k bt407.1 t378).bind fun t411 => (if t411 = true then (if (bt407.2 != t381) = true then (none) else ((laws_heldIntS.f k bt400.2 1).bind fun t412 => (if t412 < 0 then (none) else (if t412 = bt400.1 then (some true) else (none))))) else (none))))) else (none))))) else (none))))) else (none))) = some r := H
     have A15 := Aside0.mk A150
     clear A150
     replace H := Option.bind_eq_some_iff.mp H
     obtain ⟨t396, A160, H⟩ := H
     replace H : (if t396 = true then ((laws_markBits.f k t382 t383 1).bind fun bt397 => (if bt397.1 < 0 then (none) else ((laws_eqIntS.f k t387 t378).bind fun t399 => (if t399 = true then ((laws_markIntS.f k t387 1).bind fun bt400 => ((laws_heldIntS.f k bt400.2 1).bind fun t402 => (if t402 < 0 then (none) else (if t402 = bt400.1 then ((laws_toBits.f k a0_0 l0_1).bind fun bt403 => ((impl_DecodeGamma.f k bt403.1 bt403.2 a1).bind fun bt407 => ((laws_eqIntS.f k bt407.1 t378).bind fun t411 => (if t411 = true then (if (bt407.2 != t381) = true then (none) else ((laws_heldIntS.f k bt400.2 1).bind fun t412 => (if t412 < 0 then (none) else (if t412 = bt400.1 then (some true) else (none))))) else (none))))) else (none))))) else (none))))) else (none)) = some r := H
     have A16 := Aside0.mk A160
     clear A160
     by_cases c17 : t396 = true
     ·subst c17
      have H1 : ((laws_markBits.f k t382 t383 1).bind fun bt397 => (if bt397.1 < 0 then (none) else ((laws_eqIntS.f k t387 t378).bind fun t399 => (if t399 = true then ((laws_markIntS.f k t387 1).bind fun bt400 => ((laws_heldIntS.f k bt400.2 1).bind fun t402 => (if t402 < 0 then (none) else (if t402 = bt400.1 then ((laws_toBits.f k a0_0 l0_1).bind fun bt403 => ((impl_DecodeGamma.f k bt403.1 bt403.2 a1).bind fun bt407 => ((laws_eqIntS.f k bt407.1 t378).bind fun t411 => (if t411 = true then (if (bt407.2 != t381) = true then (none) else ((laws_heldIntS.f k bt400.2 1).bind fun t412 => (if t412 < 0 then (none) else (if t412 = bt400.1 then (some true) else (none))))) else (none))))) else (none))))) else (none))))) = some r := by rw [if_pos rfl] at H; exact H
      clear H
      have H := H1
      clear H1
      replace H := Option.bind_eq_some_iff.mp H
      obtain ⟨⟨t397, t398⟩, A180, H⟩ := H
      replace H : (if t397 < 0 then (none) else ((laws_eqIntS.f k t387 t378).bind fun t399 => (if t399 = true then ((laws_markIntS.f k t387 1).bind fun bt400 => ((laws_heldIntS.f k bt400.2 1).bind fun t402 => (if t402 < 0 then (none) else (if t402 = bt400.1 then ((laws_toBits.f k a0_0 l0_1).bind fun bt403 => ((impl_DecodeGamma.f k bt403.1 bt403.2 a1).bind fun bt407 => ((laws_eqIntS.f k bt407.1 t378).bind fun t411 => (if t411 = true then (if (bt407.2 != t381) = true then (none) else ((laws_heldIntS.f k bt400.2 1).bind fun t412 => (if t412 < 0 then (none) else (if t412 = bt400.1 then (some true) else (none))))) else (none))))) else (none))))) else (none)))) = some r := H
      have A18 := Aside0.mk A180
      clear A180
      by_cases c19 : t397 < 0
      ·rw [if_pos c19] at H
       exact absurd H (by simp)
      ·rw [if_neg c19] at H
       have c19b0 : decide (t397 < 0) = false := decide_eq_false c19
       clear c19
       replace H := Option.bind_eq_some_iff.mp H
       obtain ⟨t399, A200, H⟩ := H
       replace H : (if t399 = true then ((laws_markIntS.f k t387 1).bind fun bt400 => ((laws_heldIntS.f k bt400.2 1).bind fun t402 => (if t402 < 0 then (none) else (if t402 = bt400.1 then ((laws_toBits.f k a0_0 l0_1).bind fun bt403 => ((impl_DecodeGamma.f k bt403.1 bt403.2 a1).bind fun bt407 => ((laws_eqIntS.f k bt407.1 t378).bind fun t411 => (if t411 = true then (if (bt407.2 != t381) = true then (none) else ((laws_heldIntS.f k bt400.2 1).bind fun t412 => (if t412 < 0 then (none) else (if t412 = bt400.1 then (some true) else (none))))) else (none))))) else (none))))) else (none)) = some r := H
       have A20 := Aside0.mk A200
       clear A200
       by_cases c21 : t399 = true
       ·subst c21
        have H1 : ((laws_markIntS.f k t387 1).bind fun bt400 => ((laws_heldIntS.f k bt400.2 1).bind fun t402 => (if t402 < 0 then (none) else (if t402 = bt400.1 then ((laws_toBits.f k a0_0 l0_1).bind fun bt403 => ((impl_DecodeGamma.f k bt403.1 bt403.2 a1).bind fun bt407 => ((laws_eqIntS.f k bt407.1 t378).bind fun t411 => (if t411 = true then (if (bt407.2 != t381) = true then (none) else ((laws_heldIntS.f k bt400.2 1).bind fun t412 => (if t412 < 0 then (none) else (if t412 = bt400.1 then (some true) else (none))))) else (none))))) else (none))))) = some r := by rw [if_pos rfl] at H; exact H
        clear H
        have H := H1
        clear H1
        replace H := Option.bind_eq_some_iff.mp H
        obtain ⟨⟨t400, t401⟩, A220, H⟩ := H
        replace H : ((laws_heldIntS.f k t401 1).bind fun t402 => (if t402 < 0 then (none) else (if t402 = t400 then ((laws_toBits.f k a0_0 l0_1).bind fun bt403 => ((impl_DecodeGamma.f k bt403.1 bt403.2 a1).bind fun bt407 => ((laws_eqIntS.f k bt407.1 t378).bind fun t411 => (if t411 = true then (if (bt407.2 != t381) = true then (none) else ((laws_heldIntS.f k t401 1).bind fun t412 => (if t412 < 0 then (none) else (if t412 = t400 then (some true) else (none))))) else (none))))) else (none)))) = some r := H
        have A22 := Aside0.mk A220
        clear A220
        replace H := Option.bind_eq_some_iff.mp H
        obtain ⟨t402, A230, H⟩ := H
        replace H : (if t402 < 0 then (none) else (if t402 = t400 then ((laws_toBits.f k a0_0 l0_1).bind fun bt403 => ((impl_DecodeGamma.f k bt403.1 bt403.2 a1).bind fun bt407 => ((laws_eqIntS.f k bt407.1 t378).bind fun t411 => (if t411 = true then (if (bt407.2 != t381) = true then (none) else ((laws_heldIntS.f k t401 1).bind fun t412 => (if t412 < 0 then (none) else (if t412 = t400 then (some true) else (none))))) else (none))))) else (none))) = some r := H
        have A23 := Aside0.mk A230
        clear A230
        by_cases c24 : t402 < 0
        ·rw [if_pos c24] at H
         exact absurd H (by simp)
        ·rw [if_neg c24] at H
         have c24b0 : decide (t402 < 0) = false := decide_eq_false c24
         clear c24
         by_cases c25 : t402 = t400
         ·rw [if_pos c25] at H
          have c25b0 : (t402 == t400) = true := beq_iff_eq.mpr c25
          have c25b1 : (t402 != t400) = false := bne_eq_false_iff_eq.mpr c25
          clear c25
          replace H := Option.bind_eq_some_iff.mp H
          obtain ⟨⟨t403, t404⟩, A260, H⟩ := H
          replace H : ((impl_DecodeGamma.f k t403 t404 a1).bind fun bt407 => ((laws_eqIntS.f k bt407.1 t378).bind fun t411 => (if t411 = true then (if (bt407.2 != t381) = true then (none) else ((laws_heldIntS.f k t401 1).bind fun t412 => (if t412 < 0 then (none) else (if t412 = t400 then (some true) else (none))))) else (none)))) = some r := H
          have A26 := Aside0.mk A260
          clear A260
          replace H := Option.bind_eq_some_iff.mp H
          obtain ⟨⟨t407, t410⟩, A270, H⟩ := H
          replace H : ((laws_eqIntS.f k t407 t378).bind fun t411 => (if t411 = true then (if (t410 != t381) = true then (none) else ((laws_heldIntS.f k t401 1).bind fun t412 => (if t412 < 0 then (none) else (if t412 = t400 then (some true) else (none))))) else (none))) = some r := H
          have A27 := Aside0.mk A270
          clear A270
          replace H := Option.bind_eq_some_iff.mp H
          obtain ⟨t411, A280, H⟩ := H
          replace H : (if t411 = true then (if (t410 != t381) = true then (none) else ((laws_heldIntS.f k t401 1).bind fun t412 => (if t412 < 0 then (none) else (if t412 = t400 then (some true) else (none))))) else (none)) = some r := H
          have A28 := Aside0.mk A280
          clear A280
          by_cases c29 : t411 = true
          ·subst c29
           have H1 : (if (t410 != t381) = true then (none) else ((laws_heldIntS.f k t401 1).bind fun t412 => (if t412 < 0 then (none) else (if t412 = t400 then (some true) else (none))))) = some r := by rw [if_pos rfl] at H; exact H
           clear H
           have H := H1
           clear H1
           by_cases c30 : (t410 != t381) = true
           ·rw [if_pos c30] at H
            exact absurd H (by simp)
           ·rw [if_neg c30] at H
            have c30b0 : (t410 != t381) = false := by simpa using c30
            (try (have c30b1 : decide (t410 = t381) = true := by simpa using c30))
            (try (have c30b2 : (t410 == t381) = true := by simpa using c30))
            clear c30
            replace H := Option.bind_eq_some_iff.mp H
            obtain ⟨t412, A310, H⟩ := H
            replace H : (if t412 < 0 then (none) else (if t412 = t400 then (some true) else (none))) = some r := H
            have A31 := Aside0.mk A310
            clear A310
            by_cases c32 : t412 < 0
            ·rw [if_pos c32] at H
             exact absurd H (by simp)
            ·rw [if_neg c32] at H
             have c32b0 : decide (t412 < 0) = false := decide_eq_false c32
             clear c32
             by_cases c33 : t412 = t400
             ·rw [if_pos c33] at H
              have c33b0 : (t412 == t400) = true := beq_iff_eq.mpr c33
              have c33b1 : (t412 != t400) = false := bne_eq_false_iff_eq.mpr c33
              clear c33
              obtain rfl := Option.some.inj H
              go_enter Try.func5, Try.ntmps5
              try go_wp2_with (first | ((with_reducible refine gate_dst (N := 2) rfl ?_); refine box_event ?hg (N := 2) ?hd (cs := #[.int .i64 a0_0, .slice A0_1 l0_1.length c0_1]) (t := 33) ?hr ?_; (case hd => rfl); (case hg => rfl); (case hr => first | (go_simp; done) | (go_simp; rfl)); intro gb372 hg w34 hbox hb; have n0_ := Aside0.mk (below_step (by repeat (first | (with_reducible first | exact HB.out | apply below_alloc | apply pw_below_drewN | apply below_drew1) | exact HB.out)) hb); have n1_ := Aside0.mk (hbox); have n2_ := Aside0.mk ((by rw [hg]; exact (below_size (by repeat (first | (with_reducible first | exact HB.out | apply below_alloc | apply pw_below_drewN | apply below_drew1) | exact HB.out))) : w.heap.size ≤ gb372)); have n3_ := Aside0.mk ((by rw [hg]; exact (below_size (by repeat (first | (with_reducible first | exact HB.out | apply below_alloc | apply pw_below_drewN | apply below_drew1) | exact HB.out))) : w.heap.size ≤ gb372)); clear HB; have HB := n0_; have BK372 := n1_; have GW372 := n2_; have GE372 := n3_; clear n0_ n1_ n2_ n3_; clear hb hbox hg; have hcz35_0 : w34.cell? ⟨gb372, 0, none⟩ = some (.int .i64 a0_0) := (blk_cell BK372.out 0).trans rfl; have hcz35_1 : w34.cell? ⟨gb372, 1, none⟩ = some (.slice A0_1 l0_1.length c0_1) := (blk_cell BK372.out 1).trans rfl; have hfz35_0 := blk_frozen BK372.out 0; have hfz35_1 := blk_frozen BK372.out 1) | ((with_reducible refine gate_callee (f := 20) rfl ?_); refine goesL_ (some 18) rfl rfl Try.func20 (by kernel_rfl) rfl #[.agg #[.int .i64 a0_0, .slice A0_1 l0_1.length c0_1], .int .i64 1048576] rfl (by (try simp only [List.map_toArray, List.map_cons, List.map_nil]); first | done | rfl | (simp only [List.length_drop, List.length_take]; rfl)) ?_; (with_reducible refine (laws_szBits.calls a0_0 _ _ l0_1 1048576 t373 _ ?side1 ?side2 A3.out).mono ?_); (case side1 => repeat (first | exact (Kd.C_below HR0_1.out HB.out) | (with_reducible refine Kd.C_alloc ?_ _) | (with_reducible refine Kd.C_drewN ?_ _) | (with_reducible refine Kd.C_drew ?_))); (case side2 => exact HC0_1.out); rintro e w36 ⟨rfl, hb⟩; refine ⟨_, rfl, ?_⟩; have n0_ := Aside0.mk (blk_below (g := gb372) (o := .cells #[.int .i64 a0_0, .slice A0_1 l0_1.length c0_1] 33 (0, 0)) (by (with_reducible repeat (first | refine blk_drewN ?_ _ | refine blk_drew ?_ | refine blk_alloc ?_ _)); exact BK372.out) hb); have n1_ := Aside0.mk (below_step (by repeat (first | (with_reducible first | exact HB.out | apply below_alloc | apply pw_below_drewN | apply below_drew1 | refine below_set ?_ GE372.out) | exact HB.out)) hb); clear BK372; clear HB; have BK372 := n0_; have HB := n1_; clear n0_ n1_; (try clear hb); (try clear hb2); (try clear hk); (try clear hi); have hcz37_0 : w36.cell? ⟨gb372, 0, none⟩ = some (.int .i64 a0_0) := (blk_cell BK372.out 0).trans rfl; have hcz37_1 : w36.cell? ⟨gb372, 1, none⟩ = some (.slice A0_1 l0_1.length c0_1) := (blk_cell BK372.out 1).trans rfl; have hfz37_0 := blk_frozen BK372.out 0; have hfz37_1 := blk_frozen BK372.out 1) | ((with_reducible refine gate_callee (f := 22) rfl ?_); refine goesL_ (some 23) rfl rfl Try.func22 (by kernel_rfl) rfl #[.agg #[.int .i64 a0_0, .slice A0_1 l0_1.length c0_1]] rfl (by (try simp only [List.map_toArray, List.map_cons, List.map_nil]); first | done | rfl | (simp only [List.length_drop, List.length_take]; rfl)) ?_; (with_reducible refine (laws_toBits.calls k a0_0 _ _ l0_1 t374 t375 _ ?side1 ?side2 A8.out).mono ?_); (case side1 => repeat (first | exact (Kd.C_below HR0_1.out HB.out) | (with_reducible refine Kd.C_alloc ?_ _) | (with_reducible refine Kd.C_drewN ?_ _) | (with_reducible refine Kd.C_drew ?_))); (case side2 => exact HC0_1.out); rintro e w38 ⟨v376, rfl, ho0, hb⟩; refine ⟨_, rfl, ?_⟩; have n0_ := Aside0.mk (Kd.R_lower ho0 (below_size (by repeat (first | (with_reducible first | exact HB.out | apply below_alloc | apply pw_below_drewN | apply below_drew1 | refine below_set ?_ GE372.out) | exact HB.out)))); have n1_ := Aside0.mk (blk_below (g := gb372) (o := .cells #[.int .i64 a0_0, .slice A0_1 l0_1.length c0_1] 33 (0, 0)) (by (with_reducible repeat (first | refine blk_drewN ?_ _ | refine blk_drew ?_ | refine blk_alloc ?_ _)); exact BK372.out) hb); have n2_ := Aside0.mk (below_step (by repeat (first | (with_reducible first | exact HB.out | apply below_alloc | apply pw_below_drewN | apply below_drew1 | refine below_set ?_ GE372.out) | exact HB.out)) hb); clear BK372; clear HB; have HO377 := n0_; have BK372 := n1_; have HB := n2_; clear n0_ n1_ n2_; (try clear hb); (try clear hb2); (try clear hk); (try clear hi); (try clear ho0); obtain ⟨Ao39, co39, eo39⟩ := Kd.R_slice HO377.out; subst eo39) | ((with_reducible refine gate_callee (f := 21) rfl ?_); refine goesL_ (some 25) rfl rfl Try.func21 (by kernel_rfl) rfl #[.agg #[.int .i64 t374, .slice Ao39 t375.length co39], .int .i64 a1] rfl (by (try simp only [List.map_toArray, List.map_cons, List.map_nil]); first | done | rfl | (simp only [List.length_drop, List.length_take]; rfl)) ?_; (with_reducible refine (spec_DecodeGamma.calls k t374 _ _ t375 a1 t378 t381 _ ?side1 ?side2 A9.out).mono ?_); (case side1 => repeat (first | exact (Kd.R_reads' HO377.out).2.2 | (with_reducible refine Kd.C_alloc ?_ _) | (with_reducible refine Kd.C_drewN ?_ _) | (with_reducible refine Kd.C_drew ?_))); (case side2 => exact (Kd.R_reads' HO377.out).2.1); rintro e w40 ⟨v379, rfl, ho0, hb⟩; refine ⟨_, rfl, ?_⟩; have n0_ := Aside0.mk (Kd.R_elder' (by (with_reducible repeat (first | apply Kd.R_alloc | apply Kd.R_drewN | apply Kd.R_drew)); exact HO377.out) (Kd.R_base ho0) hb); have n1_ := Aside0.mk (Kd.R_lower (Kd.R_new' ho0 (Kd.R_lt (by (with_reducible repeat (first | apply Kd.R_alloc | apply Kd.R_drewN | apply Kd.R_drew)); exact HO377.out))) (below_size (by repeat (first | (with_reducible first | exact HB.out | apply below_alloc | apply pw_below_drewN | apply below_drew1 | refine below_set ?_ GE372.out) | exact HB.out)))); have n2_ := Aside0.mk (blk_below (g := gb372) (o := .cells #[.int .i64 a0_0, .slice A0_1 l0_1.length c0_1] 33 (0, 0)) (by (with_reducible repeat (first | refine blk_drewN ?_ _ | refine blk_drew ?_ | refine blk_alloc ?_ _)); exact BK372.out) hb); have n3_ := Aside0.mk (below_step (by repeat (first | (with_reducible first | exact HB.out | apply below_alloc | apply pw_below_drewN | apply below_drew1 | refine below_set ?_ GE372.out) | exact HB.out)) hb); clear HO377; clear BK372; clear HB; have HO377 := n0_; have HO380 := n1_; have BK372 := n2_; have HB := n3_; clear n0_ n1_ n2_ n3_; (try clear hb); (try clear hb2); (try clear hk); (try clear hi); (try clear ho0); have hcz41_0 : w40.cell? ⟨gb372, 0, none⟩ = some (.int .i64 a0_0) := (blk_cell BK372.out 0).trans rfl; have hcz41_1 : w40.cell? ⟨gb372, 1, none⟩ = some (.slice A0_1 l0_1.length c0_1) := (blk_cell BK372.out 1).trans rfl; have hfz41_0 := blk_frozen BK372.out 0; have hfz41_1 := blk_frozen BK372.out 1) | ((with_reducible refine gate_callee (f := 22) rfl ?_); refine goesL_ (some 29) rfl rfl Try.func22 (by kernel_rfl) rfl #[.agg #[.int .i64 a0_0, .slice A0_1 l0_1.length c0_1]] rfl (by (try simp only [List.map_toArray, List.map_cons, List.map_nil]); first | done | rfl | (simp only [List.length_drop, List.length_take]; rfl)) ?_; (with_reducible refine (laws_toBits.calls k a0_0 _ _ l0_1 t382 t383 _ ?side1 ?side2 A10.out).mono ?_); (case side1 => repeat (first | exact (Kd.C_below HR0_1.out HB.out) | (with_reducible refine Kd.C_alloc ?_ _) | (with_reducible refine Kd.C_drewN ?_ _) | (with_reducible refine Kd.C_drew ?_))); (case side2 => exact HC0_1.out); rintro e w42 ⟨v384, rfl, ho0, hb⟩; refine ⟨_, rfl, ?_⟩; have n0_ := Aside0.mk (Kd.R_elder' (by (with_reducible repeat (first | apply Kd.R_alloc | apply Kd.R_drewN | apply Kd.R_drew)); exact HO377.out) (Kd.R_base ho0) hb); have n1_ := Aside0.mk (Kd.R_elder' (by (with_reducible repeat (first | apply Kd.R_alloc | apply Kd.R_drewN | apply Kd.R_drew)); exact HO380.out) (Kd.R_base ho0) hb); have n2_ := Aside0.mk (Kd.R_lower (Kd.R_new' (Kd.R_new' ho0 (Kd.R_lt (by (with_reducible repeat (first | apply Kd.R_alloc | apply Kd.R_drewN | apply Kd.R_drew)); exact HO377.out))) (Kd.R_lt (by (with_reducible repeat (first | apply Kd.R_alloc | apply Kd.R_drewN | apply Kd.R_drew)); exact HO380.out))) (below_size (by repeat (first | (with_reducible first | exact HB.out | apply below_alloc | apply pw_below_drewN | apply below_drew1 | refine below_set ?_ GE372.out) | exact HB.out)))); have n3_ := Aside0.mk (blk_below (g := gb372) (o := .cells #[.int .i64 a0_0, .slice A0_1 l0_1.length c0_1] 33 (0, 0)) (by (with_reducible repeat (first | refine blk_drewN ?_ _ | refine blk_drew ?_ | refine blk_alloc ?_ _)); exact BK372.out) hb); have n4_ := Aside0.mk (below_step (by repeat (first | (with_reducible first | exact HB.out | apply below_alloc | apply pw_below_drewN | apply below_drew1 | refine below_set ?_ GE372.out) | exact HB.out)) hb); clear HO377; clear HO380; clear BK372; clear HB; have HO377 := n0_; have HO380 := n1_; have HO385 := n2_; have BK372 := n3_; have HB := n4_; clear n0_ n1_ n2_ n3_ n4_; (try clear hb); (try clear hb2); (try clear hk); (try clear hi); (try clear ho0)) | ((with_reducible refine gate_dst (N := 8) rfl ?_); refine box_event ?hg (N := 8) ?hd (cs := #[.int .i64 0, .slice none 0 0]) (t := 24) ?hr ?_; (case hd => rfl); (case hg => rfl); (case hr => first | (go_simp; done) | (go_simp; rfl)); intro gb386 hg w43 hbox hb; have n0_ := Aside0.mk (Kd.R_below (by (with_reducible repeat (first | apply Kd.R_alloc | apply Kd.R_drewN | apply Kd.R_drew)); exact HO377.out) hb); have n1_ := Aside0.mk (Kd.R_below (by (with_reducible repeat (first | apply Kd.R_alloc | apply Kd.R_drewN | apply Kd.R_drew)); exact HO380.out) hb); have n2_ := Aside0.mk (Kd.R_below (by (with_reducible repeat (first | apply Kd.R_alloc | apply Kd.R_drewN | apply Kd.R_drew)); exact HO385.out) hb); have n3_ := Aside0.mk (blk_below (g := gb372) (o := .cells #[.int .i64 a0_0, .slice A0_1 l0_1.length c0_1] 33 (0, 0)) (by (with_reducible repeat (first | refine blk_drewN ?_ _ | refine blk_drew ?_ | refine blk_alloc ?_ _)); exact BK372.out) hb); have n4_ := Aside0.mk (below_step (by repeat (first | (with_reducible first | exact HB.out | apply below_alloc | apply pw_below_drewN | apply below_drew1 | refine below_set ?_ GE372.out) | exact HB.out)) hb); have n5_ := Aside0.mk (hbox); have n6_ := Aside0.mk ((by rw [hg]; exact (below_size (by repeat (first | (with_reducible first | exact HB.out | apply below_alloc | apply pw_below_drewN | apply below_drew1 | refine below_set ?_ GE372.out) | exact HB.out))) : w.heap.size ≤ gb386)); have n7_ := Aside0.mk ((by rw [hg]; exact (below_size (by repeat (first | (with_reducible first | exact HB.out | apply below_alloc | apply pw_below_drewN | apply below_drew1 | refine below_set ?_ GE372.out) | exact HB.out))) : w.heap.size ≤ gb386)); have n8_ := Aside0.mk ((by rw [hg]; exact Nat.ne_of_lt (blk_lt (g := gb372) (o := .cells #[.int .i64 a0_0, .slice A0_1 l0_1.length c0_1] 33 (0, 0)) (by (with_reducible repeat (first | refine blk_drewN ?_ _ | refine blk_drew ?_ | refine blk_alloc ?_ _)); exact BK372.out)) : gb372 ≠ gb386)); have n9_ := Aside0.mk ((by rw [hg]; exact Nat.ne_of_gt (blk_lt (g := gb372) (o := .cells #[.int .i64 a0_0, .slice A0_1 l0_1.length c0_1] 33 (0, 0)) (by (with_reducible repeat (first | refine blk_drewN ?_ _ | refine blk_drew ?_ | refine blk_alloc ?_ _)); exact BK372.out)) : gb386 ≠ gb372)); clear HO377; clear HO380; clear HO385; clear BK372; clear HB; have HO377 := n0_; have HO380 := n1_; have HO385 := n2_; have BK372 := n3_; have HB := n4_; have BK386 := n5_; have GW386 := n6_; have GE386 := n7_; have NB372_386 := n8_; have NB386_372 := n9_; clear n0_ n1_ n2_ n3_ n4_ n5_ n6_ n7_ n8_ n9_; clear hb hbox hg; have hnb44 := NB386_372.out; have hnc44 := NB372_386.out; have hcz45_0 : w43.cell? ⟨gb386, 0, none⟩ = some (.int .i64 0) := (blk_cell BK386.out 0).trans rfl; have hcz45_1 : w43.cell? ⟨gb386, 1, none⟩ = some (.slice none 0 0) := (blk_cell BK386.out 1).trans rfl; have hfz45_0 := blk_frozen BK386.out 0; have hfz45_1 := blk_frozen BK386.out 1; obtain ⟨Ao46, co46, eo46⟩ := Kd.R_slice HO385.out; subst eo46) | ((with_reducible refine gate_callee (f := 23) rfl ?_); refine goesL_ (some 33) rfl rfl Try.func23 (by kernel_rfl) rfl #[.agg #[.int .i64 t382, .slice Ao46 t383.length co46], .int .i64 a1] rfl (by (try simp only [List.map_toArray, List.map_cons, List.map_nil]); first | done | rfl | (simp only [List.length_drop, List.length_take]; rfl)) ?_; (with_reducible refine (impl_DecodeGamma.calls k t382 _ _ t383 a1 t387 t390 _ ?side1 ?side2 A11.out).mono ?_); (case side1 => refine (Kd.R_reads' (e := 3) (base := w.heap.size) (ok := fun k_ => ((True ∧ some k_ ≠ (.slice Ao39 t375.length co39 : Value).ownBlock) ∧ some k_ ≠ (v379 : Value).ownBlock)) (n := t383.length) (c := co46) ?_).2.2; exact (by (with_reducible repeat (first | apply Kd.R_alloc | apply Kd.R_drewN | apply Kd.R_drew)); exact (Kd.R_mono (Kd.R_far (p := ⟨gb386, 1, none⟩) (Kd.R_far (p := ⟨gb386, 0, none⟩) (Kd.R_types HO385.out BK386.out (by decide)) (fun _ hk => hk.2) (.int .i64 t382)) (fun _ hk => hk.2) (.slice Ao46 t383.length co46)) (fun _ h_ => h_.1)))); (case side2 => exact (Kd.R_reads' HO385.out).2.1); rintro e w47 ⟨v388, rfl, ho0, hb⟩; refine ⟨_, rfl, ?_⟩; have n0_ := Aside0.mk (Kd.R_elder' (by (with_reducible repeat (first | apply Kd.R_alloc | apply Kd.R_drewN | apply Kd.R_drew)); exact (Kd.R_mono (Kd.R_far (p := ⟨gb386, 1, none⟩) (Kd.R_far (p := ⟨gb386, 0, none⟩) (Kd.R_types HO377.out BK386.out (by decide)) (fun _ hk => hk.2) (.int .i64 t382)) (fun _ hk => hk.2) (.slice Ao46 t383.length co46)) (fun _ h_ => h_.1))) (Kd.R_base ho0) hb); have n1_ := Aside0.mk (Kd.R_elder' (by (with_reducible repeat (first | apply Kd.R_alloc | apply Kd.R_drewN | apply Kd.R_drew)); exact (Kd.R_mono (Kd.R_far (p := ⟨gb386, 1, none⟩) (Kd.R_far (p := ⟨gb386, 0, none⟩) (Kd.R_types HO380.out BK386.out (by decide)) (fun _ hk => hk.2) (.int .i64 t382)) (fun _ hk => hk.2) (.slice Ao46 t383.length co46)) (fun _ h_ => h_.1))) (Kd.R_base ho0) hb); have n2_ := Aside0.mk (Kd.R_elder' (by (with_reducible repeat (first | apply Kd.R_alloc | apply Kd.R_drewN | apply Kd.R_drew)); exact (Kd.R_mono (Kd.R_far (p := ⟨gb386, 1, none⟩) (Kd.R_far (p := ⟨gb386, 0, none⟩) (Kd.R_types HO385.out BK386.out (by decide)) (fun _ hk => hk.2) (.int .i64 t382)) (fun _ hk => hk.2) (.slice Ao46 t383.length co46)) (fun _ h_ => h_.1))) (Kd.R_base ho0) hb); have n3_ := Aside0.mk (Kd.R_lower (Kd.R_new' (Kd.R_new' (Kd.R_new' ho0 (Kd.R_lt (by (with_reducible repeat (first | apply Kd.R_alloc | apply Kd.R_drewN | apply Kd.R_drew)); exact (Kd.R_mono (Kd.R_far (p := ⟨gb386, 1, none⟩) (Kd.R_far (p := ⟨gb386, 0, none⟩) (Kd.R_types HO377.out BK386.out (by decide)) (fun _ hk => hk.2) (.int .i64 t382)) (fun _ hk => hk.2) (.slice Ao46 t383.length co46)) (fun _ h_ => h_.1))))) (Kd.R_lt (by (with_reducible repeat (first | apply Kd.R_alloc | apply Kd.R_drewN | apply Kd.R_drew)); exact (Kd.R_mono (Kd.R_far (p := ⟨gb386, 1, none⟩) (Kd.R_far (p := ⟨gb386, 0, none⟩) (Kd.R_types HO380.out BK386.out (by decide)) (fun _ hk => hk.2) (.int .i64 t382)) (fun _ hk => hk.2) (.slice Ao46 t383.length co46)) (fun _ h_ => h_.1))))) (Kd.R_lt (by (with_reducible repeat (first | apply Kd.R_alloc | apply Kd.R_drewN | apply Kd.R_drew)); exact (Kd.R_mono (Kd.R_far (p := ⟨gb386, 1, none⟩) (Kd.R_far (p := ⟨gb386, 0, none⟩) (Kd.R_types HO385.out BK386.out (by decide)) (fun _ hk => hk.2) (.int .i64 t382)) (fun _ hk => hk.2) (.slice Ao46 t383.length co46)) (fun _ h_ => h_.1))))) (below_size (by repeat (first | (with_reducible first | exact HB.out | apply below_alloc | apply pw_below_drewN | apply below_drew1 | refine below_set ?_ GE372.out | refine below_set ?_ GE386.out) | exact HB.out)))); have n4_ := Aside0.mk (blk_below (g := gb372) (o := .cells #[.int .i64 a0_0, .slice A0_1 l0_1.length c0_1] 33 (0, 0)) (by (with_reducible repeat (first | refine blk_drewN ?_ _ | refine blk_drew ?_ | refine blk_alloc ?_ _)); refine blk_far ?_ NB372_386.out _; (with_reducible repeat (first | refine blk_drewN ?_ _ | refine blk_drew ?_ | refine blk_alloc ?_ _)); refine blk_far ?_ NB372_386.out _; (with_reducible repeat (first | refine blk_drewN ?_ _ | refine blk_drew ?_ | refine blk_alloc ?_ _)); exact BK372.out) hb); have n5_ := Aside0.mk (blk_below (g := gb386) (o := .cells #[.int .i64 t382, .slice Ao46 t383.length co46] 24 (0, 0)) (by (with_reducible repeat (first | refine blk_drewN ?_ _ | refine blk_drew ?_ | refine blk_alloc ?_ _)); refine blk_put (cs := #[.int .i64 t382, .slice none 0 0]) ?_ 1 _ rfl; (with_reducible repeat (first | refine blk_drewN ?_ _ | refine blk_drew ?_ | refine blk_alloc ?_ _)); refine blk_put (cs := #[.int .i64 0, .slice none 0 0]) ?_ 0 _ rfl; (with_reducible repeat (first | refine blk_drewN ?_ _ | refine blk_drew ?_ | refine blk_alloc ?_ _)); exact BK386.out) hb); have n6_ := Aside0.mk (below_step (by repeat (first | (with_reducible first | exact HB.out | apply below_alloc | apply pw_below_drewN | apply below_drew1 | refine below_set ?_ GE372.out | refine below_set ?_ GE386.out) | exact HB.out)) hb); clear HO377; clear HO380; clear HO385; clear BK372; clear BK386; clear HB; have HO377 := n0_; have HO380 := n1_; have HO385 := n2_; have HO389 := n3_; have BK372 := n4_; have BK386 := n5_; have HB := n6_; clear n0_ n1_ n2_ n3_ n4_ n5_ n6_; (try clear hb); (try clear hb2); (try clear hk); (try clear hi); (try clear ho0); obtain ⟨Ao48, co48, eo48⟩ := Kd.R_slice HO389.out; subst eo48; obtain ⟨Ao49, co49, eo49⟩ := Kd.R_slice HO380.out; subst eo49) | ((with_reducible refine gate_callee (f := 14) rfl ?_); refine goesL_ (some 38) rfl rfl Try.func14 (by kernel_rfl) rfl #[.slice Ao48 t387.length co48, .slice Ao49 t378.length co49] rfl (by (try simp only [List.map_toArray, List.map_cons, List.map_nil]); first | done | rfl | (simp only [List.length_drop, List.length_take]; rfl)) ?_; (with_reducible refine (laws_eqIntS.calls k _ _ t387 _ _ t378 true _ ?side1 ?side2 ?side3 ?side4 A12.out).mono ?_); (case side1 => repeat (first | exact (Kd.R_reads' HO389.out).2.2 | (with_reducible refine Kd.C_alloc ?_ _) | (with_reducible refine Kd.C_drewN ?_ _) | (with_reducible refine Kd.C_drew ?_))); (case side2 => exact (Kd.R_reads' HO389.out).2.1); (case side3 => repeat (first | exact (Kd.R_reads' HO380.out).2.2 | (with_reducible refine Kd.C_alloc ?_ _) | (with_reducible refine Kd.C_drewN ?_ _) | (with_reducible refine Kd.C_drew ?_))); (case side4 => exact (Kd.R_reads' HO380.out).2.1); rintro e w' ⟨rfl, ⟨nd, rfl⟩⟩; refine ⟨_, rfl, ?_⟩))
              (try (rw [drewN_self w47]; generalize hq_ : World.drewN w47 _ = w47; have n0_ : Aside0 (Kd.R (Kd.int .i64) 3 w47 w.heap.size (fun k_ => (((True ∧ some k_ ≠ (.slice Ao49 t378.length co49 : Value).ownBlock) ∧ some k_ ≠ (.slice Ao46 t383.length co46 : Value).ownBlock) ∧ some k_ ≠ (.slice Ao48 t387.length co48 : Value).ownBlock)) (.slice Ao39 t375.length co39) t375) := ⟨by rw [← hq_]; exact (by (with_reducible repeat (first | apply Kd.R_alloc | apply Kd.R_drewN | apply Kd.R_drew)); exact HO377.out)⟩; have n1_ : Aside0 (Kd.R (Kd.int .i64) 3 w47 w.heap.size (fun k_ => (((True ∧ some k_ ≠ (.slice Ao39 t375.length co39 : Value).ownBlock) ∧ some k_ ≠ (.slice Ao46 t383.length co46 : Value).ownBlock) ∧ some k_ ≠ (.slice Ao48 t387.length co48 : Value).ownBlock)) (.slice Ao49 t378.length co49) t378) := ⟨by rw [← hq_]; exact (by (with_reducible repeat (first | apply Kd.R_alloc | apply Kd.R_drewN | apply Kd.R_drew)); exact HO380.out)⟩; have n2_ : Aside0 (Kd.R (Kd.int .i64) 3 w47 w.heap.size (fun k_ => (((True ∧ some k_ ≠ (.slice Ao39 t375.length co39 : Value).ownBlock) ∧ some k_ ≠ (.slice Ao49 t378.length co49 : Value).ownBlock) ∧ some k_ ≠ (.slice Ao48 t387.length co48 : Value).ownBlock)) (.slice Ao46 t383.length co46) t383) := ⟨by rw [← hq_]; exact (by (with_reducible repeat (first | apply Kd.R_alloc | apply Kd.R_drewN | apply Kd.R_drew)); exact HO385.out)⟩; have n3_ : Aside0 (Kd.R (Kd.int .i64) 3 w47 w.heap.size (fun k_ => (((True ∧ some k_ ≠ (.slice Ao39 t375.length co39 : Value).ownBlock) ∧ some k_ ≠ (.slice Ao49 t378.length co49 : Value).ownBlock) ∧ some k_ ≠ (.slice Ao46 t383.length co46 : Value).ownBlock)) (.slice Ao48 t387.length co48) t387) := ⟨by rw [← hq_]; exact (by (with_reducible repeat (first | apply Kd.R_alloc | apply Kd.R_drewN | apply Kd.R_drew)); exact HO389.out)⟩; have n4_ : Aside0 (w47.heap[gb372]? = some (.cells #[.int .i64 a0_0, .slice A0_1 l0_1.length c0_1] 33 (0, 0))) := ⟨by rw [← hq_]; exact (by (with_reducible repeat (first | refine blk_drewN ?_ _ | refine blk_drew ?_ | refine blk_alloc ?_ _)); exact BK372.out)⟩; have n5_ : Aside0 (w47.heap[gb386]? = some (.cells #[.int .i64 t382, .slice Ao46 t383.length co46] 24 (0, 0))) := ⟨by rw [← hq_]; exact (by (with_reducible repeat (first | refine blk_drewN ?_ _ | refine blk_drew ?_ | refine blk_alloc ?_ _)); exact BK386.out)⟩; have n6_ : Aside0 (Below w.heap.size w w47) := ⟨by rw [← hq_]; exact (by repeat (first | (with_reducible first | exact HB.out | apply below_alloc | apply pw_below_drewN | apply below_drew1 | refine below_set ?_ GE372.out | refine below_set ?_ GE386.out) | exact HB.out))⟩; clear HO377 HO380 HO385 HO389 BK372 BK386 HB hq_; have HO377 := n0_; have HO380 := n1_; have HO385 := n2_; have HO389 := n3_; have BK372 := n4_; have BK386 := n5_; have HB := n6_; clear n0_ n1_ n2_ n3_ n4_ n5_ n6_))
              have n0_ := Aside0.mk (Kd.R_drew HO377.out)
              have n1_ := Aside0.mk (Kd.R_drew HO380.out)
              have n2_ := Aside0.mk (Kd.R_drew HO385.out)
              have n3_ := Aside0.mk (Kd.R_drew HO389.out)
              have n4_ := Aside0.mk (blk_drew BK372.out)
              have n5_ := Aside0.mk (blk_drew BK386.out)
              have n6_ := Aside0.mk (below_drew1 HB.out)
              clear HO377
              clear HO380
              clear HO385
              clear HO389
              clear BK372
              clear BK386
              clear HB
              have HO377 := n0_
              have HO380 := n1_
              have HO385 := n2_
              have HO389 := n3_
              have BK372 := n4_
              have BK386 := n5_
              have HB := n6_
              clear n0_ n1_ n2_ n3_ n4_ n5_ n6_
              refine start_ (n := 5) (S := fun w' => w'.cell? ⟨gb386, 0, none⟩ = some (.int .i64 t382) ∧ w'.cell? ⟨gb386, 1, none⟩ = some (.slice Ao46 t383.length co46) ∧ w'.cell? ⟨gb372, 0, none⟩ = some (.int .i64 a0_0) ∧ w'.cell? ⟨gb372, 1, none⟩ = some (.slice A0_1 l0_1.length c0_1)) (ds := []) #[false, false, false, false, false] (by kernel_rfl) rfl rfl ⟨(blk_cell BK386.out 0).trans rfl, (blk_cell BK386.out 1).trans rfl, (blk_cell BK372.out 0).trans rfl, (blk_cell BK372.out 1).trans rfl⟩ (fun hHeld => ?_)
              generalize w47.drew = w50 at HO377 HO380 HO385 HO389 BK372 BK386 HB hHeld ⊢
              refine take_ (i := 0) (N := some 45) (v := ?_) (a' := ?_) (bsA 5 1) rfl rfl (by kernel_rfl) (fun _ _ _ h => h) (Or.inl ⟨by rfl, ?_⟩) hHeld ?_ ?_
              rotate_left
              ·rintro w' ⟨s0, s1, s2, s3⟩
               go_simp
               with_reducible rfl
              rotate_left
              ·simp only [Act.put, List.setIfInBounds_toArray, List.set_cons_zero, List.set_cons_succ, i64_w]
               rfl
              refine take_ (i := 1) (N := some 46) (v := ?_) (a' := ?_) (bsA 5 3) rfl rfl (by kernel_rfl) (fun _ _ _ h => h) (Or.inl ⟨by rfl, ?_⟩) hHeld ?_ ?_
              rotate_left
              ·rintro w' ⟨s0, s1, s2, s3⟩
               go_simp
               with_reducible rfl
              rotate_left
              ·simp only [Act.put, List.setIfInBounds_toArray, List.set_cons_zero, List.set_cons_succ, i64_w]
               rfl
              refine one_ (i := 2) (N := some 47) (bsA 5 7) rfl rfl (by kernel_rfl) (by decide) (fun K hK => ?_)
              refine goes_ Try.func22 (by kernel_rfl) rfl #[.agg #[.int .i64 a0_0, .slice A0_1 l0_1.length c0_1]] (by rfl) rfl rfl (by (try simp only [List.map_toArray, List.map_cons, List.map_nil]); first | done | rfl | (simp only [List.length_drop, List.length_take]; rfl)) ?_
              with_reducible refine (laws_toBits.calls k a0_0 _ _ l0_1 t392 t393 _ ?side1 ?side2 A15.out).mono ?_
              (case side1 => repeat (first | exact (Kd.C_below HR0_1.out HB.out) | (with_reducible refine Kd.C_alloc ?_ _) | (with_reducible refine Kd.C_drewN ?_ _) | (with_reducible refine Kd.C_drew ?_)))
              (case side2 => exact HC0_1.out)
              rintro e w51 ⟨v394, rfl, ho0, hb⟩
              refine ⟨_, rfl, ?_⟩
              have n0_ := Aside0.mk (Kd.R_elder' (by (with_reducible repeat (first | apply Kd.R_alloc | apply Kd.R_drewN | apply Kd.R_drew)); exact HO377.out) (Kd.R_base ho0) hb)
              have n1_ := Aside0.mk (Kd.R_elder' (by (with_reducible repeat (first | apply Kd.R_alloc | apply Kd.R_drewN | apply Kd.R_drew)); exact HO380.out) (Kd.R_base ho0) hb)
              have n2_ := Aside0.mk (Kd.R_elder' (by (with_reducible repeat (first | apply Kd.R_alloc | apply Kd.R_drewN | apply Kd.R_drew)); exact HO385.out) (Kd.R_base ho0) hb)
              have n3_ := Aside0.mk (Kd.R_elder' (by (with_reducible repeat (first | apply Kd.R_alloc | apply Kd.R_drewN | apply Kd.R_drew)); exact HO389.out) (Kd.R_base ho0) hb)
              have n4_ := Aside0.mk (Kd.R_lower (Kd.R_new' (Kd.R_new' (Kd.R_new' (Kd.R_new' ho0 (Kd.R_lt (by (with_reducible repeat (first | apply Kd.R_alloc | apply Kd.R_drewN | apply Kd.R_drew)); exact HO377.out))) (Kd.R_lt (by (with_reducible repeat (first | apply Kd.R_alloc | apply Kd.R_drewN | apply Kd.R_drew)); exact HO380.out))) (Kd.R_lt (by (with_reducible repeat (first | apply Kd.R_alloc | apply Kd.R_drewN | apply Kd.R_drew)); exact HO385.out))) (Kd.R_lt (by (with_reducible repeat (first | apply Kd.R_alloc | apply Kd.R_drewN | apply Kd.R_drew)); exact HO389.out))) (below_size (by repeat (first | (with_reducible first | exact HB.out | apply below_alloc | apply pw_below_drewN | apply below_drew1 | refine below_set ?_ GE372.out | refine below_set ?_ GE386.out) | exact HB.out))))
              have n5_ := Aside0.mk (blk_below (g := gb372) (o := .cells #[.int .i64 a0_0, .slice A0_1 l0_1.length c0_1] 33 (0, 0)) (by (with_reducible repeat (first | refine blk_drewN ?_ _ | refine blk_drew ?_ | refine blk_alloc ?_ _)); exact BK372.out) hb)
              have n6_ := Aside0.mk (blk_below (g := gb386) (o := .cells #[.int .i64 t382, .slice Ao46 t383.length co46] 24 (0, 0)) (by (with_reducible repeat (first | refine blk_drewN ?_ _ | refine blk_drew ?_ | refine blk_alloc ?_ _)); exact BK386.out) hb)
              have n7_ := Aside0.mk (below_step (by repeat (first | (with_reducible first | exact HB.out | apply below_alloc | apply pw_below_drewN | apply below_drew1 | refine below_set ?_ GE372.out | refine below_set ?_ GE386.out) | exact HB.out)) hb)
              clear HO377
              clear HO380
              clear HO385
              clear HO389
              clear BK372
              clear BK386
              clear HB
              have HO377 := n0_
              have HO380 := n1_
              have HO385 := n2_
              have HO389 := n3_
              have HO395 := n4_
              have BK372 := n5_
              have BK386 := n6_
              have HB := n7_
              clear n0_ n1_ n2_ n3_ n4_ n5_ n6_ n7_
              (try clear hb)
              (try clear hb2)
              (try clear hk)
              (try clear hi)
              (try clear ho0)
              obtain ⟨Ao52, co52, eo52⟩ := Kd.R_slice HO395.out
              (first | subst eo52 | (injection eo52 with f1_ f2_ f3_; have f4_ := f1_.symm; have f5_ := f3_.symm; clear f1_ f2_ f3_; subst f4_; subst f5_))
              refine hK.out _ _ ⟨(blk_cell BK386.out 0).trans rfl, (blk_cell BK386.out 1).trans rfl, (blk_cell BK372.out 0).trans rfl, (blk_cell BK372.out 1).trans rfl⟩ (fun hHeld => ?_)
              clear hK K
              refine norm_ (a' := ?_) ?_ ?_
              rotate_left
              ·show Act.put _ (some 47) _ = _
               simp only [Act.put, List.setIfInBounds_toArray, List.set_cons_zero, List.set_cons_succ, i64_w]
               rfl
              refine one_ (i := 3) (N := some 48) (bsA 5 15) rfl rfl (by kernel_rfl) (by decide) (fun K hK => ?_)
              refine goes_ Try.func13 (by kernel_rfl) rfl #[.agg #[.int .i64 t382, .slice Ao46 t383.length co46], .agg #[.int .i64 t392, .slice Ao52 t393.length co52]] (by rfl) rfl rfl (by (try simp only [List.map_toArray, List.map_cons, List.map_nil]); first | done | rfl | (simp only [List.length_drop, List.length_take]; rfl)) ?_
              with_reducible refine (laws_eqBits.calls k t382 _ _ t383 t392 _ _ t393 true _ ?side1 ?side2 ?side3 ?side4 A16.out).mono ?_
              (case side1 => repeat (first | exact (Kd.R_reads' HO385.out).2.2 | (with_reducible refine Kd.C_alloc ?_ _) | (with_reducible refine Kd.C_drewN ?_ _) | (with_reducible refine Kd.C_drew ?_)))
              (case side2 => exact (Kd.R_reads' HO385.out).2.1)
              (case side3 => repeat (first | exact (Kd.R_reads' HO395.out).2.2 | (with_reducible refine Kd.C_alloc ?_ _) | (with_reducible refine Kd.C_drewN ?_ _) | (with_reducible refine Kd.C_drew ?_)))
              (case side4 => exact (Kd.R_reads' HO395.out).2.1)
              rintro e w53 ⟨rfl, hb⟩
              refine ⟨_, rfl, ?_⟩
              have n0_ := Aside0.mk (Kd.R_below (by (with_reducible repeat (first | apply Kd.R_alloc | apply Kd.R_drewN | apply Kd.R_drew)); exact HO377.out) hb)
              have n1_ := Aside0.mk (Kd.R_below (by (with_reducible repeat (first | apply Kd.R_alloc | apply Kd.R_drewN | apply Kd.R_drew)); exact HO380.out) hb)
              have n2_ := Aside0.mk (Kd.R_below (by (with_reducible repeat (first | apply Kd.R_alloc | apply Kd.R_drewN | apply Kd.R_drew)); exact HO385.out) hb)
              have n3_ := Aside0.mk (Kd.R_below (by (with_reducible repeat (first | apply Kd.R_alloc | apply Kd.R_drewN | apply Kd.R_drew)); exact HO389.out) hb)
              have n4_ := Aside0.mk (Kd.R_below (by (with_reducible repeat (first | apply Kd.R_alloc | apply Kd.R_drewN | apply Kd.R_drew)); exact HO395.out) hb)
              have n5_ := Aside0.mk (blk_below (g := gb372) (o := .cells #[.int .i64 a0_0, .slice A0_1 l0_1.length c0_1] 33 (0, 0)) (by (with_reducible repeat (first | refine blk_drewN ?_ _ | refine blk_drew ?_ | refine blk_alloc ?_ _)); exact BK372.out) hb)
              have n6_ := Aside0.mk (blk_below (g := gb386) (o := .cells #[.int .i64 t382, .slice Ao46 t383.length co46] 24 (0, 0)) (by (with_reducible repeat (first | refine blk_drewN ?_ _ | refine blk_drew ?_ | refine blk_alloc ?_ _)); exact BK386.out) hb)
              have n7_ := Aside0.mk (below_step (by repeat (first | (with_reducible first | exact HB.out | apply below_alloc | apply pw_below_drewN | apply below_drew1 | refine below_set ?_ GE372.out | refine below_set ?_ GE386.out) | exact HB.out)) hb)
              clear HO377
              clear HO380
              clear HO385
              clear HO389
              clear HO395
              clear BK372
              clear BK386
              clear HB
              have HO377 := n0_
              have HO380 := n1_
              have HO385 := n2_
              have HO389 := n3_
              have HO395 := n4_
              have BK372 := n5_
              have BK386 := n6_
              have HB := n7_
              clear n0_ n1_ n2_ n3_ n4_ n5_ n6_ n7_
              (try clear hb)
              (try clear hb2)
              (try clear hk)
              (try clear hi)
              refine hK.out _ _ ⟨(blk_cell BK386.out 0).trans rfl, (blk_cell BK386.out 1).trans rfl, (blk_cell BK372.out 0).trans rfl, (blk_cell BK372.out 1).trans rfl⟩ (fun hHeld => ?_)
              clear hK K
              refine norm_ (a' := ?_) ?_ ?_
              rotate_left
              ·show Act.put _ (some 48) _ = _
               simp only [Act.put, List.setIfInBounds_toArray, List.set_cons_zero, List.set_cons_succ, i64_w]
               rfl
              refine pure_ (i := 4) (N := some 49) (v := ?_) (a' := ?_) (bsA 5 31) rfl rfl (by kernel_rfl) (fun _ _ _ h => h) (Or.inl ⟨by rfl, ?_⟩) ?_ ?_
              rotate_left
              ·intro w'
               go_simp
               with_reducible rfl
              rotate_left
              ·simp only [Act.put, List.setIfInBounds_toArray, List.set_cons_zero, List.set_cons_succ, i64_w]
               rfl
              refine done_ (by kernel_rfl) ?_
              have hcz54_0 : w53.cell? ⟨gb386, 0, none⟩ = some (.int .i64 t382) := (blk_cell BK386.out 0).trans rfl
              have hcz54_1 : w53.cell? ⟨gb386, 1, none⟩ = some (.slice Ao46 t383.length co46) := (blk_cell BK386.out 1).trans rfl
              have hfz54_0 := blk_frozen BK386.out 0
              have hfz54_1 := blk_frozen BK386.out 1
              try go_wp2_with (first | ((with_reducible refine gate_callee (f := 16) rfl ?_); refine goesL_ (some 52) rfl rfl Try.func16 (by kernel_rfl) rfl #[.agg #[.int .i64 t382, .slice Ao46 t383.length co46], .int .i64 1] rfl (by (try simp only [List.map_toArray, List.map_cons, List.map_nil]); first | done | rfl | (simp only [List.length_drop, List.length_take]; rfl)) ?_; (with_reducible refine (laws_markBits.calls k t382 (fun k_ => some k_ = (.slice Ao46 t383.length co46 : Value).ownBlock) (.slice Ao46 t383.length co46) t383 1 t397 t398 w _ ?side1 ?side2 A18.out).mono ?_); (case side1 => repeat (first | (with_reducible first | exact HB.out | apply below_alloc | apply pw_below_drewN | apply below_drew1 | refine below_set ?_ GE372.out | refine below_set ?_ GE386.out) | exact HB.out)); (case side2 => exact Kd.R_tight rfl HO385.out); rintro e w55 ⟨rfl, hy0, hb, hkp⟩; refine ⟨_, rfl, ?_⟩; have n0_ := Aside0.mk (blk_kept (by (with_reducible repeat (first | refine blk_drewN ?_ _ | refine blk_drew ?_ | refine blk_alloc ?_ _)); exact BK372.out) hkp (fun hs_ => (fun e_ => (Kd.R_ne HO385.out BK372.out (by decide)) e_) hs_)); have n1_ := Aside0.mk (Kd.R_mono (ok' := fun k_ => some k_ ≠ (.slice Ao49 t378.length co49 : Value).ownBlock ∧ some k_ ≠ (.slice Ao46 t383.length co46 : Value).ownBlock ∧ some k_ ≠ (.slice Ao48 t387.length co48 : Value).ownBlock ∧ some k_ ≠ (.slice Ao52 t393.length co52 : Value).ownBlock) (Kd.R_keptB (HO377.out) hkp (fun k_ hk_ hs_ => (hk_.1.1.2) hs_)) (fun k_ hk_ => ⟨hk_.1.1.1.1.2, hk_.1.1.1.2, hk_.1.1.2, hk_.1.2⟩)); have n2_ := Aside0.mk (Kd.R_mono (ok' := fun k_ => some k_ ≠ (.slice Ao39 t375.length co39 : Value).ownBlock ∧ some k_ ≠ (.slice Ao46 t383.length co46 : Value).ownBlock ∧ some k_ ≠ (.slice Ao48 t387.length co48 : Value).ownBlock ∧ some k_ ≠ (.slice Ao52 t393.length co52 : Value).ownBlock) (Kd.R_keptB (HO380.out) hkp (fun k_ hk_ hs_ => (hk_.1.1.2) hs_)) (fun k_ hk_ => ⟨hk_.1.1.1.1.2, hk_.1.1.1.2, hk_.1.1.2, hk_.1.2⟩)); have n3_ := Aside0.mk (Kd.R_reok rfl hy0 (fun k_ e_ => HO385.out.1 k_ e_)); have n4_ := Aside0.mk (blk_kept (by (with_reducible repeat (first | refine blk_drewN ?_ _ | refine blk_drew ?_ | refine blk_alloc ?_ _)); exact BK386.out) hkp (fun hs_ => (fun e_ => (Kd.R_ne HO385.out BK386.out (by decide)) e_) hs_)); have n5_ := Aside0.mk (Kd.R_mono (ok' := fun k_ => some k_ ≠ (.slice Ao39 t375.length co39 : Value).ownBlock ∧ some k_ ≠ (.slice Ao49 t378.length co49 : Value).ownBlock ∧ some k_ ≠ (.slice Ao46 t383.length co46 : Value).ownBlock ∧ some k_ ≠ (.slice Ao52 t393.length co52 : Value).ownBlock) (Kd.R_keptB (HO389.out) hkp (fun k_ hk_ hs_ => (hk_.1.2) hs_)) (fun k_ hk_ => ⟨hk_.1.1.1.1.2, hk_.1.1.1.2, hk_.1.1.2, hk_.1.2⟩)); have n6_ := Aside0.mk (Kd.R_mono (ok' := fun k_ => some k_ ≠ (.slice Ao39 t375.length co39 : Value).ownBlock ∧ some k_ ≠ (.slice Ao49 t378.length co49 : Value).ownBlock ∧ some k_ ≠ (.slice Ao46 t383.length co46 : Value).ownBlock ∧ some k_ ≠ (.slice Ao48 t387.length co48 : Value).ownBlock) (Kd.R_keptB (HO395.out) hkp (fun k_ hk_ hs_ => (hk_.1.2) hs_)) (fun k_ hk_ => ⟨hk_.1.1.1.1.2, hk_.1.1.1.2, hk_.1.1.2, hk_.1.2⟩)); have n7_ := Aside0.mk (hb); clear BK372; clear HO377; clear HO380; clear HO385; clear BK386; clear HO389; clear HO395; clear HB; have BK372 := n0_; have HO377 := n1_; have HO380 := n2_; have HO385 := n3_; have BK386 := n4_; have HO389 := n5_; have HO395 := n6_; have HB := n7_; clear n0_ n1_ n2_ n3_ n4_ n5_ n6_ n7_; (try clear hb); (try clear hkp); (try clear hy0)) | (go_at_call 14; (with_reducible refine (laws_eqIntS.calls k _ _ t387 _ _ t378 true _ ?side1 ?side2 ?side3 ?side4 A20.out).mono ?_); (case side1 => repeat (first | exact (Kd.R_reads' HO389.out).2.2 | (with_reducible refine Kd.C_alloc ?_ _) | (with_reducible refine Kd.C_drewN ?_ _) | (with_reducible refine Kd.C_drew ?_))); (case side2 => exact (Kd.R_reads' HO389.out).2.1); (case side3 => repeat (first | exact (Kd.R_reads' HO380.out).2.2 | (with_reducible refine Kd.C_alloc ?_ _) | (with_reducible refine Kd.C_drewN ?_ _) | (with_reducible refine Kd.C_drew ?_))); (case side4 => exact (Kd.R_reads' HO380.out).2.1); rintro e w' ⟨rfl, ⟨nd, rfl⟩⟩) | ((with_reducible refine gate_callee (f := 15) rfl ?_); refine goesL_ (some 68) rfl rfl Try.func15 (by kernel_rfl) rfl #[.slice Ao48 t387.length co48, .int .i64 1] rfl (by (try simp only [List.map_toArray, List.map_cons, List.map_nil]); first | done | rfl | (simp only [List.length_drop, List.length_take]; rfl)) ?_; (with_reducible refine (laws_markIntS.calls k (fun k_ => some k_ = (.slice Ao48 t387.length co48 : Value).ownBlock) (.slice Ao48 t387.length co48) t387 1 t400 t401 w _ ?side1 ?side2 A22.out).mono ?_); (case side1 => repeat (first | (with_reducible first | exact HB.out | apply below_alloc | apply pw_below_drewN | apply below_drew1 | refine below_set ?_ GE372.out | refine below_set ?_ GE386.out) | exact HB.out)); (case side2 => exact Kd.R_tight rfl HO389.out); rintro e w56 ⟨rfl, hy0, hb, hkp⟩; refine ⟨_, rfl, ?_⟩; have n0_ := Aside0.mk (blk_kept (by (with_reducible repeat (first | refine blk_drewN ?_ _ | refine blk_drew ?_ | refine blk_alloc ?_ _)); exact BK372.out) hkp (fun hs_ => (fun e_ => (Kd.R_ne HO389.out BK372.out (by decide)) e_) hs_)); have n1_ := Aside0.mk (Kd.R_mono (ok' := fun k_ => some k_ ≠ (.slice Ao49 t378.length co49 : Value).ownBlock ∧ some k_ ≠ (.slice Ao46 t383.length co46 : Value).ownBlock ∧ some k_ ≠ (.slice Ao48 t387.length co48 : Value).ownBlock ∧ some k_ ≠ (.slice Ao52 t393.length co52 : Value).ownBlock) (Kd.R_keptB (HO377.out) hkp (fun k_ hk_ hs_ => (hk_.2.2.1) hs_)) (fun k_ hk_ => ⟨hk_.1.1, hk_.1.2.1, hk_.1.2.2.1, hk_.1.2.2.2⟩)); have n2_ := Aside0.mk (Kd.R_mono (ok' := fun k_ => some k_ ≠ (.slice Ao39 t375.length co39 : Value).ownBlock ∧ some k_ ≠ (.slice Ao46 t383.length co46 : Value).ownBlock ∧ some k_ ≠ (.slice Ao48 t387.length co48 : Value).ownBlock ∧ some k_ ≠ (.slice Ao52 t393.length co52 : Value).ownBlock) (Kd.R_keptB (HO380.out) hkp (fun k_ hk_ hs_ => (hk_.2.2.1) hs_)) (fun k_ hk_ => ⟨hk_.1.1, hk_.1.2.1, hk_.1.2.2.1, hk_.1.2.2.2⟩)); have n3_ := Aside0.mk (Kd.R_mono (ok' := fun k_ => some k_ ≠ (.slice Ao39 t375.length co39 : Value).ownBlock ∧ some k_ ≠ (.slice Ao49 t378.length co49 : Value).ownBlock ∧ some k_ ≠ (.slice Ao48 t387.length co48 : Value).ownBlock ∧ some k_ ≠ (.slice Ao52 t393.length co52 : Value).ownBlock) (Kd.R_keptB (HO385.out) hkp (fun k_ hk_ hs_ => (hk_.1.2) hs_)) (fun k_ hk_ => ⟨hk_.1.1.1.1.2, hk_.1.1.1.2, hk_.1.1.2, hk_.1.2⟩)); have n4_ := Aside0.mk (blk_kept (by (with_reducible repeat (first | refine blk_drewN ?_ _ | refine blk_drew ?_ | refine blk_alloc ?_ _)); exact BK386.out) hkp (fun hs_ => (fun e_ => (Kd.R_ne HO389.out BK386.out (by decide)) e_) hs_)); have n5_ := Aside0.mk (Kd.R_reok rfl hy0 (fun k_ e_ => HO389.out.1 k_ e_)); have n6_ := Aside0.mk (Kd.R_mono (ok' := fun k_ => some k_ ≠ (.slice Ao39 t375.length co39 : Value).ownBlock ∧ some k_ ≠ (.slice Ao49 t378.length co49 : Value).ownBlock ∧ some k_ ≠ (.slice Ao46 t383.length co46 : Value).ownBlock ∧ some k_ ≠ (.slice Ao48 t387.length co48 : Value).ownBlock) (Kd.R_keptB (HO395.out) hkp (fun k_ hk_ hs_ => (hk_.2.2.2) hs_)) (fun k_ hk_ => ⟨hk_.1.1, hk_.1.2.1, hk_.1.2.2.1, hk_.1.2.2.2⟩)); have n7_ := Aside0.mk (hb); clear BK372; clear HO377; clear HO380; clear HO385; clear BK386; clear HO389; clear HO395; clear HB; have BK372 := n0_; have HO377 := n1_; have HO380 := n2_; have HO385 := n3_; have BK386 := n4_; have HO389 := n5_; have HO395 := n6_; have HB := n7_; clear n0_ n1_ n2_ n3_ n4_ n5_ n6_ n7_; (try clear hb); (try clear hkp); (try clear hy0)) | ((with_reducible refine gate_callee (f := 24) rfl ?_); refine goesL_ (some 71) rfl rfl Try.func24 (by kernel_rfl) rfl #[.slice Ao48 t401.length co48, .int .i64 1] rfl (by (try simp only [List.map_toArray, List.map_cons, List.map_nil]); first | done | (rw [show t401.length = t387.length from (Kd.R_reads' HO389.out).1.symm] <;> rfl) | rfl | (simp only [List.length_drop, List.length_take]; rfl)) ?_; (with_reducible refine (laws_heldIntS.calls k _ _ t401 1 t402 _ ?side1 ?side2 A23.out).mono ?_); (case side1 => repeat (first | exact (Kd.R_reads' HO389.out).2.2 | (with_reducible refine Kd.C_alloc ?_ _) | (with_reducible refine Kd.C_drewN ?_ _) | (with_reducible refine Kd.C_drew ?_))); (case side2 => rw [show t401.length = t387.length from (Kd.R_reads' HO389.out).1.symm]; exact (Kd.R_reads' HO389.out).2.1); rintro e w' ⟨rfl, ⟨nd, rfl⟩⟩; refine ⟨_, rfl, ?_⟩; have hcz57_0 : w56.cell? ⟨gb372, 0, none⟩ = some (.int .i64 a0_0) := (blk_cell BK372.out 0).trans rfl; have hcz57_1 : w56.cell? ⟨gb372, 1, none⟩ = some (.slice A0_1 l0_1.length c0_1) := (blk_cell BK372.out 1).trans rfl; have hfz57_0 := blk_frozen BK372.out 0; have hfz57_1 := blk_frozen BK372.out 1) | ((with_reducible refine gate_callee (f := 22) rfl ?_); refine goesL_ (some 79) rfl rfl Try.func22 (by kernel_rfl) rfl #[.agg #[.int .i64 a0_0, .slice A0_1 l0_1.length c0_1]] rfl (by (try simp only [List.map_toArray, List.map_cons, List.map_nil]); first | done | rfl | (simp only [List.length_drop, List.length_take]; rfl)) ?_; (with_reducible refine (laws_toBits.calls k a0_0 _ _ l0_1 t403 t404 _ ?side1 ?side2 A26.out).mono ?_); (case side1 => repeat (first | exact (Kd.C_below HR0_1.out (by repeat (first | (with_reducible first | exact HB.out | apply below_alloc | apply pw_below_drewN | apply below_drew1 | refine below_set ?_ GE372.out | refine below_set ?_ GE386.out) | exact HB.out))) | (with_reducible refine Kd.C_alloc ?_ _) | (with_reducible refine Kd.C_drewN ?_ _) | (with_reducible refine Kd.C_drew ?_))); (case side2 => exact HC0_1.out); rintro e w58 ⟨v405, rfl, ho0, hb⟩; refine ⟨_, rfl, ?_⟩; have n0_ := Aside0.mk (Kd.R_elder' (by (with_reducible repeat (first | apply Kd.R_alloc | apply Kd.R_drewN | apply Kd.R_drew)); exact HO377.out) (Kd.R_base ho0) hb); have n1_ := Aside0.mk (Kd.R_elder' (by (with_reducible repeat (first | apply Kd.R_alloc | apply Kd.R_drewN | apply Kd.R_drew)); exact HO380.out) (Kd.R_base ho0) hb); have n2_ := Aside0.mk (Kd.R_elder' (by (with_reducible repeat (first | apply Kd.R_alloc | apply Kd.R_drewN | apply Kd.R_drew)); exact HO385.out) (Kd.R_base ho0) hb); have n3_ := Aside0.mk (Kd.R_elder' (by (with_reducible repeat (first | apply Kd.R_alloc | apply Kd.R_drewN | apply Kd.R_drew)); exact HO389.out) (Kd.R_base ho0) hb); have n4_ := Aside0.mk (Kd.R_elder' (by (with_reducible repeat (first | apply Kd.R_alloc | apply Kd.R_drewN | apply Kd.R_drew)); exact HO395.out) (Kd.R_base ho0) hb); have n5_ := Aside0.mk (Kd.R_lower (Kd.R_new' (Kd.R_new' (Kd.R_new' (Kd.R_new' (Kd.R_new' ho0 (Kd.R_lt (by (with_reducible repeat (first | apply Kd.R_alloc | apply Kd.R_drewN | apply Kd.R_drew)); exact HO377.out))) (Kd.R_lt (by (with_reducible repeat (first | apply Kd.R_alloc | apply Kd.R_drewN | apply Kd.R_drew)); exact HO380.out))) (Kd.R_lt (by (with_reducible repeat (first | apply Kd.R_alloc | apply Kd.R_drewN | apply Kd.R_drew)); exact HO385.out))) (Kd.R_lt (by (with_reducible repeat (first | apply Kd.R_alloc | apply Kd.R_drewN | apply Kd.R_drew)); exact HO389.out))) (Kd.R_lt (by (with_reducible repeat (first | apply Kd.R_alloc | apply Kd.R_drewN | apply Kd.R_drew)); exact HO395.out))) (below_size (by repeat (first | (with_reducible first | exact HB.out | apply below_alloc | apply pw_below_drewN | apply below_drew1 | refine below_set ?_ GE372.out | refine below_set ?_ GE386.out) | exact HB.out)))); have n6_ := Aside0.mk (blk_below (g := gb372) (o := .cells #[.int .i64 a0_0, .slice A0_1 l0_1.length c0_1] 33 (0, 0)) (by (with_reducible repeat (first | refine blk_drewN ?_ _ | refine blk_drew ?_ | refine blk_alloc ?_ _)); exact BK372.out) hb); have n7_ := Aside0.mk (blk_below (g := gb386) (o := .cells #[.int .i64 t382, .slice Ao46 t383.length co46] 24 (0, 0)) (by (with_reducible repeat (first | refine blk_drewN ?_ _ | refine blk_drew ?_ | refine blk_alloc ?_ _)); exact BK386.out) hb); have n8_ := Aside0.mk (below_step (by repeat (first | (with_reducible first | exact HB.out | apply below_alloc | apply pw_below_drewN | apply below_drew1 | refine below_set ?_ GE372.out | refine below_set ?_ GE386.out) | exact HB.out)) hb); clear HO377; clear HO380; clear HO385; clear HO389; clear HO395; clear BK372; clear BK386; clear HB; have HO377 := n0_; have HO380 := n1_; have HO385 := n2_; have HO389 := n3_; have HO395 := n4_; have HO406 := n5_; have BK372 := n6_; have BK386 := n7_; have HB := n8_; clear n0_ n1_ n2_ n3_ n4_ n5_ n6_ n7_ n8_; (try clear hb); (try clear hb2); (try clear hk); (try clear hi); (try clear ho0); obtain ⟨Ao59, co59, eo59⟩ := Kd.R_slice HO406.out; subst eo59) | ((with_reducible refine gate_callee (f := 23) rfl ?_); refine goesL_ (some 81) rfl rfl Try.func23 (by kernel_rfl) rfl #[.agg #[.int .i64 t403, .slice Ao59 t404.length co59], .int .i64 a1] rfl (by (try simp only [List.map_toArray, List.map_cons, List.map_nil]); first | done | rfl | (simp only [List.length_drop, List.length_take]; rfl)) ?_; (with_reducible refine (impl_DecodeGamma.calls k t403 _ _ t404 a1 t407 t410 _ ?side1 ?side2 A27.out).mono ?_); (case side1 => repeat (first | exact (Kd.R_reads' HO406.out).2.2 | (with_reducible refine Kd.C_alloc ?_ _) | (with_reducible refine Kd.C_drewN ?_ _) | (with_reducible refine Kd.C_drew ?_))); (case side2 => exact (Kd.R_reads' HO406.out).2.1); rintro e w60 ⟨v408, rfl, ho0, hb⟩; refine ⟨_, rfl, ?_⟩; have n0_ := Aside0.mk (Kd.R_elder' (by (with_reducible repeat (first | apply Kd.R_alloc | apply Kd.R_drewN | apply Kd.R_drew)); exact HO377.out) (Kd.R_base ho0) hb); have n1_ := Aside0.mk (Kd.R_elder' (by (with_reducible repeat (first | apply Kd.R_alloc | apply Kd.R_drewN | apply Kd.R_drew)); exact HO380.out) (Kd.R_base ho0) hb); have n2_ := Aside0.mk (Kd.R_elder' (by (with_reducible repeat (first | apply Kd.R_alloc | apply Kd.R_drewN | apply Kd.R_drew)); exact HO385.out) (Kd.R_base ho0) hb); have n3_ := Aside0.mk (Kd.R_elder' (by (with_reducible repeat (first | apply Kd.R_alloc | apply Kd.R_drewN | apply Kd.R_drew)); exact HO389.out) (Kd.R_base ho0) hb); have n4_ := Aside0.mk (Kd.R_elder' (by (with_reducible repeat (first | apply Kd.R_alloc | apply Kd.R_drewN | apply Kd.R_drew)); exact HO395.out) (Kd.R_base ho0) hb); have n5_ := Aside0.mk (Kd.R_elder' (by (with_reducible repeat (first | apply Kd.R_alloc | apply Kd.R_drewN | apply Kd.R_drew)); exact HO406.out) (Kd.R_base ho0) hb); have n6_ := Aside0.mk (Kd.R_lower (Kd.R_new' (Kd.R_new' (Kd.R_new' (Kd.R_new' (Kd.R_new' (Kd.R_new' ho0 (Kd.R_lt (by (with_reducible repeat (first | apply Kd.R_alloc | apply Kd.R_drewN | apply Kd.R_drew)); exact HO377.out))) (Kd.R_lt (by (with_reducible repeat (first | apply Kd.R_alloc | apply Kd.R_drewN | apply Kd.R_drew)); exact HO380.out))) (Kd.R_lt (by (with_reducible repeat (first | apply Kd.R_alloc | apply Kd.R_drewN | apply Kd.R_drew)); exact HO385.out))) (Kd.R_lt (by (with_reducible repeat (first | apply Kd.R_alloc | apply Kd.R_drewN | apply Kd.R_drew)); exact HO389.out))) (Kd.R_lt (by (with_reducible repeat (first | apply Kd.R_alloc | apply Kd.R_drewN | apply Kd.R_drew)); exact HO395.out))) (Kd.R_lt (by (with_reducible repeat (first | apply Kd.R_alloc | apply Kd.R_drewN | apply Kd.R_drew)); exact HO406.out))) (below_size (by repeat (first | (with_reducible first | exact HB.out | apply below_alloc | apply pw_below_drewN | apply below_drew1 | refine below_set ?_ GE372.out | refine below_set ?_ GE386.out) | exact HB.out)))); have n7_ := Aside0.mk (blk_below (g := gb372) (o := .cells #[.int .i64 a0_0, .slice A0_1 l0_1.length c0_1] 33 (0, 0)) (by (with_reducible repeat (first | refine blk_drewN ?_ _ | refine blk_drew ?_ | refine blk_alloc ?_ _)); exact BK372.out) hb); have n8_ := Aside0.mk (blk_below (g := gb386) (o := .cells #[.int .i64 t382, .slice Ao46 t383.length co46] 24 (0, 0)) (by (with_reducible repeat (first | refine blk_drewN ?_ _ | refine blk_drew ?_ | refine blk_alloc ?_ _)); exact BK386.out) hb); have n9_ := Aside0.mk (below_step (by repeat (first | (with_reducible first | exact HB.out | apply below_alloc | apply pw_below_drewN | apply below_drew1 | refine below_set ?_ GE372.out | refine below_set ?_ GE386.out) | exact HB.out)) hb); clear HO377; clear HO380; clear HO385; clear HO389; clear HO395; clear HO406; clear BK372; clear BK386; clear HB; have HO377 := n0_; have HO380 := n1_; have HO385 := n2_; have HO389 := n3_; have HO395 := n4_; have HO406 := n5_; have HO409 := n6_; have BK372 := n7_; have BK386 := n8_; have HB := n9_; clear n0_ n1_ n2_ n3_ n4_ n5_ n6_ n7_ n8_ n9_; (try clear hb); (try clear hb2); (try clear hk); (try clear hi); (try clear ho0); obtain ⟨Ao61, co61, eo61⟩ := Kd.R_slice HO409.out; subst eo61) | ((with_reducible refine gate_callee (f := 14) rfl ?_); refine goesL_ (some 86) rfl rfl Try.func14 (by kernel_rfl) rfl #[.slice Ao61 t407.length co61, .slice Ao49 t378.length co49] rfl (by (try simp only [List.map_toArray, List.map_cons, List.map_nil]); first | done | rfl | (simp only [List.length_drop, List.length_take]; rfl)) ?_; (with_reducible refine (laws_eqIntS.calls k _ _ t407 _ _ t378 true _ ?side1 ?side2 ?side3 ?side4 A28.out).mono ?_); (case side1 => repeat (first | exact (Kd.R_reads' HO409.out).2.2 | (with_reducible refine Kd.C_alloc ?_ _) | (with_reducible refine Kd.C_drewN ?_ _) | (with_reducible refine Kd.C_drew ?_))); (case side2 => exact (Kd.R_reads' HO409.out).2.1); (case side3 => repeat (first | exact (Kd.R_reads' HO380.out).2.2 | (with_reducible refine Kd.C_alloc ?_ _) | (with_reducible refine Kd.C_drewN ?_ _) | (with_reducible refine Kd.C_drew ?_))); (case side4 => exact (Kd.R_reads' HO380.out).2.1); rintro e w' ⟨rfl, ⟨nd, rfl⟩⟩; refine ⟨_, rfl, ?_⟩) | ((with_reducible refine gate_callee (f := 24) rfl ?_); refine goesL_ (some 95) rfl rfl Try.func24 (by kernel_rfl) rfl #[.slice Ao48 t401.length co48, .int .i64 1] rfl (by (try simp only [List.map_toArray, List.map_cons, List.map_nil]); first | done | (rw [show t401.length = t387.length from (Kd.R_reads' HO389.out).1.symm] <;> rfl) | rfl | (simp only [List.length_drop, List.length_take]; rfl)) ?_; (with_reducible refine (laws_heldIntS.calls k _ _ t401 1 t412 _ ?side1 ?side2 A31.out).mono ?_); (case side1 => repeat (first | exact (Kd.R_reads' HO389.out).2.2 | (with_reducible refine Kd.C_alloc ?_ _) | (with_reducible refine Kd.C_drewN ?_ _) | (with_reducible refine Kd.C_drew ?_))); (case side2 => rw [show t401.length = t387.length from (Kd.R_reads' HO389.out).1.symm]; exact (Kd.R_reads' HO389.out).2.1); rintro e w' ⟨rfl, ⟨nd, rfl⟩⟩; refine ⟨_, rfl, ?_⟩))
              go_ret
              exact ⟨by first | rfl | (simp [errW_none, errW_some] <;> rfl) | (simp [*, errW_none, errW_some] <;> rfl), by repeat (first | (with_reducible first | exact HB.out | apply below_alloc | apply pw_below_drewN | apply below_drew1 | refine below_set ?_ GE372.out | refine below_set ?_ GE386.out) | exact HB.out)⟩
             ·rw [if_neg c33] at H
              exact absurd H (by simp)
          ·replace c29 := Bool.eq_false_iff.mpr c29
           subst c29
           have H1 : (none) = some r := by rw [if_neg (show ¬ (false = true) by decide)] at H; exact H
           clear H
           have H := H1
           clear H1
           exact absurd H (by simp)
         ·rw [if_neg c25] at H
          exact absurd H (by simp)
       ·replace c21 := Bool.eq_false_iff.mpr c21
        subst c21
        have H1 : (none) = some r := by rw [if_neg (show ¬ (false = true) by decide)] at H; exact H
        clear H
        have H := H1
        clear H1
        exact absurd H (by simp)
     ·replace c17 := Bool.eq_false_iff.mpr c17
      subst c17
      have H1 : (none) = some r := by rw [if_neg (show ¬ (false = true) by decide)] at H; exact H
      clear H
      have H := H1
      clear H1
      exact absurd H (by simp)
   ·replace c13 := Bool.eq_false_iff.mpr c13
    subst c13
    have H1 : (none) = some r := by rw [if_neg (show ¬ (false = true) by decide)] at H; exact H
    clear H
    have H := H1
    clear H1
    exact absurd H (by simp)

/-- What is to be shown of laws_FnExactDecodeGamma: plain. -/
def laws_FnExactDecodeGamma.Pure : Prop := ∀ (a0_0 : Int) (l0_1 : List Int) (a1 : Int), (wfI .i64) a0_0 → (wfL (wfI .i64)) l0_1 → (wfI .i64) a1 → ∃ k, laws_FnExactDecodeGamma.f k a0_0 l0_1 a1 = some true
theorem laws_FnExactDecodeGamma.walk (P : laws_FnExactDecodeGamma.Pure) (a0_0 : Int) (A0_1 : Option Addr) (c0_1 : Nat) (l0_1 : List Int) (a1 : Int) (w : World) (hr0_1 : Kd.C (Kd.int .i64) w A0_1 l0_1.length l0_1) (hc0_1 : l0_1.length ≤ c0_1) (hw0_0 : (wfI .i64) a0_0) (hw0_1 : (wfL (wfI .i64)) l0_1) (hw1 : (wfI .i64) a1) :
    Calls Try.prog 5 #[.agg #[.int .i64 a0_0, .slice A0_1 l0_1.length c0_1], .int .i64 a1] w fun e w' => e = .returned (.bool true) ∧ Below w.heap.size w w' := by
  obtain ⟨k, h⟩ := P a0_0 l0_1 a1 hw0_0 hw0_1 hw1
  refine (laws_FnExactDecodeGamma.calls k a0_0 A0_1 c0_1 l0_1 a1 true w hr0_1 hc0_1 h).mono ?_
  rintro e w' ⟨rfl, hd⟩
  exact ⟨rfl, hd⟩
end Go.Proofs.Ytkechjheiakibaa.X
