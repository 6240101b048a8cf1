/- Written by a program of this session: what functions of the given program compute, and that their calls do so. -/
import Derived.Test.YtkechjheiakibaaXx0
import Derived.Test.YtkechjheiakibaaXg38a
import Derived.Test.YtkechjheiakibaaXgca
import Derived.Test.YtkechjheiakibaaXgfa
namespace Go.Proofs.Ytkechjheiakibaa.X
open Go.RowKit Go.Proofs.YtkechjheiakibaaW.PrintWords Go.Proofs.YtkechjheiakibaaW.PrintLast Go.Proofs.YtkechjheiakibaaW.PrintMore
attribute [local go_sem] max2_int min2_int max_two min_two max_three min_three max_four min_four   -- for this text's walks alone
set_option linter.unusedVariables false
set_option linter.unusedSimpArgs false
/-! ### laws_FnExactDecodeDelta: function 6 -/
def laws_FnExactDecodeDelta.f (k : Nat) (a0_0 : Int) (l0_1 : List Int) (a1 : Int) : Option (Bool) := (laws_szBits.f a0_0 l0_1 1048576).bind fun t430 => (if t430 < 0 then (some true) else ((laws_toBits.f k a0_0 l0_1).bind fun bt431 => ((spec_DecodeDelta.f k bt431.1 bt431.2 a1).bind fun bt435 => ((laws_toBits.f k a0_0 l0_1).bind fun bt439 => ((impl_DecodeDelta.f k bt439.1 bt439.2 a1).bind fun bt444 => ((laws_eqIntS.f k bt444.1 bt435.1).bind fun t448 => (if t448 = true then (if (bt444.2 != bt435.2) = true then (none) else ((laws_toBits.f k a0_0 l0_1).bind fun bt449 => ((laws_eqBits.f k bt439.1 bt439.2 bt449.1 bt449.2).bind fun t453 => (if t453 = true then ((laws_markBits.f k bt439.1 bt439.2 1).bind fun bt454 => (if bt454.1 < 0 then (none) else ((laws_eqIntS.f k bt444.1 bt435.1).bind fun t456 => (if t456 = true then ((laws_markIntS.f k bt444.1 1).bind fun bt457 => ((laws_heldIntS.f k bt457.2 1).bind fun t459 => (if t459 < 0 then (none) else (if t459 = bt457.1 then ((laws_toBits.f k a0_0 l0_1).bind fun bt460 => ((impl_DecodeDelta.f k bt460.1 bt460.2 a1).bind fun bt464 => ((laws_eqIntS.f k bt464.1 bt435.1).bind fun t468 => (if t468 = true then (if (bt464.2 != bt435.2) = true then (none) else ((laws_heldIntS.f k bt457.2 1).bind fun t469 => (if t469 < 0 then (none) else (if t469 = bt457.1 then (some true) else (none))))) else (none))))) else (none))))) else (none))))) else (none))))) else (none))))))))
theorem laws_FnExactDecodeDelta.mono : ∀ a0 a1 a2 k, LeO (laws_FnExactDecodeDelta.f k a0 a1 a2) (laws_FnExactDecodeDelta.f (k + 1) a0 a1 a2) := by
  intro a0 a1 a2 k
  unfold laws_FnExactDecodeDelta.f
  repeat' first
      | (with_reducible exact impl_DecodeDelta.mono _ _ _ _)
      | (with_reducible exact laws_eqBits.mono _ _ _ _ _)
      | (with_reducible exact laws_eqIntS.mono _ _ _)
      | (with_reducible exact laws_heldIntS.mono _ _ _)
      | (with_reducible exact laws_markBits.mono _ _ _ _)
      | (with_reducible exact laws_markIntS.mono _ _ _)
      | (with_reducible exact laws_toBits.mono _ _ _)
      | (with_reducible exact spec_DecodeDelta.mono _ _ _ _)
      | (with_reducible exact LeO.refl _)
      | (with_reducible exact LeO.none _)
      | (with_reducible refine LeO.ite ?_ ?_)
      | (with_reducible refine LeO.bind ?_ (fun _ => ?_))
      | exact impl_DecodeDelta.mono _ _ _ _
      | exact laws_eqBits.mono _ _ _ _ _
      | exact laws_eqIntS.mono _ _ _
      | exact laws_heldIntS.mono _ _ _
      | exact laws_markBits.mono _ _ _ _
      | exact laws_markIntS.mono _ _ _
      | exact laws_toBits.mono _ _ _
      | exact spec_DecodeDelta.mono _ _ _ _
      | exact LeO.none _
      | refine LeO.ite ?_ ?_
      | refine LeO.bind ?_ (fun _ => ?_)
noncomputable def laws_FnExactDecodeDelta.F (a0_0 : Int) (l0_1 : List Int) (a1 : Int) : Option (Bool) := lim fun k => laws_FnExactDecodeDelta.f k a0_0 l0_1 a1
theorem laws_FnExactDecodeDelta.F_sup (a0_0 : Int) (l0_1 : List Int) (a1 : Int) : Sup (fun k => laws_FnExactDecodeDelta.f k a0_0 l0_1 a1) (laws_FnExactDecodeDelta.F a0_0 l0_1 a1) := Sup.of_mono fun k => laws_FnExactDecodeDelta.mono a0_0 l0_1 a1 k
theorem laws_FnExactDecodeDelta.F_eq (a0_0 : Int) (l0_1 : List Int) (a1 : Int) : laws_FnExactDecodeDelta.F a0_0 l0_1 a1 = (laws_szBits.f a0_0 l0_1 1048576).bind fun t430 => (if t430 < 0 then (some true) else ((laws_toBits.F a0_0 l0_1).bind fun bt431 => ((spec_DecodeDelta.F bt431.1 bt431.2 a1).bind fun bt435 => ((laws_toBits.F a0_0 l0_1).bind fun bt439 => ((impl_DecodeDelta.F bt439.1 bt439.2 a1).bind fun bt444 => ((laws_eqIntS.F bt444.1 bt435.1).bind fun t448 => (if t448 = true then (if (bt444.2 != bt435.2) = true then (none) else ((laws_toBits.F a0_0 l0_1).bind fun bt449 => ((laws_eqBits.F bt439.1 bt439.2 bt449.1 bt449.2).bind fun t453 => (if t453 = true then ((laws_markBits.F bt439.1 bt439.2 1).bind fun bt454 => (if bt454.1 < 0 then (none) else ((laws_eqIntS.F bt444.1 bt435.1).bind fun t456 => (if t456 = true then ((laws_markIntS.F bt444.1 1).bind fun bt457 => ((laws_heldIntS.F bt457.2 1).bind fun t459 => (if t459 < 0 then (none) else (if t459 = bt457.1 then ((laws_toBits.F a0_0 l0_1).bind fun bt460 => ((impl_DecodeDelta.F bt460.1 bt460.2 a1).bind fun bt464 => ((laws_eqIntS.F bt464.1 bt435.1).bind fun t468 => (if t468 = true then (if (bt464.2 != bt435.2) = true then (none) else ((laws_heldIntS.F bt457.2 1).bind fun t469 => (if t469 < 0 then (none) else (if t469 = bt457.1 then (some true) else (none))))) else (none))))) else (none))))) else (none))))) else (none))))) else (none)))))))) := by
  refine Sup.unique (laws_FnExactDecodeDelta.F_sup a0_0 l0_1 a1) (Sup.congr (g' := fun k => (laws_szBits.f a0_0 l0_1 1048576).bind fun t430 => (if t430 < 0 then (some true) else ((laws_toBits.f k a0_0 l0_1).bind fun bt431 => ((spec_DecodeDelta.f k bt431.1 bt431.2 a1).bind fun bt435 => ((laws_toBits.f k a0_0 l0_1).bind fun bt439 => ((impl_DecodeDelta.f k bt439.1 bt439.2 a1).bind fun bt444 => ((laws_eqIntS.f k bt444.1 bt435.1).bind fun t448 => (if t448 = true then (if (bt444.2 != bt435.2) = true then (none) else ((laws_toBits.f k a0_0 l0_1).bind fun bt449 => ((laws_eqBits.f k bt439.1 bt439.2 bt449.1 bt449.2).bind fun t453 => (if t453 = true then ((laws_markBits.f k bt439.1 bt439.2 1).bind fun bt454 => (if bt454.1 < 0 then (none) else ((laws_eqIntS.f k bt444.1 bt435.1).bind fun t456 => (if t456 = true then ((laws_markIntS.f k bt444.1 1).bind fun bt457 => ((laws_heldIntS.f k bt457.2 1).bind fun t459 => (if t459 < 0 then (none) else (if t459 = bt457.1 then ((laws_toBits.f k a0_0 l0_1).bind fun bt460 => ((impl_DecodeDelta.f k bt460.1 bt460.2 a1).bind fun bt464 => ((laws_eqIntS.f k bt464.1 bt435.1).bind fun t468 => (if t468 = true then (if (bt464.2 != bt435.2) = true then (none) else ((laws_heldIntS.f k bt457.2 1).bind fun t469 => (if t469 < 0 then (none) else (if t469 = bt457.1 then (some true) else (none))))) else (none))))) else (none))))) else (none))))) else (none))))) else (none))))))))) (fun k => by first | rfl | simp only [laws_FnExactDecodeDelta.f]) ?_)
  repeat' first
    | (with_reducible exact laws_eqBits.F_sup _ _ _ _)
    | (with_reducible exact laws_eqIntS.F_sup _ _)
    | (with_reducible exact laws_markIntS.F_sup _ _)
    | (with_reducible exact laws_markBits.F_sup _ _ _)
    | (with_reducible exact laws_toBits.F_sup _ _)
    | (with_reducible exact laws_heldIntS.F_sup _ _)
    | (with_reducible exact spec_DecodeDelta.F_sup _ _ _)
    | (with_reducible exact impl_DecodeDelta.F_sup _ _ _)
    | (with_reducible refine Sup.ite ?_ ?_)
    | (with_reducible refine Sup.bind ?_ (fun _ => ?_))
    | (with_reducible exact Sup.const _)
    | exact laws_eqBits.F_sup _ _ _ _
    | exact laws_eqIntS.F_sup _ _
    | exact laws_markIntS.F_sup _ _
    | exact laws_markBits.F_sup _ _ _
    | exact laws_toBits.F_sup _ _
    | exact laws_heldIntS.F_sup _ _
    | exact spec_DecodeDelta.F_sup _ _ _
    | exact impl_DecodeDelta.F_sup _ _ _
    | exact Sup.const _
set_option maxHeartbeats 8000000 in
set_option maxRecDepth 100000 in
theorem laws_FnExactDecodeDelta.calls (k : Nat) (a0_0 : Int) (A0_1 : Option Addr) (c0_1 : Nat) (l0_1 : List Int) (a1 : Int) (r : Bool) (w : World) (hr0_1 : Kd.C (Kd.int .i64) w A0_1 l0_1.length l0_1) (hc0_1 : l0_1.length ≤ c0_1) (h : laws_FnExactDecodeDelta.f k a0_0 l0_1 a1 = some r) :
    Calls Try.prog 6 #[.agg #[.int .i64 a0_0, .slice A0_1 l0_1.length c0_1], .int .i64 a1] w fun e w' => e = .returned (.bool r) ∧ Below w.heap.size w w' := by
  have hu33 := Try.underlying33
  have hu24 := Try.underlying24
  have HR0_1 := Aside0.mk hr0_1
  have HC0_1 := Aside0.mk hc0_1
  clear hr0_1 hc0_1
  have HB := Aside0.mk (Below.refl w.heap.size w)
  have H : ((laws_szBits.f a0_0 l0_1 1048576).bind fun t430 => (if t430 < 0 then (some true) else ((laws_toBits.f k a0_0 l0_1).bind fun bt431 => ((spec_DecodeDelta.f k bt431.1 bt431.2 a1).bind fun bt435 => ((laws_toBits.f k a0_0 l0_1).bind fun bt439 => ((impl_DecodeDelta.f k bt439.1 bt439.2 a1).bind fun bt444 => ((laws_eqIntS.f k bt444.1 bt435.1).bind fun t448 => (if t448 = true then (if (bt444.2 != bt435.2) = true then (none) else ((laws_toBits.f k a0_0 l0_1).bind fun bt449 => ((laws_eqBits.f k bt439.1 bt439.2 bt449.1 bt449.2).bind fun t453 => (if t453 = true then ((laws_markBits.f k bt439.1 bt439.2 1).bind fun bt454 => (if bt454.1 < 0 then (none) else ((laws_eqIntS.f k bt444.1 bt435.1).bind fun t456 => (if t456 = true then ((laws_markIntS.f k bt444.1 1).bind fun bt457 => ((laws_heldIntS.f k bt457.2 1).bind fun t459 => (if t459 < 0 then (none) else (if t459 = bt457.1 then ((laws_toBits.f k a0_0 l0_1).bind fun bt460 => ((impl_DecodeDelta.f k bt460.1 bt460.2 a1).bind fun bt464 => ((laws_eqIntS.f k bt464.1 bt435.1).bind fun t468 => (if t468 = true then (if (bt464.2 != bt435.2) = true then (none) else ((laws_heldIntS.f k bt457.2 1).bind fun t469 => (if t469 < 0 then (none) else (if t469 = bt457.1 then (some true) else (none))))) else (none))))) else (none))))) else (none))))) else (none))))) else (none))))))))) = some r := h
  clear h
  replace H := Option.bind_eq_some_iff.mp H
  obtain ⟨t430, A30, H⟩ := H
  replace H : (if t430 < 0 then (some true) else ((laws_toBits.f k a0_0 l0_1).bind fun bt431 => ((spec_DecodeDelta.f k bt431.1 bt431.2 a1).bind fun bt435 => ((laws_toBits.f k a0_0 l0_1).bind fun bt439 => ((impl_DecodeDelta.f k bt439.1 bt439.2 a1).bind fun bt444 => ((laws_eqIntS.f k bt444.1 bt435.1).bind fun t448 => (if t448 = true then (if (bt444.2 != bt435.2) = true then (none) else ((laws_toBits.f k a0_0 l0_1).bind fun bt449 => ((laws_eqBits.f k bt439.1 bt439.2 bt449.1 bt449.2).bind fun t453 => (if t453 = true then ((laws_markBits.f k bt439.1 bt439.2 1).bind fun bt454 => (if bt454.1 < 0 then (none) else ((laws_eqIntS.f k bt444.1 bt435.1).bind fun t456 => (if t456 = true then ((laws_markIntS.f k bt444.1 1).bind fun bt457 => ((laws_heldIntS.f k bt457.2 1).bind fun t459 => (if t459 < 0 then (none) else (if t459 = bt457.1 then ((laws_toBits.f k a0_0 l0_1).bind fun bt460 => ((impl_DecodeDelta.f k bt460.1 bt460.2 a1).bind fun bt464 => ((laws_eqIntS.f k bt464.1 bt435.1).bind fun t468 => (if t468 = true then (if (bt464.2 != bt435.2) = true then (none) else ((laws_heldIntS.f k bt457.2 1).bind fun t469 => (if t469 < 0 then (none) else (if t469 = bt457.1 then (some true) else (none))))) else (none))))) else (none))))) else (none))))) else (none))))) else (none)))))))) = some r := H
  have A3 := Aside0.mk A30
  clear A30
  by_cases c4 : t430 < 0
  ·rw [if_pos c4] at H
   have c4b0 : decide (t430 < 0) = true := decide_eq_true c4
   clear c4
   obtain rfl := Option.some.inj H
   go_enter Try.func6, Try.ntmps6
   go_wp2_with (first | ((with_reducible refine gate_dst (N := 2) rfl ?_); refine box_event ?hg (N := 2) ?hd (cs := #[.int .i64 a0_0, .slice A0_1 l0_1.length c0_1]) (t := 33) ?hr ?_; (case hd => rfl); (case hg => rfl); (case hr => first | (go_simp; done) | (go_simp; rfl)); intro gb429 hg w5 hbox hb; have n0_ := Aside0.mk (below_step (by repeat (first | (with_reducible first | exact HB.out | apply below_alloc | apply pw_below_drewN | apply below_drew1) | exact HB.out)) hb); have n1_ := Aside0.mk (hbox); have n2_ := Aside0.mk ((by rw [hg]; exact (below_size (by repeat (first | (with_reducible first | exact HB.out | apply below_alloc | apply pw_below_drewN | apply below_drew1) | exact HB.out))) : w.heap.size ≤ gb429)); have n3_ := Aside0.mk ((by rw [hg]; exact (below_size (by repeat (first | (with_reducible first | exact HB.out | apply below_alloc | apply pw_below_drewN | apply below_drew1) | exact HB.out))) : w.heap.size ≤ gb429)); clear HB; have HB := n0_; have BK429 := n1_; have GW429 := n2_; have GE429 := n3_; clear n0_ n1_ n2_ n3_; clear hb hbox hg; have hcz6_0 : w5.cell? ⟨gb429, 0, none⟩ = some (.int .i64 a0_0) := (blk_cell BK429.out 0).trans rfl; have hcz6_1 : w5.cell? ⟨gb429, 1, none⟩ = some (.slice A0_1 l0_1.length c0_1) := (blk_cell BK429.out 1).trans rfl; have hfz6_0 := blk_frozen BK429.out 0; have hfz6_1 := blk_frozen BK429.out 1) | ((with_reducible refine gate_callee (f := 20) rfl ?_); refine goesL_ (some 18) rfl rfl Try.func20 (by kernel_rfl) rfl #[.agg #[.int .i64 a0_0, .slice A0_1 l0_1.length c0_1], .int .i64 1048576] rfl (by (try simp only [List.map_toArray, List.map_cons, List.map_nil]); first | done | rfl | (simp only [List.length_drop, List.length_take]; rfl)) ?_; (with_reducible refine (laws_szBits.calls a0_0 _ _ l0_1 1048576 t430 _ ?side1 ?side2 A3.out).mono ?_); (case side1 => repeat (first | exact (Kd.C_below HR0_1.out HB.out) | (with_reducible refine Kd.C_alloc ?_ _) | (with_reducible refine Kd.C_drewN ?_ _) | (with_reducible refine Kd.C_drew ?_))); (case side2 => exact HC0_1.out); rintro e w7 ⟨rfl, hb⟩; refine ⟨_, rfl, ?_⟩; have n0_ := Aside0.mk (blk_below (g := gb429) (o := .cells #[.int .i64 a0_0, .slice A0_1 l0_1.length c0_1] 33 (0, 0)) (by (with_reducible repeat (first | refine blk_drewN ?_ _ | refine blk_drew ?_ | refine blk_alloc ?_ _)); exact BK429.out) hb); have n1_ := Aside0.mk (below_step (by repeat (first | (with_reducible first | exact HB.out | apply below_alloc | apply pw_below_drewN | apply below_drew1 | refine below_set ?_ GE429.out) | exact HB.out)) hb); clear BK429; clear HB; have BK429 := n0_; have HB := n1_; clear n0_ n1_; (try clear hb); (try clear hb2); (try clear hk); (try clear hi)))
   go_ret
   exact ⟨by first | rfl | (simp [errW_none, errW_some] <;> rfl) | (simp [*, errW_none, errW_some] <;> rfl), by repeat (first | (with_reducible first | exact HB.out | apply below_alloc | apply pw_below_drewN | apply below_drew1 | refine below_set ?_ GE429.out) | exact HB.out)⟩
  ·rw [if_neg c4] at H
   have c4b0 : decide (t430 < 0) = false := decide_eq_false c4
   clear c4
   replace H := Option.bind_eq_some_iff.mp H
   obtain ⟨⟨t431, t432⟩, A80, H⟩ := H
   replace H : ((spec_DecodeDelta.f k t431 t432 a1).bind fun bt435 => ((laws_toBits.f k a0_0 l0_1).bind fun bt439 => ((impl_DecodeDelta.f k bt439.1 bt439.2 a1).bind fun bt444 => ((laws_eqIntS.f k bt444.1 bt435.1).bind fun t448 => (if t448 = true then (if (bt444.2 != bt435.2) = true then (none) else ((laws_toBits.f k a0_0 l0_1).bind fun bt449 => ((laws_eqBits.f k bt439.1 bt439.2 bt449.1 bt449.2).bind fun t453 => (if t453 = true then ((laws_markBits.f k bt439.1 bt439.2 1).bind fun bt454 => (if bt454.1 < 0 then (none) else ((laws_eqIntS.f k bt444.1 bt435.1).bind fun t456 => (if t456 = true then ((laws_markIntS.f k bt444.1 1).bind fun bt457 => ((laws_heldIntS.f k bt457.2 1).bind fun t459 => (if t459 < 0 then (none) else (if t459 = bt457.1 then ((laws_toBits.f k a0_0 l0_1).bind fun bt460 => ((impl_DecodeDelta.f k bt460.1 bt460.2 a1).bind fun bt464 => ((laws_eqIntS.f k bt464.1 bt435.1).bind fun t468 => (if t468 = true then (if (bt464.2 != bt435.2) = true then (none) else ((laws_heldIntS.f k bt457.2 1).bind fun t469 => (if t469 < 0 then (none) else (if t469 = bt457.1 then (some true) else (none))))) else (none))))) else (none))))) else (none))))) else (none))))) else (none)))))) = some r := H
   have A8 := Aside0.mk A80
   clear A80
   replace H := Option.bind_eq_some_iff.mp H
   obtain ⟨⟨t435, t438⟩, A90, H⟩ := H
   replace H : ((laws_toBits.f k a0_0 l0_1).bind fun bt439 => ((impl_DecodeDelta.f k bt439.1 bt439.2 a1).bind fun bt444 => ((laws_eqIntS.f k bt444.1 t435).bind fun t448 => (if t448 = true then (if (bt444.2 != t438) = true then (none) else ((laws_toBits.f k a0_0 l0_1).bind fun bt449 => ((laws_eqBits.f k bt439.1 bt439.2 bt449.1 bt449.2).bind fun t453 => (if t453 = true then ((laws_markBits.f k bt439.1 bt439.2 1).bind fun bt454 => (if bt454.1 < 0 then (none) else ((laws_eqIntS.f k bt444.1 t435).bind fun t456 => (if t456 = true then ((laws_markIntS.f k bt444.1 1).bind fun bt457 => ((laws_heldIntS.f k bt457.2 1).bind fun t459 => (if t459 < 0 then (none) else (if t459 = bt457.1 then ((laws_toBits.f k a0_0 l0_1).bind fun bt460 => ((impl_DecodeDelta.f k bt460.1 bt460.2 a1).bind fun bt464 => ((laws_eqIntS.f k bt464.1 t435).bind fun t468 => (if t468 = true then (if (bt464.2 != t438) = true then (none) else ((laws_heldIntS.f k bt457.2 1).bind fun t469 => (if t469 < 0 then (none) else (if t469 = bt457.1 then (some true) else (none))))) else (none))))) else (none))))) else (none))))) else (none))))) else (none))))) = some r := H
   have A9 := Aside0.mk A90
   clear A90
   replace H := Option.bind_eq_some_iff.mp H
   obtain ⟨⟨t439, t440⟩, A100, H⟩ := H
   replace H : ((impl_DecodeDelta.f k t439 t440 a1).bind fun bt444 => ((laws_eqIntS.f k bt444.1 t435).bind fun t448 => (if t448 = true then (if (bt444.2 != t438) = true then (none) else ((laws_toBits.f k a0_0 l0_1).bind fun bt449 => ((laws_eqBits.f k t439 t440 bt449.1 bt449.2).bind fun t453 => (if t453 = true then ((laws_markBits.f k t439 t440 1).bind fun bt454 => (if bt454.1 < 0 then (none) else ((laws_eqIntS.f k bt444.1 t435).bind fun t456 => (if t456 = true then ((laws_markIntS.f k bt444.1 1).bind fun bt457 => ((laws_heldIntS.f k bt457.2 1).bind fun t459 => (if t459 < 0 then (none) else (if t459 = bt457.1 then ((laws_toBits.f k a0_0 l0_1).bind fun bt460 => ((impl_DecodeDelta.f k bt460.1 bt460.2 a1).bind fun bt464 => ((laws_eqIntS.f k bt464.1 t435).bind fun t468 => (if t468 = true then (if (bt464.2 != t438) = true then (none) else ((laws_heldIntS.f k bt457.2 1).bind fun t469 => (if t469 < 0 then (none) else (if t469 = bt457.1 then (some true) else (none))))) else (none))))) else (none))))) else (none))))) else (none))))) else (none)))) = some r := H
   have A10 := Aside0.mk A100
   clear A100
   replace H := Option.bind_eq_some_iff.mp H
   obtain ⟨⟨t444, t447⟩, A110, H⟩ := H
   replace H : ((laws_eqIntS.f k t444 t435).bind fun t448 => (if t448 = true then (if (t447 != t438) = true then (none) else ((laws_toBits.f k a0_0 l0_1).bind fun bt449 => ((laws_eqBits.f k t439 t440 bt449.1 bt449.2).bind fun t453 => (if t453 = true then ((laws_markBits.f k t439 t440 1).bind fun bt454 => (if bt454.1 < 0 then (none) else ((laws_eqIntS.f k t444 t435).bind fun t456 => (if t456 = true then ((laws_markIntS.f k t444 1).bind fun bt457 => ((laws_heldIntS.f k bt457.2 1).bind fun t459 => (if t459 < 0 then (none) else (if t459 = bt457.1 then ((laws_toBits.f k a0_0 l0_1).bind fun bt460 => ((impl_DecodeDelta.f k bt460.1 bt460.2 a1).bind fun bt464 => ((laws_eqIntS.f k bt464.1 t435).bind fun t468 => (if t468 = true then (if (bt464.2 != t438) = true then (none) else ((laws_heldIntS.f k bt457.2 1).bind fun t469 => (if t469 < 0 then (none) else (if t469 = bt457.1 then (some true) else (none))))) else (none))))) else (none))))) else (none))))) else (none))))) else (none))) = some r := H
   have A11 := Aside0.mk A110
   clear A110
   replace H := Option.bind_eq_some_iff.mp H
   obtain ⟨t448, A120, H⟩ := H
   replace H : (if t448 = true then (if (t447 != t438) = true then (none) else ((laws_toBits.f k a0_0 l0_1).bind fun bt449 => ((laws_eqBits.f k t439 t440 bt449.1 bt449.2).bind fun t453 => (if t453 = true then ((laws_markBits.f k t439 t440 1).bind fun bt454 => (if bt454.1 < 0 then (none) else ((laws_eqIntS.f k t444 t435).bind fun t456 => (if t456 = true then ((laws_markIntS.f k t444 1).bind fun bt457 => ((laws_heldIntS.f k bt457.2 1).bind fun t459 => (if t459 < 0 then (none) else (if t459 = bt457.1 then ((laws_toBits.f k a0_0 l0_1).bind fun bt460 => ((impl_DecodeDelta.f k bt460.1 bt460.2 a1).bind fun bt464 => ((laws_eqIntS.f k bt464.1 t435).bind fun t468 => (if t468 = true then (if (bt464.2 != t438) = true then (none) else ((laws_heldIntS.f k bt457.2 1).bind fun t469 => (if t469 < 0 then (none) else (if t469 = bt457.1 then (some true) else (none))))) else (none))))) else (none))))) else (none))))) else (none))))) else (none)) = some r := H
   have A12 := Aside0.mk A120
   clear A120
   by_cases c13 : t448 = true
   ·subst c13
    have H1 : (if (t447 != t438) = true then (none) else ((laws_toBits.f k a0_0 l0_1).bind fun bt449 => ((laws_eqBits.f k t439 t440 bt449.1 bt449.2).bind fun t453 => (if t453 = true then ((laws_markBits.f k t439 t440 1).bind fun bt454 => (if bt454.1 < 0 then (none) else ((laws_eqIntS.f k t444 t435).bind fun t456 => (if t456 = true then ((laws_markIntS.f k t444 1).bind fun bt457 => ((laws_heldIntS.f k bt457.2 1).bind fun t459 => (if t459 < 0 then (none) else (if t459 = bt457.1 then ((laws_toBits.f k a0_0 l0_1).bind fun bt460 => ((impl_DecodeDelta.f k bt460.1 bt460.2 a1).bind fun bt464 => ((laws_eqIntS.f k bt464.1 t435).bind fun t468 => (if t468 = true then (if (bt464.2 != t438) = true then (none) else ((laws_heldIntS.f k bt457.2 1).bind fun t469 => (if t469 < 0 then (none) else (if t469 = bt457.1 then (some true) else (none))))) else (none))))) else (none))))) else (none))))) else (none))))) = some r := by rw [if_pos rfl] at H; exact H
    clear H
    have H := H1
    clear H1
    by_cases c14 : (t447 != t438) = true
    ·rw [if_pos c14] at H
     exact absurd H (by simp)
    ·rw [if_neg c14] at H
     have c14b0 : (t447 != t438) = false := by simpa using c14
     (try (have c14b1 : decide (t447 = t438) = true := by simpa using c14))
     (try (have c14b2 : (t447 == t438) = true := by simpa using c14))
     clear c14
     replace H := Option.bind_eq_some_iff.mp H
     obtain ⟨⟨t449, t450⟩, A150, H⟩ := H
     replace H : ((laws_eqBits.f k t439 t440 t449 t450).bind fun t453 => (if t453 = true then ((laws_markBits.f k t439 t440 1).bind fun bt454 => (if bt454.1 < 0 then (none) else ((laws_eqIntS.f k t444 t435).bind fun t456 => (if t456 = true then ((laws_markIntS.f k t444 1).bind fun bt457 => ((laws_heldIntS.f k bt457.2 1).bind fun t459 => (if t459 < 0 then (none) else (if t459 = bt457.1 then ((laws_toBits.f k a0_0 l0_1).bind fun bt460 => ((impl_DecodeDelta.f k bt460.1 bt460.2 a1).bind fun bt464 => ((laws_eqIntS.f k bt464.1 t435).bind fun t468 => (if t468 = true then (if (bt464.2 != t438) = true then (none) else ((laws_heldIntS.f k bt457.2 1).bind fun t469 => (if t469 < 0 then (none) else (if t469 = bt457.1 then (some true) else (none))))) else (none))))) else (none))))) else (none))))) else (none))) = some r := H
     have A15 := Aside0.mk A150
     clear A150
     replace H := Option.bind_eq_some_iff.mp H
     obtain ⟨t453, A160, H⟩ := H
     replace H : (if t453 = true then ((laws_markBits.f k t439 t440 1).bind fun bt454 => (if bt454.1 < 0 then (none) else ((laws_eqIntS.f k t444 t435).bind fun t456 => (if t456 = true then ((laws_markIntS.f k t444 1).bind fun bt457 => ((laws_heldIntS.f k bt457.2 1).bind fun t459 => (if t459 < 0 then (none) else (if t459 = bt457.1 then ((laws_toBits.f k a0_0 l0_1).bind fun bt460 => ((impl_DecodeDelta.f k bt460.1 bt460.2 a1).bind fun bt464 => ((laws_eqIntS.f k bt464.1 t435).bind fun t468 => (if t468 = true then (if (bt464.2 != t438) = true then (none) else ((laws_heldIntS.f k bt457.2 1).bind fun t469 => (if t469 < 0 then (none) else (if t469 = bt457.1 then (some true) else (none))))) else (none))))) else (none))))) else (none))))) else (none)) = some r := H
     have A16 := Aside0.mk A160
     clear A160
     by_cases c17 : t453 = true
     ·subst c17
      have H1 : ((laws_markBits.f k t439 t440 1).bind fun bt454 => (if bt454.1 < 0 then (none) else ((laws_eqIntS.f k t444 t435).bind fun t456 => (if t456 = true then ((laws_markIntS.f k t444 1).bind fun bt457 => ((laws_heldIntS.f k bt457.2 1).bind fun t459 => (if t459 < 0 then (none) else (if t459 = bt457.1 then ((laws_toBits.f k a0_0 l0_1).bind fun bt460 => ((impl_DecodeDelta.f k bt460.1 bt460.2 a1).bind fun bt464 => ((laws_eqIntS.f k bt464.1 t435).bind fun t468 => (if t468 = true then (if (bt464.2 != t438) = true then (none) else ((laws_heldIntS.f k bt457.2 1).bind fun t469 => (if t469 < 0 then (none) else (if t469 = bt457.1 then (some true) else (none))))) else (none))))) else (none))))) else (none))))) = some r := by rw [if_pos rfl] at H; exact H
      clear H
      have H := H1
      clear H1
      replace H := Option.bind_eq_some_iff.mp H
      obtain ⟨⟨t454, t455⟩, A180, H⟩ := H
      replace H : (if t454 < 0 then (none) else ((laws_eqIntS.f k t444 t435).bind fun t456 => (if t456 = true then ((laws_markIntS.f k t444 1).bind fun bt457 => ((laws_heldIntS.f k bt457.2 1).bind fun t459 => (if t459 < 0 then (none) else (if t459 = bt457.1 then ((laws_toBits.f k a0_0 l0_1).bind fun bt460 => ((impl_DecodeDelta.f k bt460.1 bt460.2 a1).bind fun bt464 => ((laws_eqIntS.f k bt464.1 t435).bind fun t468 => (if t468 = true then (if (bt464.2 != t438) = true then (none) else ((laws_heldIntS.f k bt457.2 1).bind fun t469 => (if t469 < 0 then (none) else (if t469 = bt457.1 then (some true) else (none))))) else (none))))) else (none))))) else (none)))) = some r := H
      have A18 := Aside0.mk A180
      clear A180
      by_cases c19 : t454 < 0
      ·rw [if_pos c19] at H
       exact absurd H (by simp)
      ·rw [if_neg c19] at H
       have c19b0 : decide (t454 < 0) = false := decide_eq_false c19
       clear c19
       replace H := Option.bind_eq_some_iff.mp H
       obtain ⟨t456, A200, H⟩ := H
       replace H : (if t456 = true then ((laws_markIntS.f k t444 1).bind fun bt457 => ((laws_heldIntS.f k bt457.2 1).bind fun t459 => (if t459 < 0 then (none) else (if t459 = bt457.1 then ((laws_toBits.f k a0_0 l0_1).bind fun bt460 => ((impl_DecodeDelta.f k bt460.1 bt460.2 a1).bind fun bt464 => ((laws_eqIntS.f k bt464.1 t435).bind fun t468 => (if t468 = true then (if (bt464.2 != t438) = true then (none) else ((laws_heldIntS.f k bt457.2 1).bind fun t469 => (if t469 < 0 then (none) else (if t469 = bt457.1 then (some true) else (none))))) else (none))))) else (none))))) else (none)) = some r := H
       have A20 := Aside0.mk A200
       clear A200
       by_cases c21 : t456 = true
       ·subst c21
        have H1 : ((laws_markIntS.f k t444 1).bind fun bt457 => ((laws_heldIntS.f k bt457.2 1).bind fun t459 => (if t459 < 0 then (none) else (if t459 = bt457.1 then ((laws_toBits.f k a0_0 l0_1).bind fun bt460 => ((impl_DecodeDelta.f k bt460.1 bt460.2 a1).bind fun bt464 => ((laws_eqIntS.f k bt464.1 t435).bind fun t468 => (if t468 = true then (if (bt464.2 != t438) = true then (none) else ((laws_heldIntS.f k bt457.2 1).bind fun t469 => (if t469 < 0 then (none) else (if t469 = bt457.1 then (some true) else (none))))) else (none))))) else (none))))) = some r := by rw [if_pos rfl] at H; exact H
        clear H
        have H := H1
        clear H1
        replace H := Option.bind_eq_some_iff.mp H
        obtain ⟨⟨t457, t458⟩, A220, H⟩ := H
        replace H : ((laws_heldIntS.f k t458 1).bind fun t459 => (if t459 < 0 then (none) else (if t459 = t457 then ((laws_toBits.f k a0_0 l0_1).bind fun bt460 => ((impl_DecodeDelta.f k bt460.1 bt460.2 a1).bind fun bt464 => ((laws_eqIntS.f k bt464.1 t435).bind fun t468 => (if t468 = true then (if (bt464.2 != t438) = true then (none) else ((laws_heldIntS.f k t458 1).bind fun t469 => (if t469 < 0 then (none) else (if t469 = t457 then (some true) else (none))))) else (none))))) else (none)))) = some r := H
        have A22 := Aside0.mk A220
        clear A220
        replace H := Option.bind_eq_some_iff.mp H
        obtain ⟨t459, A230, H⟩ := H
        replace H : (if t459 < 0 then (none) else (if t459 = t457 then ((laws_toBits.f k a0_0 l0_1).bind fun bt460 => ((impl_DecodeDelta.f k bt460.1 bt460.2 a1).bind fun bt464 => ((laws_eqIntS.f k bt464.1 t435).bind fun t468 => (if t468 = true then (if (bt464.2 != t438) = true then (none) else ((laws_heldIntS.f k t458 1).bind fun t469 => (if t469 < 0 then (none) else (if t469 = t457 then (some true) else (none))))) else (none))))) else (none))) = some r := H
        have A23 := Aside0.mk A230
        clear A230
        by_cases c24 : t459 < 0
        ·rw [if_pos c24] at H
         exact absurd H (by simp)
        ·rw [if_neg c24] at H
         have c24b0 : decide (t459 < 0) = false := decide_eq_false c24
         clear c24
         by_cases c25 : t459 = t457
         ·rw [if_pos c25] at H
          have c25b0 : (t459 == t457) = true := beq_iff_eq.mpr c25
          have c25b1 : (t459 != t457) = false := bne_eq_false_iff_eq.mpr c25
          clear c25
          replace H := Option.bind_eq_some_iff.mp H
          obtain ⟨⟨t460, t461⟩, A260, H⟩ := H
          replace H : ((impl_DecodeDelta.f k t460 t461 a1).bind fun bt464 => ((laws_eqIntS.f k bt464.1 t435).bind fun t468 => (if t468 = true then (if (bt464.2 != t438) = true then (none) else ((laws_heldIntS.f k t458 1).bind fun t469 => (if t469 < 0 then (none) else (if t469 = t457 then (some true) else (none))))) else (none)))) = some r := H
          have A26 := Aside0.mk A260
          clear A260
          replace H := Option.bind_eq_some_iff.mp H
          obtain ⟨⟨t464, t467⟩, A270, H⟩ := H
          replace H : ((laws_eqIntS.f k t464 t435).bind fun t468 => (if t468 = true then (if (t467 != t438) = true then (none) else ((laws_heldIntS.f k t458 1).bind fun t469 => (if t469 < 0 then (none) else (if t469 = t457 then (some true) else (none))))) else (none))) = some r := H
          have A27 := Aside0.mk A270
          clear A270
          replace H := Option.bind_eq_some_iff.mp H
          obtain ⟨t468, A280, H⟩ := H
          replace H : (if t468 = true then (if (t467 != t438) = true then (none) else ((laws_heldIntS.f k t458 1).bind fun t469 => (if t469 < 0 then (none) else (if t469 = t457 then (some true) else (none))))) else (none)) = some r := H
          have A28 := Aside0.mk A280
          clear A280
          by_cases c29 : t468 = true
          ·subst c29
           have H1 : (if (t467 != t438) = true then (none) else ((laws_heldIntS.f k t458 1).bind fun t469 => (if t469 < 0 then (none) else (if t469 = t457 then (some true) else (none))))) = some r := by rw [if_pos rfl] at H; exact H
           clear H
           have H := H1
           clear H1
           by_cases c30 : (t467 != t438) = true
           ·rw [if_pos c30] at H
            exact absurd H (by simp)
           ·rw [if_neg c30] at H
            have c30b0 : (t467 != t438) = false := by simpa using c30
            (try (have c30b1 : decide (t467 = t438) = true := by simpa using c30))
            (try (have c30b2 : (t467 == t438) = true := by simpa using c30))
            clear c30
            replace H := Option.bind_eq_some_iff.mp H
            obtain ⟨t469, A310, H⟩ := H
            replace H : (if t469 < 0 then (none) else (if t469 = t457 then (some true) else (none))) = some r := H
            have A31 := Aside0.mk A310
            clear A310
            by_cases c32 : t469 < 0
            ·rw [if_pos c32] at H
             exact absurd H (by simp)
            ·rw [if_neg c32] at H
             have c32b0 : decide (t469 < 0) = false := decide_eq_false c32
             clear c32
             by_cases c33 : t469 = t457
             ·rw [if_pos c33] at H
              have c33b0 : (t469 == t457) = true := beq_iff_eq.mpr c33
              have c33b1 : (t469 != t457) = false := bne_eq_false_iff_eq.mpr c33
              clear c33
              obtain rfl := Option.some.inj H
              go_enter Try.func6, Try.ntmps6
              try go_wp2_with (first | ((with_reducible refine gate_dst (N := 2) rfl ?_); refine box_event ?hg (N := 2) ?hd (cs := #[.int .i64 a0_0, .slice A0_1 l0_1.length c0_1]) (t := 33) ?hr ?_; (case hd => rfl); (case hg => rfl); (case hr => first | (go_simp; done) | (go_simp; rfl)); intro gb429 hg w34 hbox hb; have n0_ := Aside0.mk (below_step (by repeat (first | (with_reducible first | exact HB.out | apply below_alloc | apply pw_below_drewN | apply below_drew1) | exact HB.out)) hb); have n1_ := Aside0.mk (hbox); have n2_ := Aside0.mk ((by rw [hg]; exact (below_size (by repeat (first | (with_reducible first | exact HB.out | apply below_alloc | apply pw_below_drewN | apply below_drew1) | exact HB.out))) : w.heap.size ≤ gb429)); have n3_ := Aside0.mk ((by rw [hg]; exact (below_size (by repeat (first | (with_reducible first | exact HB.out | apply below_alloc | apply pw_below_drewN | apply below_drew1) | exact HB.out))) : w.heap.size ≤ gb429)); clear HB; have HB := n0_; have BK429 := n1_; have GW429 := n2_; have GE429 := n3_; clear n0_ n1_ n2_ n3_; clear hb hbox hg; have hcz35_0 : w34.cell? ⟨gb429, 0, none⟩ = some (.int .i64 a0_0) := (blk_cell BK429.out 0).trans rfl; have hcz35_1 : w34.cell? ⟨gb429, 1, none⟩ = some (.slice A0_1 l0_1.length c0_1) := (blk_cell BK429.out 1).trans rfl; have hfz35_0 := blk_frozen BK429.out 0; have hfz35_1 := blk_frozen BK429.out 1) | ((with_reducible refine gate_callee (f := 20) rfl ?_); refine goesL_ (some 18) rfl rfl Try.func20 (by kernel_rfl) rfl #[.agg #[.int .i64 a0_0, .slice A0_1 l0_1.length c0_1], .int .i64 1048576] rfl (by (try simp only [List.map_toArray, List.map_cons, List.map_nil]); first | done | rfl | (simp only [List.length_drop, List.length_take]; rfl)) ?_; (with_reducible refine (laws_szBits.calls a0_0 _ _ l0_1 1048576 t430 _ ?side1 ?side2 A3.out).mono ?_); (case side1 => repeat (first | exact (Kd.C_below HR0_1.out HB.out) | (with_reducible refine Kd.C_alloc ?_ _) | (with_reducible refine Kd.C_drewN ?_ _) | (with_reducible refine Kd.C_drew ?_))); (case side2 => exact HC0_1.out); rintro e w36 ⟨rfl, hb⟩; refine ⟨_, rfl, ?_⟩; have n0_ := Aside0.mk (blk_below (g := gb429) (o := .cells #[.int .i64 a0_0, .slice A0_1 l0_1.length c0_1] 33 (0, 0)) (by (with_reducible repeat (first | refine blk_drewN ?_ _ | refine blk_drew ?_ | refine blk_alloc ?_ _)); exact BK429.out) hb); have n1_ := Aside0.mk (below_step (by repeat (first | (with_reducible first | exact HB.out | apply below_alloc | apply pw_below_drewN | apply below_drew1 | refine below_set ?_ GE429.out) | exact HB.out)) hb); clear BK429; clear HB; have BK429 := n0_; have HB := n1_; clear n0_ n1_; (try clear hb); (try clear hb2); (try clear hk); (try clear hi); have hcz37_0 : w36.cell? ⟨gb429, 0, none⟩ = some (.int .i64 a0_0) := (blk_cell BK429.out 0).trans rfl; have hcz37_1 : w36.cell? ⟨gb429, 1, none⟩ = some (.slice A0_1 l0_1.length c0_1) := (blk_cell BK429.out 1).trans rfl; have hfz37_0 := blk_frozen BK429.out 0; have hfz37_1 := blk_frozen BK429.out 1) | ((with_reducible refine gate_callee (f := 22) rfl ?_); refine goesL_ (some 23) rfl rfl Try.func22 (by kernel_rfl) rfl #[.agg #[.int .i64 a0_0, .slice A0_1 l0_1.length c0_1]] rfl (by (try simp only [List.map_toArray, List.map_cons, List.map_nil]); first | done | rfl | (simp only [List.length_drop, List.length_take]; rfl)) ?_; (with_reducible refine (laws_toBits.calls k a0_0 _ _ l0_1 t431 t432 _ ?side1 ?side2 A8.out).mono ?_); (case side1 => repeat (first | exact (Kd.C_below HR0_1.out HB.out) | (with_reducible refine Kd.C_alloc ?_ _) | (with_reducible refine Kd.C_drewN ?_ _) | (with_reducible refine Kd.C_drew ?_))); (case side2 => exact HC0_1.out); rintro e w38 ⟨v433, rfl, ho0, hb⟩; refine ⟨_, rfl, ?_⟩; have n0_ := Aside0.mk (Kd.R_lower ho0 (below_size (by repeat (first | (with_reducible first | exact HB.out | apply below_alloc | apply pw_below_drewN | apply below_drew1 | refine below_set ?_ GE429.out) | exact HB.out)))); have n1_ := Aside0.mk (blk_below (g := gb429) (o := .cells #[.int .i64 a0_0, .slice A0_1 l0_1.length c0_1] 33 (0, 0)) (by (with_reducible repeat (first | refine blk_drewN ?_ _ | refine blk_drew ?_ | refine blk_alloc ?_ _)); exact BK429.out) hb); have n2_ := Aside0.mk (below_step (by repeat (first | (with_reducible first | exact HB.out | apply below_alloc | apply pw_below_drewN | apply below_drew1 | refine below_set ?_ GE429.out) | exact HB.out)) hb); clear BK429; clear HB; have HO434 := n0_; have BK429 := n1_; have HB := n2_; clear n0_ n1_ n2_; (try clear hb); (try clear hb2); (try clear hk); (try clear hi); (try clear ho0); obtain ⟨Ao39, co39, eo39⟩ := Kd.R_slice HO434.out; subst eo39) | ((with_reducible refine gate_callee (f := 25) rfl ?_); refine goesL_ (some 25) rfl rfl Try.func25 (by kernel_rfl) rfl #[.agg #[.int .i64 t431, .slice Ao39 t432.length co39], .int .i64 a1] rfl (by (try simp only [List.map_toArray, List.map_cons, List.map_nil]); first | done | rfl | (simp only [List.length_drop, List.length_take]; rfl)) ?_; (with_reducible refine (spec_DecodeDelta.calls k t431 _ _ t432 a1 t435 t438 _ ?side1 ?side2 A9.out).mono ?_); (case side1 => repeat (first | exact (Kd.R_reads' HO434.out).2.2 | (with_reducible refine Kd.C_alloc ?_ _) | (with_reducible refine Kd.C_drewN ?_ _) | (with_reducible refine Kd.C_drew ?_))); (case side2 => exact (Kd.R_reads' HO434.out).2.1); rintro e w40 ⟨v436, rfl, ho0, hb⟩; refine ⟨_, rfl, ?_⟩; have n0_ := Aside0.mk (Kd.R_elder' (by (with_reducible repeat (first | apply Kd.R_alloc | apply Kd.R_drewN | apply Kd.R_drew)); exact HO434.out) (Kd.R_base ho0) hb); have n1_ := Aside0.mk (Kd.R_lower (Kd.R_new' ho0 (Kd.R_lt (by (with_reducible repeat (first | apply Kd.R_alloc | apply Kd.R_drewN | apply Kd.R_drew)); exact HO434.out))) (below_size (by repeat (first | (with_reducible first | exact HB.out | apply below_alloc | apply pw_below_drewN | apply below_drew1 | refine below_set ?_ GE429.out) | exact HB.out)))); have n2_ := Aside0.mk (blk_below (g := gb429) (o := .cells #[.int .i64 a0_0, .slice A0_1 l0_1.length c0_1] 33 (0, 0)) (by (with_reducible repeat (first | refine blk_drewN ?_ _ | refine blk_drew ?_ | refine blk_alloc ?_ _)); exact BK429.out) hb); have n3_ := Aside0.mk (below_step (by repeat (first | (with_reducible first | exact HB.out | apply below_alloc | apply pw_below_drewN | apply below_drew1 | refine below_set ?_ GE429.out) | exact HB.out)) hb); clear HO434; clear BK429; clear HB; have HO434 := n0_; have HO437 := n1_; have BK429 := n2_; have HB := n3_; clear n0_ n1_ n2_ n3_; (try clear hb); (try clear hb2); (try clear hk); (try clear hi); (try clear ho0); have hcz41_0 : w40.cell? ⟨gb429, 0, none⟩ = some (.int .i64 a0_0) := (blk_cell BK429.out 0).trans rfl; have hcz41_1 : w40.cell? ⟨gb429, 1, none⟩ = some (.slice A0_1 l0_1.length c0_1) := (blk_cell BK429.out 1).trans rfl; have hfz41_0 := blk_frozen BK429.out 0; have hfz41_1 := blk_frozen BK429.out 1) | ((with_reducible refine gate_callee (f := 22) rfl ?_); refine goesL_ (some 29) rfl rfl Try.func22 (by kernel_rfl) rfl #[.agg #[.int .i64 a0_0, .slice A0_1 l0_1.length c0_1]] rfl (by (try simp only [List.map_toArray, List.map_cons, List.map_nil]); first | done | rfl | (simp only [List.length_drop, List.length_take]; rfl)) ?_; (with_reducible refine (laws_toBits.calls k a0_0 _ _ l0_1 t439 t440 _ ?side1 ?side2 A10.out).mono ?_); (case side1 => repeat (first | exact (Kd.C_below HR0_1.out HB.out) | (with_reducible refine Kd.C_alloc ?_ _) | (with_reducible refine Kd.C_drewN ?_ _) | (with_reducible refine Kd.C_drew ?_))); (case side2 => exact HC0_1.out); rintro e w42 ⟨v441, rfl, ho0, hb⟩; refine ⟨_, rfl, ?_⟩; have n0_ := Aside0.mk (Kd.R_elder' (by (with_reducible repeat (first | apply Kd.R_alloc | apply Kd.R_drewN | apply Kd.R_drew)); exact HO434.out) (Kd.R_base ho0) hb); have n1_ := Aside0.mk (Kd.R_elder' (by (with_reducible repeat (first | apply Kd.R_alloc | apply Kd.R_drewN | apply Kd.R_drew)); exact HO437.out) (Kd.R_base ho0) hb); have n2_ := Aside0.mk (Kd.R_lower (Kd.R_new' (Kd.R_new' ho0 (Kd.R_lt (by (with_reducible repeat (first | apply Kd.R_alloc | apply Kd.R_drewN | apply Kd.R_drew)); exact HO434.out))) (Kd.R_lt (by (with_reducible repeat (first | apply Kd.R_alloc | apply Kd.R_drewN | apply Kd.R_drew)); exact HO437.out))) (below_size (by repeat (first | (with_reducible first | exact HB.out | apply below_alloc | apply pw_below_drewN | apply below_drew1 | refine below_set ?_ GE429.out) | exact HB.out)))); have n3_ := Aside0.mk (blk_below (g := gb429) (o := .cells #[.int .i64 a0_0, .slice A0_1 l0_1.length c0_1] 33 (0, 0)) (by (with_reducible repeat (first | refine blk_drewN ?_ _ | refine blk_drew ?_ | refine blk_alloc ?_ _)); exact BK429.out) hb); have n4_ := Aside0.mk (below_step (by repeat (first | (with_reducible first | exact HB.out | apply below_alloc | apply pw_below_drewN | apply below_drew1 | refine below_set ?_ GE429.out) | exact HB.out)) hb); clear HO434; clear HO437; clear BK429; clear HB; have HO434 := n0_; have HO437 := n1_; have HO442 := n2_; have BK429 := n3_; have HB := n4_; clear n0_ n1_ n2_ n3_ n4_; (try clear hb); (try clear hb2); (try clear hk); (try clear hi); (try clear ho0)) | ((with_reducible refine gate_dst (N := 8) rfl ?_); refine box_event ?hg (N := 8) ?hd (cs := #[.int .i64 0, .slice none 0 0]) (t := 24) ?hr ?_; (case hd => rfl); (case hg => rfl); (case hr => first | (go_simp; done) | (go_simp; rfl)); intro gb443 hg w43 hbox hb; have n0_ := Aside0.mk (Kd.R_below (by (with_reducible repeat (first | apply Kd.R_alloc | apply Kd.R_drewN | apply Kd.R_drew)); exact HO434.out) hb); have n1_ := Aside0.mk (Kd.R_below (by (with_reducible repeat (first | apply Kd.R_alloc | apply Kd.R_drewN | apply Kd.R_drew)); exact HO437.out) hb); have n2_ := Aside0.mk (Kd.R_below (by (with_reducible repeat (first | apply Kd.R_alloc | apply Kd.R_drewN | apply Kd.R_drew)); exact HO442.out) hb); have n3_ := Aside0.mk (blk_below (g := gb429) (o := .cells #[.int .i64 a0_0, .slice A0_1 l0_1.length c0_1] 33 (0, 0)) (by (with_reducible repeat (first | refine blk_drewN ?_ _ | refine blk_drew ?_ | refine blk_alloc ?_ _)); exact BK429.out) hb); have n4_ := Aside0.mk (below_step (by repeat (first | (with_reducible first | exact HB.out | apply below_alloc | apply pw_below_drewN | apply below_drew1 | refine below_set ?_ GE429.out) | exact HB.out)) hb); have n5_ := Aside0.mk (hbox); have n6_ := Aside0.mk ((by rw [hg]; exact (below_size (by repeat (first | (with_reducible first | exact HB.out | apply below_alloc | apply pw_below_drewN | apply below_drew1 | refine below_set ?_ GE429.out) | exact HB.out))) : w.heap.size ≤ gb443)); have n7_ := Aside0.mk ((by rw [hg]; exact (below_size (by repeat (first | (with_reducible first | exact HB.out | apply below_alloc | apply pw_below_drewN | apply below_drew1 | refine below_set ?_ GE429.out) | exact HB.out))) : w.heap.size ≤ gb443)); have n8_ := Aside0.mk ((by rw [hg]; exact Nat.ne_of_lt (blk_lt (g := gb429) (o := .cells #[.int .i64 a0_0, .slice A0_1 l0_1.length c0_1] 33 (0, 0)) (by (with_reducible repeat (first | refine blk_drewN ?_ _ | refine blk_drew ?_ | refine blk_alloc ?_ _)); exact BK429.out)) : gb429 ≠ gb443)); have n9_ := Aside0.mk ((by rw [hg]; exact Nat.ne_of_gt (blk_lt (g := gb429) (o := .cells #[.int .i64 a0_0, .slice A0_1 l0_1.length c0_1] 33 (0, 0)) (by (with_reducible repeat (first | refine blk_drewN ?_ _ | refine blk_drew ?_ | refine blk_alloc ?_ _)); exact BK429.out)) : gb443 ≠ gb429)); clear HO434; clear HO437; clear HO442; clear BK429; clear HB; have HO434 := n0_; have HO437 := n1_; have HO442 := n2_; have BK429 := n3_; have HB := n4_; have BK443 := n5_; have GW443 := n6_; have GE443 := n7_; have NB429_443 := n8_; have NB443_429 := n9_; clear n0_ n1_ n2_ n3_ n4_ n5_ n6_ n7_ n8_ n9_; clear hb hbox hg; have hnb44 := NB443_429.out; have hnc44 := NB429_443.out; have hcz45_0 : w43.cell? ⟨gb443, 0, none⟩ = some (.int .i64 0) := (blk_cell BK443.out 0).trans rfl; have hcz45_1 : w43.cell? ⟨gb443, 1, none⟩ = some (.slice none 0 0) := (blk_cell BK443.out 1).trans rfl; have hfz45_0 := blk_frozen BK443.out 0; have hfz45_1 := blk_frozen BK443.out 1; obtain ⟨Ao46, co46, eo46⟩ := Kd.R_slice HO442.out; subst eo46) | ((with_reducible refine gate_callee (f := 26) rfl ?_); refine goesL_ (some 33) rfl rfl Try.func26 (by kernel_rfl) rfl #[.agg #[.int .i64 t439, .slice Ao46 t440.length co46], .int .i64 a1] rfl (by (try simp only [List.map_toArray, List.map_cons, List.map_nil]); first | done | rfl | (simp only [List.length_drop, List.length_take]; rfl)) ?_; (with_reducible refine (impl_DecodeDelta.calls k t439 _ _ t440 a1 t444 t447 _ ?side1 ?side2 A11.out).mono ?_); (case side1 => refine (Kd.R_reads' (e := 3) (base := w.heap.size) (ok := fun k_ => ((True ∧ some k_ ≠ (.slice Ao39 t432.length co39 : Value).ownBlock) ∧ some k_ ≠ (v436 : Value).ownBlock)) (n := t440.length) (c := co46) ?_).2.2; exact (by (with_reducible repeat (first | apply Kd.R_alloc | apply Kd.R_drewN | apply Kd.R_drew)); exact (Kd.R_mono (Kd.R_far (p := ⟨gb443, 1, none⟩) (Kd.R_far (p := ⟨gb443, 0, none⟩) (Kd.R_types HO442.out BK443.out (by decide)) (fun _ hk => hk.2) (.int .i64 t439)) (fun _ hk => hk.2) (.slice Ao46 t440.length co46)) (fun _ h_ => h_.1)))); (case side2 => exact (Kd.R_reads' HO442.out).2.1); rintro e w47 ⟨v445, rfl, ho0, hb⟩; refine ⟨_, rfl, ?_⟩; have n0_ := Aside0.mk (Kd.R_elder' (by (with_reducible repeat (first | apply Kd.R_alloc | apply Kd.R_drewN | apply Kd.R_drew)); exact (Kd.R_mono (Kd.R_far (p := ⟨gb443, 1, none⟩) (Kd.R_far (p := ⟨gb443, 0, none⟩) (Kd.R_types HO434.out BK443.out (by decide)) (fun _ hk => hk.2) (.int .i64 t439)) (fun _ hk => hk.2) (.slice Ao46 t440.length co46)) (fun _ h_ => h_.1))) (Kd.R_base ho0) hb); have n1_ := Aside0.mk (Kd.R_elder' (by (with_reducible repeat (first | apply Kd.R_alloc | apply Kd.R_drewN | apply Kd.R_drew)); exact (Kd.R_mono (Kd.R_far (p := ⟨gb443, 1, none⟩) (Kd.R_far (p := ⟨gb443, 0, none⟩) (Kd.R_types HO437.out BK443.out (by decide)) (fun _ hk => hk.2) (.int .i64 t439)) (fun _ hk => hk.2) (.slice Ao46 t440.length co46)) (fun _ h_ => h_.1))) (Kd.R_base ho0) hb); have n2_ := Aside0.mk (Kd.R_elder' (by (with_reducible repeat (first | apply Kd.R_alloc | apply Kd.R_drewN | apply Kd.R_drew)); exact (Kd.R_mono (Kd.R_far (p := ⟨gb443, 1, none⟩) (Kd.R_far (p := ⟨gb443, 0, none⟩) (Kd.R_types HO442.out BK443.out (by decide)) (fun _ hk => hk.2) (.int .i64 t439)) (fun _ hk => hk.2) (.slice Ao46 t440.length co46)) (fun _ h_ => h_.1))) (Kd.R_base ho0) hb); have n3_ := Aside0.mk (Kd.R_lower (Kd.R_new' (Kd.R_new' (Kd.R_new' ho0 (Kd.R_lt (by (with_reducible repeat (first | apply Kd.R_alloc | apply Kd.R_drewN | apply Kd.R_drew)); exact (Kd.R_mono (Kd.R_far (p := ⟨gb443, 1, none⟩) (Kd.R_far (p := ⟨gb443, 0, none⟩) (Kd.R_types HO434.out BK443.out (by decide)) (fun _ hk => hk.2) (.int .i64 t439)) (fun _ hk => hk.2) (.slice Ao46 t440.length co46)) (fun _ h_ => h_.1))))) (Kd.R_lt (by (with_reducible repeat (first | apply Kd.R_alloc | apply Kd.R_drewN | apply Kd.R_drew)); exact (Kd.R_mono (Kd.R_far (p := ⟨gb443, 1, none⟩) (Kd.R_far (p := ⟨gb443, 0, none⟩) (Kd.R_types HO437.out BK443.out (by decide)) (fun _ hk => hk.2) (.int .i64 t439)) (fun _ hk => hk.2) (.slice Ao46 t440.length co46)) (fun _ h_ => h_.1))))) (Kd.R_lt (by (with_reducible repeat (first | apply Kd.R_alloc | apply Kd.R_drewN | apply Kd.R_drew)); exact (Kd.R_mono (Kd.R_far (p := ⟨gb443, 1, none⟩) (Kd.R_far (p := ⟨gb443, 0, none⟩) (Kd.R_types HO442.out BK443.out (by decide)) (fun _ hk => hk.2) (.int .i64 t439)) (fun _ hk => hk.2) (.slice Ao46 t440.length co46)) (fun _ h_ => h_.1))))) (below_size (by repeat (first | (with_reducible first | exact HB.out | apply below_alloc | apply pw_below_drewN | apply below_drew1 | refine below_set ?_ GE429.out | refine below_set ?_ GE443.out) | exact HB.out)))); have n4_ := Aside0.mk (blk_below (g := gb429) (o := .cells #[.int .i64 a0_0, .slice A0_1 l0_1.length c0_1] 33 (0, 0)) (by (with_reducible repeat (first | refine blk_drewN ?_ _ | refine blk_drew ?_ | refine blk_alloc ?_ _)); refine blk_far ?_ NB429_443.out _; (with_reducible repeat (first | refine blk_drewN ?_ _ | refine blk_drew ?_ | refine blk_alloc ?_ _)); refine blk_far ?_ NB429_443.out _; (with_reducible repeat (first | refine blk_drewN ?_ _ | refine blk_drew ?_ | refine blk_alloc ?_ _)); exact BK429.out) hb); have n5_ := Aside0.mk (blk_below (g := gb443) (o := .cells #[.int .i64 t439, .slice Ao46 t440.length co46] 24 (0, 0)) (by (with_reducible repeat (first | refine blk_drewN ?_ _ | refine blk_drew ?_ | refine blk_alloc ?_ _)); refine blk_put (cs := #[.int .i64 t439, .slice none 0 0]) ?_ 1 _ rfl; (with_reducible repeat (first | refine blk_drewN ?_ _ | refine blk_drew ?_ | refine blk_alloc ?_ _)); refine blk_put (cs := #[.int .i64 0, .slice none 0 0]) ?_ 0 _ rfl; (with_reducible repeat (first | refine blk_drewN ?_ _ | refine blk_drew ?_ | refine blk_alloc ?_ _)); exact BK443.out) hb); have n6_ := Aside0.mk (below_step (by repeat (first | (with_reducible first | exact HB.out | apply below_alloc | apply pw_below_drewN | apply below_drew1 | refine below_set ?_ GE429.out | refine below_set ?_ GE443.out) | exact HB.out)) hb); clear HO434; clear HO437; clear HO442; clear BK429; clear BK443; clear HB; have HO434 := n0_; have HO437 := n1_; have HO442 := n2_; have HO446 := n3_; have BK429 := n4_; have BK443 := n5_; have HB := n6_; clear n0_ n1_ n2_ n3_ n4_ n5_ n6_; (try clear hb); (try clear hb2); (try clear hk); (try clear hi); (try clear ho0); obtain ⟨Ao48, co48, eo48⟩ := Kd.R_slice HO446.out; subst eo48; obtain ⟨Ao49, co49, eo49⟩ := Kd.R_slice HO437.out; subst eo49) | ((with_reducible refine gate_callee (f := 14) rfl ?_); refine goesL_ (some 38) rfl rfl Try.func14 (by kernel_rfl) rfl #[.slice Ao48 t444.length co48, .slice Ao49 t435.length co49] rfl (by (try simp only [List.map_toArray, List.map_cons, List.map_nil]); first | done | rfl | (simp only [List.length_drop, List.length_take]; rfl)) ?_; (with_reducible refine (laws_eqIntS.calls k _ _ t444 _ _ t435 true _ ?side1 ?side2 ?side3 ?side4 A12.out).mono ?_); (case side1 => repeat (first | exact (Kd.R_reads' HO446.out).2.2 | (with_reducible refine Kd.C_alloc ?_ _) | (with_reducible refine Kd.C_drewN ?_ _) | (with_reducible refine Kd.C_drew ?_))); (case side2 => exact (Kd.R_reads' HO446.out).2.1); (case side3 => repeat (first | exact (Kd.R_reads' HO437.out).2.2 | (with_reducible refine Kd.C_alloc ?_ _) | (with_reducible refine Kd.C_drewN ?_ _) | (with_reducible refine Kd.C_drew ?_))); (case side4 => exact (Kd.R_reads' HO437.out).2.1); rintro e w' ⟨rfl, ⟨nd, rfl⟩⟩; refine ⟨_, rfl, ?_⟩))
              (try (rw [drewN_self w47]; generalize hq_ : World.drewN w47 _ = w47; have n0_ : Aside0 (Kd.R (Kd.int .i64) 3 w47 w.heap.size (fun k_ => (((True ∧ some k_ ≠ (.slice Ao49 t435.length co49 : Value).ownBlock) ∧ some k_ ≠ (.slice Ao46 t440.length co46 : Value).ownBlock) ∧ some k_ ≠ (.slice Ao48 t444.length co48 : Value).ownBlock)) (.slice Ao39 t432.length co39) t432) := ⟨by rw [← hq_]; exact (by (with_reducible repeat (first | apply Kd.R_alloc | apply Kd.R_drewN | apply Kd.R_drew)); exact HO434.out)⟩; have n1_ : Aside0 (Kd.R (Kd.int .i64) 3 w47 w.heap.size (fun k_ => (((True ∧ some k_ ≠ (.slice Ao39 t432.length co39 : Value).ownBlock) ∧ some k_ ≠ (.slice Ao46 t440.length co46 : Value).ownBlock) ∧ some k_ ≠ (.slice Ao48 t444.length co48 : Value).ownBlock)) (.slice Ao49 t435.length co49) t435) := ⟨by rw [← hq_]; exact (by (with_reducible repeat (first | apply Kd.R_alloc | apply Kd.R_drewN | apply Kd.R_drew)); exact HO437.out)⟩; have n2_ : Aside0 (Kd.R (Kd.int .i64) 3 w47 w.heap.size (fun k_ => (((True ∧ some k_ ≠ (.slice Ao39 t432.length co39 : Value).ownBlock) ∧ some k_ ≠ (.slice Ao49 t435.length co49 : Value).ownBlock) ∧ some k_ ≠ (.slice Ao48 t444.length co48 : Value).ownBlock)) (.slice Ao46 t440.length co46) t440) := ⟨by rw [← hq_]; exact (by (with_reducible repeat (first | apply Kd.R_alloc | apply Kd.R_drewN | apply Kd.R_drew)); exact HO442.out)⟩; have n3_ : Aside0 (Kd.R (Kd.int .i64) 3 w47 w.heap.size (fun k_ => (((True ∧ some k_ ≠ (.slice Ao39 t432.length co39 : Value).ownBlock) ∧ some k_ ≠ (.slice Ao49 t435.length co49 : Value).ownBlock) ∧ some k_ ≠ (.slice Ao46 t440.length co46 : Value).ownBlock)) (.slice Ao48 t444.length co48) t444) := ⟨by rw [← hq_]; exact (by (with_reducible repeat (first | apply Kd.R_alloc | apply Kd.R_drewN | apply Kd.R_drew)); exact HO446.out)⟩; have n4_ : Aside0 (w47.heap[gb429]? = some (.cells #[.int .i64 a0_0, .slice A0_1 l0_1.length c0_1] 33 (0, 0))) := ⟨by rw [← hq_]; exact (by (with_reducible repeat (first | refine blk_drewN ?_ _ | refine blk_drew ?_ | refine blk_alloc ?_ _)); exact BK429.out)⟩; have n5_ : Aside0 (w47.heap[gb443]? = some (.cells #[.int .i64 t439, .slice Ao46 t440.length co46] 24 (0, 0))) := ⟨by rw [← hq_]; exact (by (with_reducible repeat (first | refine blk_drewN ?_ _ | refine blk_drew ?_ | refine blk_alloc ?_ _)); exact BK443.out)⟩; have n6_ : Aside0 (Below w.heap.size w w47) := ⟨by rw [← hq_]; exact (by repeat (first | (with_reducible first | exact HB.out | apply below_alloc | apply pw_below_drewN | apply below_drew1 | refine below_set ?_ GE429.out | refine below_set ?_ GE443.out) | exact HB.out))⟩; clear HO434 HO437 HO442 HO446 BK429 BK443 HB hq_; have HO434 := n0_; have HO437 := n1_; have HO442 := n2_; have HO446 := n3_; have BK429 := n4_; have BK443 := n5_; have HB := n6_; clear n0_ n1_ n2_ n3_ n4_ n5_ n6_))
              have n0_ := Aside0.mk (Kd.R_drew HO434.out)
              have n1_ := Aside0.mk (Kd.R_drew HO437.out)
              have n2_ := Aside0.mk (Kd.R_drew HO442.out)
              have n3_ := Aside0.mk (Kd.R_drew HO446.out)
              have n4_ := Aside0.mk (blk_drew BK429.out)
              have n5_ := Aside0.mk (blk_drew BK443.out)
              have n6_ := Aside0.mk (below_drew1 HB.out)
              clear HO434
              clear HO437
              clear HO442
              clear HO446
              clear BK429
              clear BK443
              clear HB
              have HO434 := n0_
              have HO437 := n1_
              have HO442 := n2_
              have HO446 := n3_
              have BK429 := n4_
              have BK443 := n5_
              have HB := n6_
              clear n0_ n1_ n2_ n3_ n4_ n5_ n6_
              refine start_ (n := 5) (S := fun w' => w'.cell? ⟨gb443, 0, none⟩ = some (.int .i64 t439) ∧ w'.cell? ⟨gb443, 1, none⟩ = some (.slice Ao46 t440.length co46) ∧ w'.cell? ⟨gb429, 0, none⟩ = some (.int .i64 a0_0) ∧ w'.cell? ⟨gb429, 1, none⟩ = some (.slice A0_1 l0_1.length c0_1)) (ds := []) #[false, false, false, false, false] (by kernel_rfl) rfl rfl ⟨(blk_cell BK443.out 0).trans rfl, (blk_cell BK443.out 1).trans rfl, (blk_cell BK429.out 0).trans rfl, (blk_cell BK429.out 1).trans rfl⟩ (fun hHeld => ?_)
              generalize w47.drew = w50 at HO434 HO437 HO442 HO446 BK429 BK443 HB hHeld ⊢
              refine take_ (i := 0) (N := some 45) (v := ?_) (a' := ?_) (bsA 5 1) rfl rfl (by kernel_rfl) (fun _ _ _ h => h) (Or.inl ⟨by rfl, ?_⟩) hHeld ?_ ?_
              rotate_left
              ·rintro w' ⟨s0, s1, s2, s3⟩
               go_simp
               with_reducible rfl
              rotate_left
              ·simp only [Act.put, List.setIfInBounds_toArray, List.set_cons_zero, List.set_cons_succ, i64_w]
               rfl
              refine take_ (i := 1) (N := some 46) (v := ?_) (a' := ?_) (bsA 5 3) rfl rfl (by kernel_rfl) (fun _ _ _ h => h) (Or.inl ⟨by rfl, ?_⟩) hHeld ?_ ?_
              rotate_left
              ·rintro w' ⟨s0, s1, s2, s3⟩
               go_simp
               with_reducible rfl
              rotate_left
              ·simp only [Act.put, List.setIfInBounds_toArray, List.set_cons_zero, List.set_cons_succ, i64_w]
               rfl
              refine one_ (i := 2) (N := some 47) (bsA 5 7) rfl rfl (by kernel_rfl) (by decide) (fun K hK => ?_)
              refine goes_ Try.func22 (by kernel_rfl) rfl #[.agg #[.int .i64 a0_0, .slice A0_1 l0_1.length c0_1]] (by rfl) rfl rfl (by (try simp only [List.map_toArray, List.map_cons, List.map_nil]); first | done | rfl | (simp only [List.length_drop, List.length_take]; rfl)) ?_
              with_reducible refine (laws_toBits.calls k a0_0 _ _ l0_1 t449 t450 _ ?side1 ?side2 A15.out).mono ?_
              (case side1 => repeat (first | exact (Kd.C_below HR0_1.out HB.out) | (with_reducible refine Kd.C_alloc ?_ _) | (with_reducible refine Kd.C_drewN ?_ _) | (with_reducible refine Kd.C_drew ?_)))
              (case side2 => exact HC0_1.out)
              rintro e w51 ⟨v451, rfl, ho0, hb⟩
              refine ⟨_, rfl, ?_⟩
              have n0_ := Aside0.mk (Kd.R_elder' (by (with_reducible repeat (first | apply Kd.R_alloc | apply Kd.R_drewN | apply Kd.R_drew)); exact HO434.out) (Kd.R_base ho0) hb)
              have n1_ := Aside0.mk (Kd.R_elder' (by (with_reducible repeat (first | apply Kd.R_alloc | apply Kd.R_drewN | apply Kd.R_drew)); exact HO437.out) (Kd.R_base ho0) hb)
              have n2_ := Aside0.mk (Kd.R_elder' (by (with_reducible repeat (first | apply Kd.R_alloc | apply Kd.R_drewN | apply Kd.R_drew)); exact HO442.out) (Kd.R_base ho0) hb)
              have n3_ := Aside0.mk (Kd.R_elder' (by (with_reducible repeat (first | apply Kd.R_alloc | apply Kd.R_drewN | apply Kd.R_drew)); exact HO446.out) (Kd.R_base ho0) hb)
              have n4_ := Aside0.mk (Kd.R_lower (Kd.R_new' (Kd.R_new' (Kd.R_new' (Kd.R_new' ho0 (Kd.R_lt (by (with_reducible repeat (first | apply Kd.R_alloc | apply Kd.R_drewN | apply Kd.R_drew)); exact HO434.out))) (Kd.R_lt (by (with_reducible repeat (first | apply Kd.R_alloc | apply Kd.R_drewN | apply Kd.R_drew)); exact HO437.out))) (Kd.R_lt (by (with_reducible repeat (first | apply Kd.R_alloc | apply Kd.R_drewN | apply Kd.R_drew)); exact HO442.out))) (Kd.R_lt (by (with_reducible repeat (first | apply Kd.R_alloc | apply Kd.R_drewN | apply Kd.R_drew)); exact HO446.out))) (below_size (by repeat (first | (with_reducible first | exact HB.out | apply below_alloc | apply pw_below_drewN | apply below_drew1 | refine below_set ?_ GE429.out | refine below_set ?_ GE443.out) | exact HB.out))))
              have n5_ := Aside0.mk (blk_below (g := gb429) (o := .cells #[.int .i64 a0_0, .slice A0_1 l0_1.length c0_1] 33 (0, 0)) (by (with_reducible repeat (first | refine blk_drewN ?_ _ | refine blk_drew ?_ | refine blk_alloc ?_ _)); exact BK429.out) hb)
              have n6_ := Aside0.mk (blk_below (g := gb443) (o := .cells #[.int .i64 t439, .slice Ao46 t440.length co46] 24 (0, 0)) (by (with_reducible repeat (first | refine blk_drewN ?_ _ | refine blk_drew ?_ | refine blk_alloc ?_ _)); exact BK443.out) hb)
              have n7_ := Aside0.mk (below_step (by repeat (first | (with_reducible first | exact HB.out | apply below_alloc | apply pw_below_drewN | apply below_drew1 | refine below_set ?_ GE429.out | refine below_set ?_ GE443.out) | exact HB.out)) hb)
              clear HO434
              clear HO437
              clear HO442
              clear HO446
              clear BK429
              clear BK443
              clear HB
              have HO434 := n0_
              have HO437 := n1_
              have HO442 := n2_
              have HO446 := n3_
              have HO452 := n4_
              have BK429 := n5_
              have BK443 := n6_
              have HB := n7_
              clear n0_ n1_ n2_ n3_ n4_ n5_ n6_ n7_
              (try clear hb)
              (try clear hb2)
              (try clear hk)
              (try clear hi)
              (try clear ho0)
              obtain ⟨Ao52, co52, eo52⟩ := Kd.R_slice HO452.out
              (first | subst eo52 | (injection eo52 with f1_ f2_ f3_; have f4_ := f1_.symm; have f5_ := f3_.symm; clear f1_ f2_ f3_; subst f4_; subst f5_))
              refine hK.out _ _ ⟨(blk_cell BK443.out 0).trans rfl, (blk_cell BK443.out 1).trans rfl, (blk_cell BK429.out 0).trans rfl, (blk_cell BK429.out 1).trans rfl⟩ (fun hHeld => ?_)
              clear hK K
              refine norm_ (a' := ?_) ?_ ?_
              rotate_left
              ·show Act.put _ (some 47) _ = _
               simp only [Act.put, List.setIfInBounds_toArray, List.set_cons_zero, List.set_cons_succ, i64_w]
               rfl
              refine one_ (i := 3) (N := some 48) (bsA 5 15) rfl rfl (by kernel_rfl) (by decide) (fun K hK => ?_)
              refine goes_ Try.func13 (by kernel_rfl) rfl #[.agg #[.int .i64 t439, .slice Ao46 t440.length co46], .agg #[.int .i64 t449, .slice Ao52 t450.length co52]] (by rfl) rfl rfl (by (try simp only [List.map_toArray, List.map_cons, List.map_nil]); first | done | rfl | (simp only [List.length_drop, List.length_take]; rfl)) ?_
              with_reducible refine (laws_eqBits.calls k t439 _ _ t440 t449 _ _ t450 true _ ?side1 ?side2 ?side3 ?side4 A16.out).mono ?_
              (case side1 => repeat (first | exact (Kd.R_reads' HO442.out).2.2 | (with_reducible refine Kd.C_alloc ?_ _) | (with_reducible refine Kd.C_drewN ?_ _) | (with_reducible refine Kd.C_drew ?_)))
              (case side2 => exact (Kd.R_reads' HO442.out).2.1)
              (case side3 => repeat (first | exact (Kd.R_reads' HO452.out).2.2 | (with_reducible refine Kd.C_alloc ?_ _) | (with_reducible refine Kd.C_drewN ?_ _) | (with_reducible refine Kd.C_drew ?_)))
              (case side4 => exact (Kd.R_reads' HO452.out).2.1)
              rintro e w53 ⟨rfl, hb⟩
              refine ⟨_, rfl, ?_⟩
              have n0_ := Aside0.mk (Kd.R_below (by (with_reducible repeat (first | apply Kd.R_alloc | apply Kd.R_drewN | apply Kd.R_drew)); exact HO434.out) hb)
              have n1_ := Aside0.mk (Kd.R_below (by (with_reducible repeat (first | apply Kd.R_alloc | apply Kd.R_drewN | apply Kd.R_drew)); exact HO437.out) hb)
              have n2_ := Aside0.mk (Kd.R_below (by (with_reducible repeat (first | apply Kd.R_alloc | apply Kd.R_drewN | apply Kd.R_drew)); exact HO442.out) hb)
              have n3_ := Aside0.mk (Kd.R_below (by (with_reducible repeat (first | apply Kd.R_alloc | apply Kd.R_drewN | apply Kd.R_drew)); exact HO446.out) hb)
              have n4_ := Aside0.mk (Kd.R_below (by (with_reducible repeat (first | apply Kd.R_alloc | apply Kd.R_drewN | apply Kd.R_drew)); exact HO452.out) hb)
              have n5_ := Aside0.mk (blk_below (g := gb429) (o := .cells #[.int .i64 a0_0, .slice A0_1 l0_1.length c0_1] 33 (0, 0)) (by (with_reducible repeat (first | refine blk_drewN ?_ _ | refine blk_drew ?_ | refine blk_alloc ?_ _)); exact BK429.out) hb)
              have n6_ := Aside0.mk (blk_below (g := gb443) (o := .cells #[.int .i64 t439, .slice Ao46 t440.length co46] 24 (0, 0)) (by (with_reducible repeat (first | refine blk_drewN ?_ _ | refine blk_drew ?_ | refine blk_alloc ?_ _)); exact BK443.out) hb)
              have n7_ := Aside0.mk (below_step (by repeat (first | (with_reducible first | exact HB.out | apply below_alloc | apply pw_below_drewN | apply below_drew1 | refine below_set ?_ GE429.out | refine below_set ?_ GE443.out) | exact HB.out)) hb)
              clear HO434
              clear HO437
              clear HO442
              clear HO446
              clear HO452
              clear BK429
              clear BK443
              clear HB
              have HO434 := n0_
              have HO437 := n1_
              have HO442 := n2_
              have HO446 := n3_
              have HO452 := n4_
              have BK429 := n5_
              have BK443 := n6_
              have HB := n7_
              clear n0_ n1_ n2_ n3_ n4_ n5_ n6_ n7_
              (try clear hb)
              (try clear hb2)
              (try clear hk)
              (try clear hi)
              refine hK.out _ _ ⟨(blk_cell BK443.out 0).trans rfl, (blk_cell BK443.out 1).trans rfl, (blk_cell BK429.out 0).trans rfl, (blk_cell BK429.out 1).trans rfl⟩ (fun hHeld => ?_)
              clear hK K
              refine norm_ (a' := ?_) ?_ ?_
              rotate_left
              ·show Act.put _ (some 48) _ = _
               simp only [Act.put, List.setIfInBounds_toArray, List.set_cons_zero, List.set_cons_succ, i64_w]
               rfl
              refine pure_ (i := 4) (N := some 49) (v := ?_) (a' := ?_) (bsA 5 31) rfl rfl (by kernel_rfl) (fun _ _ _ h => h) (Or.inl ⟨by rfl, ?_⟩) ?_ ?_
              rotate_left
              ·intro w'
               go_simp
               with_reducible rfl
              rotate_left
              ·simp only [Act.put, List.setIfInBounds_toArray, List.set_cons_zero, List.set_cons_succ, i64_w]
               rfl
              refine done_ (by kernel_rfl) ?_
              have hcz54_0 : w53.cell? ⟨gb443, 0, none⟩ = some (.int .i64 t439) := (blk_cell BK443.out 0).trans rfl
              have hcz54_1 : w53.cell? ⟨gb443, 1, none⟩ = some (.slice Ao46 t440.length co46) := (blk_cell BK443.out 1).trans rfl
              have hfz54_0 := blk_frozen BK443.out 0
              have hfz54_1 := blk_frozen BK443.out 1
              try go_wp2_with (first | ((with_reducible refine gate_callee (f := 16) rfl ?_); refine goesL_ (some 52) rfl rfl Try.func16 (by kernel_rfl) rfl #[.agg #[.int .i64 t439, .slice Ao46 t440.length co46], .int .i64 1] rfl (by (try simp only [List.map_toArray, List.map_cons, List.map_nil]); first | done | rfl | (simp only [List.length_drop, List.length_take]; rfl)) ?_; (with_reducible refine (laws_markBits.calls k t439 (fun k_ => some k_ = (.slice Ao46 t440.length co46 : Value).ownBlock) (.slice Ao46 t440.length co46) t440 1 t454 t455 w _ ?side1 ?side2 A18.out).mono ?_); (case side1 => repeat (first | (with_reducible first | exact HB.out | apply below_alloc | apply pw_below_drewN | apply below_drew1 | refine below_set ?_ GE429.out | refine below_set ?_ GE443.out) | exact HB.out)); (case side2 => exact Kd.R_tight rfl HO442.out); rintro e w55 ⟨rfl, hy0, hb, hkp⟩; refine ⟨_, rfl, ?_⟩; have n0_ := Aside0.mk (blk_kept (by (with_reducible repeat (first | refine blk_drewN ?_ _ | refine blk_drew ?_ | refine blk_alloc ?_ _)); exact BK429.out) hkp (fun hs_ => (fun e_ => (Kd.R_ne HO442.out BK429.out (by decide)) e_) hs_)); have n1_ := Aside0.mk (Kd.R_mono (ok' := fun k_ => some k_ ≠ (.slice Ao49 t435.length co49 : Value).ownBlock ∧ some k_ ≠ (.slice Ao46 t440.length co46 : Value).ownBlock ∧ some k_ ≠ (.slice Ao48 t444.length co48 : Value).ownBlock ∧ some k_ ≠ (.slice Ao52 t450.length co52 : Value).ownBlock) (Kd.R_keptB (HO434.out) hkp (fun k_ hk_ hs_ => (hk_.1.1.2) hs_)) (fun k_ hk_ => ⟨hk_.1.1.1.1.2, hk_.1.1.1.2, hk_.1.1.2, hk_.1.2⟩)); have n2_ := Aside0.mk (Kd.R_mono (ok' := fun k_ => some k_ ≠ (.slice Ao39 t432.length co39 : Value).ownBlock ∧ some k_ ≠ (.slice Ao46 t440.length co46 : Value).ownBlock ∧ some k_ ≠ (.slice Ao48 t444.length co48 : Value).ownBlock ∧ some k_ ≠ (.slice Ao52 t450.length co52 : Value).ownBlock) (Kd.R_keptB (HO437.out) hkp (fun k_ hk_ hs_ => (hk_.1.1.2) hs_)) (fun k_ hk_ => ⟨hk_.1.1.1.1.2, hk_.1.1.1.2, hk_.1.1.2, hk_.1.2⟩)); have n3_ := Aside0.mk (Kd.R_reok rfl hy0 (fun k_ e_ => HO442.out.1 k_ e_)); have n4_ := Aside0.mk (blk_kept (by (with_reducible repeat (first | refine blk_drewN ?_ _ | refine blk_drew ?_ | refine blk_alloc ?_ _)); exact BK443.out) hkp (fun hs_ => (fun e_ => (Kd.R_ne HO442.out BK443.out (by decide)) e_) hs_)); have n5_ := Aside0.mk (Kd.R_mono (ok' := fun k_ => some k_ ≠ (.slice Ao39 t432.length co39 : Value).ownBlock ∧ some k_ ≠ (.slice Ao49 t435.length co49 : Value).ownBlock ∧ some k_ ≠ (.slice Ao46 t440.length co46 : Value).ownBlock ∧ some k_ ≠ (.slice Ao52 t450.length co52 : Value).ownBlock) (Kd.R_keptB (HO446.out) hkp (fun k_ hk_ hs_ => (hk_.1.2) hs_)) (fun k_ hk_ => ⟨hk_.1.1.1.1.2, hk_.1.1.1.2, hk_.1.1.2, hk_.1.2⟩)); have n6_ := Aside0.mk (Kd.R_mono (ok' := fun k_ => some k_ ≠ (.slice Ao39 t432.length co39 : Value).ownBlock ∧ some k_ ≠ (.slice Ao49 t435.length co49 : Value).ownBlock ∧ some k_ ≠ (.slice Ao46 t440.length co46 : Value).ownBlock ∧ some k_ ≠ (.slice Ao48 t444.length co48 : Value).ownBlock) (Kd.R_keptB (HO452.out) hkp (fun k_ hk_ hs_ => (hk_.1.2) hs_)) (fun k_ hk_ => ⟨hk_.1.1.1.1.2, hk_.1.1.1.2, hk_.1.1.2, hk_.1.2⟩)); have n7_ := Aside0.mk (hb); clear BK429; clear HO434; clear HO437; clear HO442; clear BK443; clear HO446; clear HO452; clear HB; have BK429 := n0_; have HO434 := n1_; have HO437 := n2_; have HO442 := n3_; have BK443 := n4_; have HO446 := n5_; have HO452 := n6_; have HB := n7_; clear n0_ n1_ n2_ n3_ n4_ n5_ n6_ n7_; (try clear hb); (try clear hkp); (try clear hy0)) | (go_at_call 14; (with_reducible refine (laws_eqIntS.calls k _ _ t444 _ _ t435 true _ ?side1 ?side2 ?side3 ?side4 A20.out).mono ?_); (case side1 => repeat (first | exact (Kd.R_reads' HO446.out).2.2 | (with_reducible refine Kd.C_alloc ?_ _) | (with_reducible refine Kd.C_drewN ?_ _) | (with_reducible refine Kd.C_drew ?_))); (case side2 => exact (Kd.R_reads' HO446.out).2.1); (case side3 => repeat (first | exact (Kd.R_reads' HO437.out).2.2 | (with_reducible refine Kd.C_alloc ?_ _) | (with_reducible refine Kd.C_drewN ?_ _) | (with_reducible refine Kd.C_drew ?_))); (case side4 => exact (Kd.R_reads' HO437.out).2.1); rintro e w' ⟨rfl, ⟨nd, rfl⟩⟩) | ((with_reducible refine gate_callee (f := 15) rfl ?_); refine goesL_ (some 68) rfl rfl Try.func15 (by kernel_rfl) rfl #[.slice Ao48 t444.length co48, .int .i64 1] rfl (by (try simp only [List.map_toArray, List.map_cons, List.map_nil]); first | done | rfl | (simp only [List.length_drop, List.length_take]; rfl)) ?_; (with_reducible refine (laws_markIntS.calls k (fun k_ => some k_ = (.slice Ao48 t444.length co48 : Value).ownBlock) (.slice Ao48 t444.length co48) t444 1 t457 t458 w _ ?side1 ?side2 A22.out).mono ?_); (case side1 => repeat (first | (with_reducible first | exact HB.out | apply below_alloc | apply pw_below_drewN | apply below_drew1 | refine below_set ?_ GE429.out | refine below_set ?_ GE443.out) | exact HB.out)); (case side2 => exact Kd.R_tight rfl HO446.out); rintro e w56 ⟨rfl, hy0, hb, hkp⟩; refine ⟨_, rfl, ?_⟩; have n0_ := Aside0.mk (blk_kept (by (with_reducible repeat (first | refine blk_drewN ?_ _ | refine blk_drew ?_ | refine blk_alloc ?_ _)); exact BK429.out) hkp (fun hs_ => (fun e_ => (Kd.R_ne HO446.out BK429.out (by decide)) e_) hs_)); have n1_ := Aside0.mk (Kd.R_mono (ok' := fun k_ => some k_ ≠ (.slice Ao49 t435.length co49 : Value).ownBlock ∧ some k_ ≠ (.slice Ao46 t440.length co46 : Value).ownBlock ∧ some k_ ≠ (.slice Ao48 t444.length co48 : Value).ownBlock ∧ some k_ ≠ (.slice Ao52 t450.length co52 : Value).ownBlock) (Kd.R_keptB (HO434.out) hkp (fun k_ hk_ hs_ => (hk_.2.2.1) hs_)) (fun k_ hk_ => ⟨hk_.1.1, hk_.1.2.1, hk_.1.2.2.1, hk_.1.2.2.2⟩)); have n2_ := Aside0.mk (Kd.R_mono (ok' := fun k_ => some k_ ≠ (.slice Ao39 t432.length co39 : Value).ownBlock ∧ some k_ ≠ (.slice Ao46 t440.length co46 : Value).ownBlock ∧ some k_ ≠ (.slice Ao48 t444.length co48 : Value).ownBlock ∧ some k_ ≠ (.slice Ao52 t450.length co52 : Value).ownBlock) (Kd.R_keptB (HO437.out) hkp (fun k_ hk_ hs_ => (hk_.2.2.1) hs_)) (fun k_ hk_ => ⟨hk_.1.1, hk_.1.2.1, hk_.1.2.2.1, hk_.1.2.2.2⟩)); have n3_ := Aside0.mk (Kd.R_mono (ok' := fun k_ => some k_ ≠ (.slice Ao39 t432.length co39 : Value).ownBlock ∧ some k_ ≠ (.slice Ao49 t435.length co49 : Value).ownBlock ∧ some k_ ≠ (.slice Ao48 t444.length co48 : Value).ownBlock ∧ some k_ ≠ (.slice Ao52 t450.length co52 : Value).ownBlock) (Kd.R_keptB (HO442.out) hkp (fun k_ hk_ hs_ => (hk_.1.2) hs_)) (fun k_ hk_ => ⟨hk_.1.1.1.1.2, hk_.1.1.1.2, hk_.1.1.2, hk_.1.2⟩)); have n4_ := Aside0.mk (blk_kept (by (with_reducible repeat (first | refine blk_drewN ?_ _ | refine blk_drew ?_ | refine blk_alloc ?_ _)); exact BK443.out) hkp (fun hs_ => (fun e_ => (Kd.R_ne HO446.out BK443.out (by decide)) e_) hs_)); have n5_ := Aside0.mk (Kd.R_reok rfl hy0 (fun k_ e_ => HO446.out.1 k_ e_)); have n6_ := Aside0.mk (Kd.R_mono (ok' := fun k_ => some k_ ≠ (.slice Ao39 t432.length co39 : Value).ownBlock ∧ some k_ ≠ (.slice Ao49 t435.length co49 : Value).ownBlock ∧ some k_ ≠ (.slice Ao46 t440.length co46 : Value).ownBlock ∧ some k_ ≠ (.slice Ao48 t444.length co48 : Value).ownBlock) (Kd.R_keptB (HO452.out) hkp (fun k_ hk_ hs_ => (hk_.2.2.2) hs_)) (fun k_ hk_ => ⟨hk_.1.1, hk_.1.2.1, hk_.1.2.2.1, hk_.1.2.2.2⟩)); have n7_ := Aside0.mk (hb); clear BK429; clear HO434; clear HO437; clear HO442; clear BK443; clear HO446; clear HO452; clear HB; have BK429 := n0_; have HO434 := n1_; have HO437 := n2_; have HO442 := n3_; have BK443 := n4_; have HO446 := n5_; have HO452 := n6_; have HB := n7_; clear n0_ n1_ n2_ n3_ n4_ n5_ n6_ n7_; (try clear hb); (try clear hkp); (try clear hy0)) | ((with_reducible refine gate_callee (f := 24) rfl ?_); refine goesL_ (some 71) rfl rfl Try.func24 (by kernel_rfl) rfl #[.slice Ao48 t458.length co48, .int .i64 1] rfl (by (try simp only [List.map_toArray, List.map_cons, List.map_nil]); first | done | (rw [show t458.length = t444.length from (Kd.R_reads' HO446.out).1.symm] <;> rfl) | rfl | (simp only [List.length_drop, List.length_take]; rfl)) ?_; (with_reducible refine (laws_heldIntS.calls k _ _ t458 1 t459 _ ?side1 ?side2 A23.out).mono ?_); (case side1 => repeat (first | exact (Kd.R_reads' HO446.out).2.2 | (with_reducible refine Kd.C_alloc ?_ _) | (with_reducible refine Kd.C_drewN ?_ _) | (with_reducible refine Kd.C_drew ?_))); (case side2 => rw [show t458.length = t444.length from (Kd.R_reads' HO446.out).1.symm]; exact (Kd.R_reads' HO446.out).2.1); rintro e w' ⟨rfl, ⟨nd, rfl⟩⟩; refine ⟨_, rfl, ?_⟩; have hcz57_0 : w56.cell? ⟨gb429, 0, none⟩ = some (.int .i64 a0_0) := (blk_cell BK429.out 0).trans rfl; have hcz57_1 : w56.cell? ⟨gb429, 1, none⟩ = some (.slice A0_1 l0_1.length c0_1) := (blk_cell BK429.out 1).trans rfl; have hfz57_0 := blk_frozen BK429.out 0; have hfz57_1 := blk_frozen BK429.out 1) | ((with_reducible refine gate_callee (f := 22) rfl ?_); refine goesL_ (some 79) rfl rfl Try.func22 (by kernel_rfl) rfl #[.agg #[.int .i64 a0_0, .slice A0_1 l0_1.length c0_1]] rfl (by (try simp only [List.map_toArray, List.map_cons, List.map_nil]); first | done | rfl | (simp only [List.length_drop, List.length_take]; rfl)) ?_; (with_reducible refine (laws_toBits.calls k a0_0 _ _ l0_1 t460 t461 _ ?side1 ?side2 A26.out).mono ?_); (case side1 => repeat (first | exact (Kd.C_below HR0_1.out (by repeat (first | (with_reducible first | exact HB.out | apply below_alloc | apply pw_below_drewN | apply below_drew1 | refine below_set ?_ GE429.out | refine below_set ?_ GE443.out) | exact HB.out))) | (with_reducible refine Kd.C_alloc ?_ _) | (with_reducible refine Kd.C_drewN ?_ _) | (with_reducible refine Kd.C_drew ?_))); (case side2 => exact HC0_1.out); rintro e w58 ⟨v462, rfl, ho0, hb⟩; refine ⟨_, rfl, ?_⟩; have n0_ := Aside0.mk (Kd.R_elder' (by (with_reducible repeat (first | apply Kd.R_alloc | apply Kd.R_drewN | apply Kd.R_drew)); exact HO434.out) (Kd.R_base ho0) hb); have n1_ := Aside0.mk (Kd.R_elder' (by (with_reducible repeat (first | apply Kd.R_alloc | apply Kd.R_drewN | apply Kd.R_drew)); exact HO437.out) (Kd.R_base ho0) hb); have n2_ := Aside0.mk (Kd.R_elder' (by (with_reducible repeat (first | apply Kd.R_alloc | apply Kd.R_drewN | apply Kd.R_drew)); exact HO442.out) (Kd.R_base ho0) hb); have n3_ := Aside0.mk (Kd.R_elder' (by (with_reducible repeat (first | apply Kd.R_alloc | apply Kd.R_drewN | apply Kd.R_drew)); exact HO446.out) (Kd.R_base ho0) hb); have n4_ := Aside0.mk (Kd.R_elder' (by (with_reducible repeat (first | apply Kd.R_alloc | apply Kd.R_drewN | apply Kd.R_drew)); exact HO452.out) (Kd.R_base ho0) hb); have n5_ := Aside0.mk (Kd.R_lower (Kd.R_new' (Kd.R_new' (Kd.R_new' (Kd.R_new' (Kd.R_new' ho0 (Kd.R_lt (by (with_reducible repeat (first | apply Kd.R_alloc | apply Kd.R_drewN | apply Kd.R_drew)); exact HO434.out))) (Kd.R_lt (by (with_reducible repeat (first | apply Kd.R_alloc | apply Kd.R_drewN | apply Kd.R_drew)); exact HO437.out))) (Kd.R_lt (by (with_reducible repeat (first | apply Kd.R_alloc | apply Kd.R_drewN | apply Kd.R_drew)); exact HO442.out))) (Kd.R_lt (by (with_reducible repeat (first | apply Kd.R_alloc | apply Kd.R_drewN | apply Kd.R_drew)); exact HO446.out))) (Kd.R_lt (by (with_reducible repeat (first | apply Kd.R_alloc | apply Kd.R_drewN | apply Kd.R_drew)); exact HO452.out))) (below_size (by repeat (first | (with_reducible first | exact HB.out | apply below_alloc | apply pw_below_drewN | apply below_drew1 | refine below_set ?_ GE429.out | refine below_set ?_ GE443.out) | exact HB.out)))); have n6_ := Aside0.mk (blk_below (g := gb429) (o := .cells #[.int .i64 a0_0, .slice A0_1 l0_1.length c0_1] 33 (0, 0)) (by (with_reducible repeat (first | refine blk_drewN ?_ _ | refine blk_drew ?_ | refine blk_alloc ?_ _)); exact BK429.out) hb); have n7_ := Aside0.mk (blk_below (g := gb443) (o := .cells #[.int .i64 t439, .slice Ao46 t440.length co46] 24 (0, 0)) (by (with_reducible repeat (first | refine blk_drewN ?_ _ | refine blk_drew ?_ | refine blk_alloc ?_ _)); exact BK443.out) hb); have n8_ := Aside0.mk (below_step (by repeat (first | (with_reducible first | exact HB.out | apply below_alloc | apply pw_below_drewN | apply below_drew1 | refine below_set ?_ GE429.out | refine below_set ?_ GE443.out) | exact HB.out)) hb); clear HO434; clear HO437; clear HO442; clear HO446; clear HO452; clear BK429; clear BK443; clear HB; have HO434 := n0_; have HO437 := n1_; have HO442 := n2_; have HO446 := n3_; have HO452 := n4_; have HO463 := n5_; have BK429 := n6_; have BK443 := n7_; have HB := n8_; clear n0_ n1_ n2_ n3_ n4_ n5_ n6_ n7_ n8_; (try clear hb); (try clear hb2); (try clear hk); (try clear hi); (try clear ho0); obtain ⟨Ao59, co59, eo59⟩ := Kd.R_slice HO463.out; subst eo59) | ((with_reducible refine gate_callee (f := 26) rfl ?_); refine goesL_ (some 81) rfl rfl Try.func26 (by kernel_rfl) rfl #[.agg #[.int .i64 t460, .slice Ao59 t461.length co59], .int .i64 a1] rfl (by (try simp only [List.map_toArray, List.map_cons, List.map_nil]); first | done | rfl | (simp only [List.length_drop, List.length_take]; rfl)) ?_; (with_reducible refine (impl_DecodeDelta.calls k t460 _ _ t461 a1 t464 t467 _ ?side1 ?side2 A27.out).mono ?_); (case side1 => repeat (first | exact (Kd.R_reads' HO463.out).2.2 | (with_reducible refine Kd.C_alloc ?_ _) | (with_reducible refine Kd.C_drewN ?_ _) | (with_reducible refine Kd.C_drew ?_))); (case side2 => exact (Kd.R_reads' HO463.out).2.1); rintro e w60 ⟨v465, rfl, ho0, hb⟩; refine ⟨_, rfl, ?_⟩; have n0_ := Aside0.mk (Kd.R_elder' (by (with_reducible repeat (first | apply Kd.R_alloc | apply Kd.R_drewN | apply Kd.R_drew)); exact HO434.out) (Kd.R_base ho0) hb); have n1_ := Aside0.mk (Kd.R_elder' (by (with_reducible repeat (first | apply Kd.R_alloc | apply Kd.R_drewN | apply Kd.R_drew)); exact HO437.out) (Kd.R_base ho0) hb); have n2_ := Aside0.mk (Kd.R_elder' (by (with_reducible repeat (first | apply Kd.R_alloc | apply Kd.R_drewN | apply Kd.R_drew)); exact HO442.out) (Kd.R_base ho0) hb); have n3_ := Aside0.mk (Kd.R_elder' (by (with_reducible repeat (first | apply Kd.R_alloc | apply Kd.R_drewN | apply Kd.R_drew)); exact HO446.out) (Kd.R_base ho0) hb); have n4_ := Aside0.mk (Kd.R_elder' (by (with_reducible repeat (first | apply Kd.R_alloc | apply Kd.R_drewN | apply Kd.R_drew)); exact HO452.out) (Kd.R_base ho0) hb); have n5_ := Aside0.mk (Kd.R_elder' (by (with_reducible repeat (first | apply Kd.R_alloc | apply Kd.R_drewN | apply Kd.R_drew)); exact HO463.out) (Kd.R_base ho0) hb); have n6_ := Aside0.mk (Kd.R_lower (Kd.R_new' (Kd.R_new' (Kd.R_new' (Kd.R_new' (Kd.R_new' (Kd.R_new' ho0 (Kd.R_lt (by (with_reducible repeat (first | apply Kd.R_alloc | apply Kd.R_drewN | apply Kd.R_drew)); exact HO434.out))) (Kd.R_lt (by (with_reducible repeat (first | apply Kd.R_alloc | apply Kd.R_drewN | apply Kd.R_drew)); exact HO437.out))) (Kd.R_lt (by (with_reducible repeat (first | apply Kd.R_alloc | apply Kd.R_drewN | apply Kd.R_drew)); exact HO442.out))) (Kd.R_lt (by (with_reducible repeat (first | apply Kd.R_alloc | apply Kd.R_drewN | apply Kd.R_drew)); exact HO446.out))) (Kd.R_lt (by (with_reducible repeat (first | apply Kd.R_alloc | apply Kd.R_drewN | apply Kd.R_drew)); exact HO452.out))) (Kd.R_lt (by (with_reducible repeat (first | apply Kd.R_alloc | apply Kd.R_drewN | apply Kd.R_drew)); exact HO463.out))) (below_size (by repeat (first | (with_reducible first | exact HB.out | apply below_alloc | apply pw_below_drewN | apply below_drew1 | refine below_set ?_ GE429.out | refine below_set ?_ GE443.out) | exact HB.out)))); have n7_ := Aside0.mk (blk_below (g := gb429) (o := .cells #[.int .i64 a0_0, .slice A0_1 l0_1.length c0_1] 33 (0, 0)) (by (with_reducible repeat (first | refine blk_drewN ?_ _ | refine blk_drew ?_ | refine blk_alloc ?_ _)); exact BK429.out) hb); have n8_ := Aside0.mk (blk_below (g := gb443) (o := .cells #[.int .i64 t439, .slice Ao46 t440.length co46] 24 (0, 0)) (by (with_reducible repeat (first | refine blk_drewN ?_ _ | refine blk_drew ?_ | refine blk_alloc ?_ _)); exact BK443.out) hb); have n9_ := Aside0.mk (below_step (by repeat (first | (with_reducible first | exact HB.out | apply below_alloc | apply pw_below_drewN | apply below_drew1 | refine below_set ?_ GE429.out | refine below_set ?_ GE443.out) | exact HB.out)) hb); clear HO434; clear HO437; clear HO442; clear HO446; clear HO452; clear HO463; clear BK429; clear BK443; clear HB; have HO434 := n0_; have HO437 := n1_; have HO442 := n2_; have HO446 := n3_; have HO452 := n4_; have HO463 := n5_; have HO466 := n6_; have BK429 := n7_; have BK443 := n8_; have HB := n9_; clear n0_ n1_ n2_ n3_ n4_ n5_ n6_ n7_ n8_ n9_; (try clear hb); (try clear hb2); (try clear hk); (try clear hi); (try clear ho0); obtain ⟨Ao61, co61, eo61⟩ := Kd.R_slice HO466.out; subst eo61) | ((with_reducible refine gate_callee (f := 14) rfl ?_); refine goesL_ (some 86) rfl rfl Try.func14 (by kernel_rfl) rfl #[.slice Ao61 t464.length co61, .slice Ao49 t435.length co49] rfl (by (try simp only [List.map_toArray, List.map_cons, List.map_nil]); first | done | rfl | (simp only [List.length_drop, List.length_take]; rfl)) ?_; (with_reducible refine (laws_eqIntS.calls k _ _ t464 _ _ t435 true _ ?side1 ?side2 ?side3 ?side4 A28.out).mono ?_); (case side1 => repeat (first | exact (Kd.R_reads' HO466.out).2.2 | (with_reducible refine Kd.C_alloc ?_ _) | (with_reducible refine Kd.C_drewN ?_ _) | (with_reducible refine Kd.C_drew ?_))); (case side2 => exact (Kd.R_reads' HO466.out).2.1); (case side3 => repeat (first | exact (Kd.R_reads' HO437.out).2.2 | (with_reducible refine Kd.C_alloc ?_ _) | (with_reducible refine Kd.C_drewN ?_ _) | (with_reducible refine Kd.C_drew ?_))); (case side4 => exact (Kd.R_reads' HO437.out).2.1); rintro e w' ⟨rfl, ⟨nd, rfl⟩⟩; refine ⟨_, rfl, ?_⟩) | ((with_reducible refine gate_callee (f := 24) rfl ?_); refine goesL_ (some 95) rfl rfl Try.func24 (by kernel_rfl) rfl #[.slice Ao48 t458.length co48, .int .i64 1] rfl (by (try simp only [List.map_toArray, List.map_cons, List.map_nil]); first | done | (rw [show t458.length = t444.length from (Kd.R_reads' HO446.out).1.symm] <;> rfl) | rfl | (simp only [List.length_drop, List.length_take]; rfl)) ?_; (with_reducible refine (laws_heldIntS.calls k _ _ t458 1 t469 _ ?side1 ?side2 A31.out).mono ?_); (case side1 => repeat (first | exact (Kd.R_reads' HO446.out).2.2 | (with_reducible refine Kd.C_alloc ?_ _) | (with_reducible refine Kd.C_drewN ?_ _) | (with_reducible refine Kd.C_drew ?_))); (case side2 => rw [show t458.length = t444.length from (Kd.R_reads' HO446.out).1.symm]; exact (Kd.R_reads' HO446.out).2.1); rintro e w' ⟨rfl, ⟨nd, rfl⟩⟩; refine ⟨_, rfl, ?_⟩))
              go_ret
              exact ⟨by first | rfl | (simp [errW_none, errW_some] <;> rfl) | (simp [*, errW_none, errW_some] <;> rfl), by repeat (first | (with_reducible first | exact HB.out | apply below_alloc | apply pw_below_drewN | apply below_drew1 | refine below_set ?_ GE429.out | refine below_set ?_ GE443.out) | exact HB.out)⟩
             ·rw [if_neg c33] at H
              exact absurd H (by simp)
          ·replace c29 := Bool.eq_false_iff.mpr c29
           subst c29
           have H1 : (none) = some r := by rw [if_neg (show ¬ (false = true) by decide)] at H; exact H
           clear H
           have H := H1
           clear H1
           exact absurd H (by simp)
         ·rw [if_neg c25] at H
          exact absurd H (by simp)
       ·replace c21 := Bool.eq_false_iff.mpr c21
        subst c21
        have H1 : (none) = some r := by rw [if_neg (show ¬ (false = true) by decide)] at H; exact H
        clear H
        have H := H1
        clear H1
        exact absurd H (by simp)
     ·replace c17 := Bool.eq_false_iff.mpr c17
      subst c17
      have H1 : (none) = some r := by rw [if_neg (show ¬ (false = true) by decide)] at H; exact H
      clear H
      have H := H1
      clear H1
      exact absurd H (by simp)
   ·replace c13 := Bool.eq_false_iff.mpr c13
    subst c13
    have H1 : (none) = some r := by rw [if_neg (show ¬ (false = true) by decide)] at H; exact H
    clear H
    have H := H1
    clear H1
    exact absurd H (by simp)

/-- What is to be shown of laws_FnExactDecodeDelta: plain. -/
def laws_FnExactDecodeDelta.Pure : Prop := ∀ (a0_0 : Int) (l0_1 : List Int) (a1 : Int), (wfI .i64) a0_0 → (wfL (wfI .i64)) l0_1 → (wfI .i64) a1 → ∃ k, laws_FnExactDecodeDelta.f k a0_0 l0_1 a1 = some true
theorem laws_FnExactDecodeDelta.walk (P : laws_FnExactDecodeDelta.Pure) (a0_0 : Int) (A0_1 : Option Addr) (c0_1 : Nat) (l0_1 : List Int) (a1 : Int) (w : World) (hr0_1 : Kd.C (Kd.int .i64) w A0_1 l0_1.length l0_1) (hc0_1 : l0_1.length ≤ c0_1) (hw0_0 : (wfI .i64) a0_0) (hw0_1 : (wfL (wfI .i64)) l0_1) (hw1 : (wfI .i64) a1) :
    Calls Try.prog 6 #[.agg #[.int .i64 a0_0, .slice A0_1 l0_1.length c0_1], .int .i64 a1] w fun e w' => e = .returned (.bool true) ∧ Below w.heap.size w w' := by
  obtain ⟨k, h⟩ := P a0_0 l0_1 a1 hw0_0 hw0_1 hw1
  refine (laws_FnExactDecodeDelta.calls k a0_0 A0_1 c0_1 l0_1 a1 true w hr0_1 hc0_1 h).mono ?_
  rintro e w' ⟨rfl, hd⟩
  exact ⟨rfl, hd⟩
end Go.Proofs.Ytkechjheiakibaa.X
