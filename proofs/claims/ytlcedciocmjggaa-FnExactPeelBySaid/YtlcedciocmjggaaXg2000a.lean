/- Written by a program of this session: what functions of the given program compute, and that their calls do so. -/
import Derived.Test.YtlcedciocmjggaaXx0
import Derived.Test.YtlcedciocmjggaaXg3c00a
import Derived.Test.YtlcedciocmjggaaXg3c04a
import Derived.Test.YtlcedciocmjggaaXg3c5fa
import Derived.Test.YtlcedciocmjggaaXg3e04a
import Derived.Test.YtlcedciocmjggaaXg3f05a
import Derived.Test.YtlcedciocmjggaaXg3f1fa
import Derived.Test.YtlcedciocmjggaaXg3f5fa
namespace Go.Proofs.Ytlcedciocmjggaa.X
open Go.RowKit Go.Proofs.YtlcedciocmjggaaW.PrintWords Go.Proofs.YtlcedciocmjggaaW.PrintLast Go.Proofs.YtlcedciocmjggaaW.PrintMore
attribute [local go_sem] max2_int min2_int max_two min_two max_three min_three max_four min_four   -- for this text's walks alone
set_option linter.unusedVariables false
set_option linter.unusedSimpArgs false
/-! ### spec_PeelBy: function 64 -/
def spec_PeelBy.f (k : Nat) (a0_0 : Int) (l0_1 : List (List Int)) (l1 : List Int) : Option ((List (S88)) × List Int × Bool) := (spec_peGood.f k a0_0 l0_1).bind fun t1256 => (if t1256 = true then (if (l1.length : Int) > 40 then (some (([] : List (S88)), ([] : List Int), false)) else ((spec_l1All.f k l1 0 99).bind fun t1257 => (if t1257 = true then ((spec_pePeel.f k a0_0 l0_1 l1 false).bind fun bt1258 => (some (bt1258.1, bt1258.2, true))) else (some (([] : List (S88)), ([] : List Int), false))))) else (some (([] : List (S88)), ([] : List Int), false)))
theorem spec_PeelBy.mono : ∀ a0 a1 a2 k, LeO (spec_PeelBy.f k a0 a1 a2) (spec_PeelBy.f (k + 1) a0 a1 a2) := by
  intro a0 a1 a2 k
  unfold spec_PeelBy.f
  repeat' first
      | (with_reducible exact spec_l1All.mono _ _ _ _)
      | (with_reducible exact spec_peGood.mono _ _ _)
      | (with_reducible exact spec_pePeel.mono _ _ _ _ _)
      | (with_reducible exact LeO.refl _)
      | (with_reducible exact LeO.none _)
      | (with_reducible refine LeO.ite ?_ ?_)
      | (with_reducible refine LeO.bind ?_ (fun _ => ?_))
      | exact spec_l1All.mono _ _ _ _
      | exact spec_peGood.mono _ _ _
      | exact spec_pePeel.mono _ _ _ _ _
      | exact LeO.none _
      | refine LeO.ite ?_ ?_
      | refine LeO.bind ?_ (fun _ => ?_)
noncomputable def spec_PeelBy.F (a0_0 : Int) (l0_1 : List (List Int)) (l1 : List Int) : Option ((List (S88)) × List Int × Bool) := lim fun k => spec_PeelBy.f k a0_0 l0_1 l1
theorem spec_PeelBy.F_sup (a0_0 : Int) (l0_1 : List (List Int)) (l1 : List Int) : Sup (fun k => spec_PeelBy.f k a0_0 l0_1 l1) (spec_PeelBy.F a0_0 l0_1 l1) := Sup.of_mono fun k => spec_PeelBy.mono a0_0 l0_1 l1 k
theorem spec_PeelBy.F_eq (a0_0 : Int) (l0_1 : List (List Int)) (l1 : List Int) : spec_PeelBy.F a0_0 l0_1 l1 = (spec_peGood.F a0_0 l0_1).bind fun t1256 => (if t1256 = true then (if (l1.length : Int) > 40 then (some (([] : List (S88)), ([] : List Int), false)) else ((spec_l1All.F l1 0 99).bind fun t1257 => (if t1257 = true then ((spec_pePeel.F a0_0 l0_1 l1 false).bind fun bt1258 => (some (bt1258.1, bt1258.2, true))) else (some (([] : List (S88)), ([] : List Int), false))))) else (some (([] : List (S88)), ([] : List Int), false))) := by
  refine Sup.unique (spec_PeelBy.F_sup a0_0 l0_1 l1) (Sup.congr (g' := fun k => (spec_peGood.f k a0_0 l0_1).bind fun t1256 => (if t1256 = true then (if (l1.length : Int) > 40 then (some (([] : List (S88)), ([] : List Int), false)) else ((spec_l1All.f k l1 0 99).bind fun t1257 => (if t1257 = true then ((spec_pePeel.f k a0_0 l0_1 l1 false).bind fun bt1258 => (some (bt1258.1, bt1258.2, true))) else (some (([] : List (S88)), ([] : List Int), false))))) else (some (([] : List (S88)), ([] : List Int), false)))) (fun k => by first | rfl | simp only [spec_PeelBy.f]) ?_)
  repeat' first
    | (with_reducible exact spec_peGood.F_sup _ _)
    | (with_reducible exact spec_pePeel.F_sup _ _ _ _)
    | (with_reducible exact spec_l1All.F_sup _ _ _)
    | (with_reducible refine Sup.ite ?_ ?_)
    | (with_reducible refine Sup.bind ?_ (fun _ => ?_))
    | (with_reducible exact Sup.const _)
    | exact spec_peGood.F_sup _ _
    | exact spec_pePeel.F_sup _ _ _ _
    | exact spec_l1All.F_sup _ _ _
    | exact Sup.const _
set_option maxHeartbeats 8000000 in
set_option maxRecDepth 100000 in
theorem spec_PeelBy.calls (k : Nat) (a0_0 : Int) (A0_1 : Option Addr) (c0_1 : Nat) (l0_1 : List (List Int)) (A1 : Option Addr) (c1 : Nat) (l1 : List Int) (r1 : List (S88)) (r2 : List Int) (r3 : Bool) (w : World) (hr0_1 : Kd.C (Kd.slice 3 (Kd.int .i64)) w A0_1 l0_1.length l0_1) (hc0_1 : l0_1.length ≤ c0_1) (hr1 : Kd.C (Kd.int .i64) w A1 l1.length l1) (hc1 : l1.length ≤ c1) (h : spec_PeelBy.f k a0_0 l0_1 l1 = some (r1, r2, r3)) :
    Calls Try.prog 64 #[.agg #[.int .i64 a0_0, .slice A0_1 l0_1.length c0_1], .slice A1 l1.length c1] w fun e w' => ∃ v0_ v1_ : Value, e = .returned (.tuple #[v0_, v1_, .bool r3]) ∧ Kd.R k88 88 w' w.heap.size (fun _ => True) v0_ r1 ∧ Kd.R (Kd.int .i64) 3 w' w.heap.size (fun _ => True) v1_ r2 ∧ Below w.heap.size w w' := by
  have hu29 := Try.underlying29
  have HR0_1 := Aside0.mk hr0_1
  have HC0_1 := Aside0.mk hc0_1
  clear hr0_1 hc0_1
  have HR1 := Aside0.mk hr1
  have HC1 := Aside0.mk hc1
  clear hr1 hc1
  have HB := Aside0.mk (Below.refl w.heap.size w)
  have H : ((spec_peGood.f k a0_0 l0_1).bind fun t1256 => (if t1256 = true then (if (l1.length : Int) > 40 then (some (([] : List (S88)), ([] : List Int), false)) else ((spec_l1All.f k l1 0 99).bind fun t1257 => (if t1257 = true then ((spec_pePeel.f k a0_0 l0_1 l1 false).bind fun bt1258 => (some (bt1258.1, bt1258.2, true))) else (some (([] : List (S88)), ([] : List Int), false))))) else (some (([] : List (S88)), ([] : List Int), false)))) = some (r1, r2, r3) := h
  clear h
  replace H := Option.bind_eq_some_iff.mp H
  obtain ⟨t1256, A30, H⟩ := H
  replace H : (if t1256 = true then (if (l1.length : Int) > 40 then (some (([] : List (S88)), ([] : List Int), false)) else ((spec_l1All.f k l1 0 99).bind fun t1257 => (if t1257 = true then ((spec_pePeel.f k a0_0 l0_1 l1 false).bind fun bt1258 => (some (bt1258.1, bt1258.2, true))) else (some (([] : List (S88)), ([] : List Int), false))))) else (some (([] : List (S88)), ([] : List Int), false))) = some (r1, r2, r3) := H
  have A3 := Aside0.mk A30
  clear A30
  by_cases c4 : t1256 = true
  ·subst c4
   have H1 : (if (l1.length : Int) > 40 then (some (([] : List (S88)), ([] : List Int), false)) else ((spec_l1All.f k l1 0 99).bind fun t1257 => (if t1257 = true then ((spec_pePeel.f k a0_0 l0_1 l1 false).bind fun bt1258 => (some (bt1258.1, bt1258.2, true))) else (some (([] : List (S88)), ([] : List Int), false))))) = some (r1, r2, r3) := by rw [if_pos rfl] at H; exact H
   clear H
   have H := H1
   clear H1
   by_cases c5 : (l1.length : Int) > 40
   ·rw [if_pos c5] at H
    have c5b0 : decide (40 < (l1.length : Int)) = true := decide_eq_true c5
    have c5b1 : decide (40 < l1.length) = true := decide_eq_true (by omega)
    clear c5
    simp only [Option.some.injEq, Prod.mk.injEq] at H
    obtain ⟨rfl, rfl, rfl⟩ := H
    go_enter Try.func64, Try.ntmps64
    go_wp2_with (first | ((with_reducible refine gate_dst (N := 2) rfl ?_); (try (refine gate_guard (by rfl) ?_; dsimp only)); refine box_event ?hg (N := 2) ?hd (cs := #[.int .i64 a0_0, .slice A0_1 l0_1.length c0_1]) (t := 29) ?hr ?_; (case hd => rfl); (case hg => rfl); (case hr => first | (go_simp; done) | (go_simp; rfl)); intro gb1255 hg w6 hbox hb; have n0_ := Aside0.mk (below_step (by repeat (first | (with_reducible first | exact HB.out | apply below_alloc | apply pw_below_drewN | apply below_drew1) | exact HB.out)) hb); have n1_ := Aside0.mk (hbox); have n2_ := Aside0.mk ((by rw [hg]; exact (below_size (by repeat (first | (with_reducible first | exact HB.out | apply below_alloc | apply pw_below_drewN | apply below_drew1) | exact HB.out))) : w.heap.size ≤ gb1255)); have n3_ := Aside0.mk ((by rw [hg]; exact (below_size (by repeat (first | (with_reducible first | exact HB.out | apply below_alloc | apply pw_below_drewN | apply below_drew1) | exact HB.out))) : w.heap.size ≤ gb1255)); clear HB; have HB := n0_; have BK1255 := n1_; have GW1255 := n2_; have GE1255 := n3_; clear n0_ n1_ n2_ n3_; clear hb hbox hg; have hcz7_0 : w6.cell? ⟨gb1255, 0, none⟩ = some (.int .i64 a0_0) := (blk_cell BK1255.out 0).trans rfl; have hcz7_1 : w6.cell? ⟨gb1255, 1, none⟩ = some (.slice A0_1 l0_1.length c0_1) := (blk_cell BK1255.out 1).trans rfl; have hfz7_0 := blk_frozen BK1255.out 0; have hfz7_1 := blk_frozen BK1255.out 1) | ((with_reducible refine gate_callee (f := 67) rfl ?_); refine goesL_ (some 10) rfl rfl Try.func67 (by kernel_rfl) rfl #[.agg #[.int .i64 a0_0, .slice A0_1 l0_1.length c0_1]] rfl (by (try simp only [List.map_toArray, List.map_cons, List.map_nil]); first | done | rfl | (simp only [List.length_drop, List.length_take]; rfl)) ?_; (with_reducible refine (spec_peGood.calls k a0_0 _ _ l0_1 true _ ?side1 ?side2 A3.out).mono ?_); (case side1 => repeat (first | exact (Kd.C_below HR0_1.out HB.out) | (with_reducible refine Kd.C_alloc ?_ _) | (with_reducible refine Kd.C_drewN ?_ _) | (with_reducible refine Kd.C_drew ?_))); (case side2 => exact HC0_1.out); rintro e w8 ⟨rfl, hb⟩; refine ⟨_, rfl, ?_⟩; have n0_ := Aside0.mk (blk_below (g := gb1255) (o := .cells #[.int .i64 a0_0, .slice A0_1 l0_1.length c0_1] 29 (0, 0)) (by (with_reducible repeat (first | refine blk_drewN ?_ _ | refine blk_drew ?_ | refine blk_alloc ?_ _)); exact BK1255.out) hb); have n1_ := Aside0.mk (below_step (by repeat (first | (with_reducible first | exact HB.out | apply below_alloc | apply pw_below_drewN | apply below_drew1 | refine below_set ?_ GE1255.out) | exact HB.out)) hb); clear BK1255; clear HB; have BK1255 := n0_; have HB := n1_; clear n0_ n1_; (try clear hb); (try clear hb2); (try clear hk); (try clear hi)))
    go_ret3
    exact ⟨_, _, by first | rfl | (simp [errW_none, errW_some] <;> rfl) | (simp [*, errW_none, errW_some] <;> rfl), by first | exact Kd.R_nil _ _ _ _ _ | exact Kd.N_nil _ _ _ _ _ | exact Kd.V_nil _ _ _ _ _ | exact Kd.Q_nil _ _ _ _ _ | exact Kd.S_nil _ _ _ _ _, by first | exact Kd.R_nil _ _ _ _ _ | exact Kd.N_nil _ _ _ _ _ | exact Kd.V_nil _ _ _ _ _ | exact Kd.Q_nil _ _ _ _ _ | exact Kd.S_nil _ _ _ _ _, by repeat (first | (with_reducible first | exact HB.out | apply below_alloc | apply pw_below_drewN | apply below_drew1 | refine below_set ?_ GE1255.out) | exact HB.out)⟩
   ·rw [if_neg c5] at H
    have c5b0 : decide (40 < (l1.length : Int)) = false := decide_eq_false c5
    have c5b1 : decide (40 < l1.length) = false := decide_eq_false (by omega)
    clear c5
    replace H := Option.bind_eq_some_iff.mp H
    obtain ⟨t1257, A90, H⟩ := H
    replace H : (if t1257 = true then ((spec_pePeel.f k a0_0 l0_1 l1 false).bind fun bt1258 => (some (bt1258.1, bt1258.2, true))) else (some (([] : List (S88)), ([] : List Int), false))) = some (r1, r2, r3) := H
    have A9 := Aside0.mk A90
    clear A90
    by_cases c10 : t1257 = true
    ·subst c10
     have H1 : ((spec_pePeel.f k a0_0 l0_1 l1 false).bind fun bt1258 => (some (bt1258.1, bt1258.2, true))) = some (r1, r2, r3) := by rw [if_pos rfl] at H; exact H
     clear H
     have H := H1
     clear H1
     replace H := Option.bind_eq_some_iff.mp H
     obtain ⟨⟨t1258, t1261⟩, A110, H⟩ := H
     replace H : (some (t1258, t1261, true)) = some (r1, r2, r3) := H
     have A11 := Aside0.mk A110
     clear A110
     simp only [Option.some.injEq, Prod.mk.injEq] at H
     obtain ⟨rfl, rfl, rfl⟩ := H
     go_enter Try.func64, Try.ntmps64
     go_wp2_with (first | ((with_reducible refine gate_dst (N := 2) rfl ?_); (try (refine gate_guard (by rfl) ?_; dsimp only)); refine box_event ?hg (N := 2) ?hd (cs := #[.int .i64 a0_0, .slice A0_1 l0_1.length c0_1]) (t := 29) ?hr ?_; (case hd => rfl); (case hg => rfl); (case hr => first | (go_simp; done) | (go_simp; rfl)); intro gb1255 hg w12 hbox hb; have n0_ := Aside0.mk (below_step (by repeat (first | (with_reducible first | exact HB.out | apply below_alloc | apply pw_below_drewN | apply below_drew1) | exact HB.out)) hb); have n1_ := Aside0.mk (hbox); have n2_ := Aside0.mk ((by rw [hg]; exact (below_size (by repeat (first | (with_reducible first | exact HB.out | apply below_alloc | apply pw_below_drewN | apply below_drew1) | exact HB.out))) : w.heap.size ≤ gb1255)); have n3_ := Aside0.mk ((by rw [hg]; exact (below_size (by repeat (first | (with_reducible first | exact HB.out | apply below_alloc | apply pw_below_drewN | apply below_drew1) | exact HB.out))) : w.heap.size ≤ gb1255)); clear HB; have HB := n0_; have BK1255 := n1_; have GW1255 := n2_; have GE1255 := n3_; clear n0_ n1_ n2_ n3_; clear hb hbox hg; have hcz13_0 : w12.cell? ⟨gb1255, 0, none⟩ = some (.int .i64 a0_0) := (blk_cell BK1255.out 0).trans rfl; have hcz13_1 : w12.cell? ⟨gb1255, 1, none⟩ = some (.slice A0_1 l0_1.length c0_1) := (blk_cell BK1255.out 1).trans rfl; have hfz13_0 := blk_frozen BK1255.out 0; have hfz13_1 := blk_frozen BK1255.out 1) | ((with_reducible refine gate_callee (f := 67) rfl ?_); refine goesL_ (some 10) rfl rfl Try.func67 (by kernel_rfl) rfl #[.agg #[.int .i64 a0_0, .slice A0_1 l0_1.length c0_1]] rfl (by (try simp only [List.map_toArray, List.map_cons, List.map_nil]); first | done | rfl | (simp only [List.length_drop, List.length_take]; rfl)) ?_; (with_reducible refine (spec_peGood.calls k a0_0 _ _ l0_1 true _ ?side1 ?side2 A3.out).mono ?_); (case side1 => repeat (first | exact (Kd.C_below HR0_1.out HB.out) | (with_reducible refine Kd.C_alloc ?_ _) | (with_reducible refine Kd.C_drewN ?_ _) | (with_reducible refine Kd.C_drew ?_))); (case side2 => exact HC0_1.out); rintro e w14 ⟨rfl, hb⟩; refine ⟨_, rfl, ?_⟩; have n0_ := Aside0.mk (blk_below (g := gb1255) (o := .cells #[.int .i64 a0_0, .slice A0_1 l0_1.length c0_1] 29 (0, 0)) (by (with_reducible repeat (first | refine blk_drewN ?_ _ | refine blk_drew ?_ | refine blk_alloc ?_ _)); exact BK1255.out) hb); have n1_ := Aside0.mk (below_step (by repeat (first | (with_reducible first | exact HB.out | apply below_alloc | apply pw_below_drewN | apply below_drew1 | refine below_set ?_ GE1255.out) | exact HB.out)) hb); clear BK1255; clear HB; have BK1255 := n0_; have HB := n1_; clear n0_ n1_; (try clear hb); (try clear hb2); (try clear hk); (try clear hi)) | (go_at_call 109; (with_reducible refine (spec_l1All.calls k _ _ l1 0 99 true _ ?side1 ?side2 A9.out).mono ?_); (case side1 => repeat (first | exact (Kd.C_below HR1.out HB.out) | (with_reducible refine Kd.C_alloc ?_ _) | (with_reducible refine Kd.C_drewN ?_ _) | (with_reducible refine Kd.C_drew ?_))); (case side2 => exact HC1.out); rintro e w' ⟨rfl, ⟨nd, rfl⟩⟩; have hcz15_0 : w14.cell? ⟨gb1255, 0, none⟩ = some (.int .i64 a0_0) := (blk_cell BK1255.out 0).trans rfl; have hcz15_1 : w14.cell? ⟨gb1255, 1, none⟩ = some (.slice A0_1 l0_1.length c0_1) := (blk_cell BK1255.out 1).trans rfl; have hfz15_0 := blk_frozen BK1255.out 0; have hfz15_1 := blk_frozen BK1255.out 1) | ((with_reducible refine gate_callee (f := 107) rfl ?_); refine goesL_ (some 25) rfl rfl Try.func107 (by kernel_rfl) rfl #[.agg #[.int .i64 a0_0, .slice A0_1 l0_1.length c0_1], .slice A1 l1.length c1, .bool false] rfl (by (try simp only [List.map_toArray, List.map_cons, List.map_nil]); first | done | rfl | (simp only [List.length_drop, List.length_take]; rfl)) ?_; (with_reducible refine (spec_pePeel.calls k a0_0 _ _ l0_1 _ _ l1 false t1258 t1261 _ ?side1 ?side2 ?side3 ?side4 A11.out).mono ?_); (case side1 => repeat (first | exact (Kd.C_below HR0_1.out (by repeat (first | (with_reducible first | exact HB.out | apply below_alloc | apply pw_below_drewN | apply below_drew1 | refine below_set ?_ GE1255.out) | exact HB.out))) | (with_reducible refine Kd.C_alloc ?_ _) | (with_reducible refine Kd.C_drewN ?_ _) | (with_reducible refine Kd.C_drew ?_))); (case side2 => exact HC0_1.out); (case side3 => repeat (first | exact (Kd.C_below HR1.out (by repeat (first | (with_reducible first | exact HB.out | apply below_alloc | apply pw_below_drewN | apply below_drew1 | refine below_set ?_ GE1255.out) | exact HB.out))) | (with_reducible refine Kd.C_alloc ?_ _) | (with_reducible refine Kd.C_drewN ?_ _) | (with_reducible refine Kd.C_drew ?_))); (case side4 => exact HC1.out); rintro e w16 ⟨v1259, v1262, rfl, ho0, ho1, hb⟩; refine ⟨_, rfl, ?_⟩; have n0_ := Aside0.mk (Kd.R_lower ho0 (below_size (by repeat (first | (with_reducible first | exact HB.out | apply below_alloc | apply pw_below_drewN | apply below_drew1 | refine below_set ?_ GE1255.out) | exact HB.out)))); have n1_ := Aside0.mk (Kd.R_lower ho1 (below_size (by repeat (first | (with_reducible first | exact HB.out | apply below_alloc | apply pw_below_drewN | apply below_drew1 | refine below_set ?_ GE1255.out) | exact HB.out)))); have n2_ := Aside0.mk (blk_below (g := gb1255) (o := .cells #[.int .i64 a0_0, .slice A0_1 l0_1.length c0_1] 29 (0, 0)) (by (with_reducible repeat (first | refine blk_drewN ?_ _ | refine blk_drew ?_ | refine blk_alloc ?_ _)); exact BK1255.out) hb); have n3_ := Aside0.mk (below_step (by repeat (first | (with_reducible first | exact HB.out | apply below_alloc | apply pw_below_drewN | apply below_drew1 | refine below_set ?_ GE1255.out) | exact HB.out)) hb); clear BK1255; clear HB; have HO1260 := n0_; have HO1263 := n1_; have BK1255 := n2_; have HB := n3_; clear n0_ n1_ n2_ n3_; (try clear hb); (try clear hb2); (try clear hk); (try clear hi); (try clear ho0); (try clear ho1)))
     go_ret3
     exact ⟨_, _, by first | rfl | (simp [errW_none, errW_some] <;> rfl) | (simp [*, errW_none, errW_some] <;> rfl), by (with_reducible repeat (first | apply Kd.R_alloc | apply Kd.R_drewN | apply Kd.R_drew)); exact HO1260.out, by (with_reducible repeat (first | apply Kd.R_alloc | apply Kd.R_drewN | apply Kd.R_drew)); exact HO1263.out, by repeat (first | (with_reducible first | exact HB.out | apply below_alloc | apply pw_below_drewN | apply below_drew1 | refine below_set ?_ GE1255.out) | exact HB.out)⟩
    ·replace c10 := Bool.eq_false_iff.mpr c10
     subst c10
     have H1 : (some (([] : List (S88)), ([] : List Int), false)) = some (r1, r2, r3) := by rw [if_neg (show ¬ (false = true) by decide)] at H; exact H
     clear H
     have H := H1
     clear H1
     simp only [Option.some.injEq, Prod.mk.injEq] at H
     obtain ⟨rfl, rfl, rfl⟩ := H
     go_enter Try.func64, Try.ntmps64
     go_wp2_with (first | ((with_reducible refine gate_dst (N := 2) rfl ?_); (try (refine gate_guard (by rfl) ?_; dsimp only)); refine box_event ?hg (N := 2) ?hd (cs := #[.int .i64 a0_0, .slice A0_1 l0_1.length c0_1]) (t := 29) ?hr ?_; (case hd => rfl); (case hg => rfl); (case hr => first | (go_simp; done) | (go_simp; rfl)); intro gb1255 hg w17 hbox hb; have n0_ := Aside0.mk (below_step (by repeat (first | (with_reducible first | exact HB.out | apply below_alloc | apply pw_below_drewN | apply below_drew1) | exact HB.out)) hb); have n1_ := Aside0.mk (hbox); have n2_ := Aside0.mk ((by rw [hg]; exact (below_size (by repeat (first | (with_reducible first | exact HB.out | apply below_alloc | apply pw_below_drewN | apply below_drew1) | exact HB.out))) : w.heap.size ≤ gb1255)); have n3_ := Aside0.mk ((by rw [hg]; exact (below_size (by repeat (first | (with_reducible first | exact HB.out | apply below_alloc | apply pw_below_drewN | apply below_drew1) | exact HB.out))) : w.heap.size ≤ gb1255)); clear HB; have HB := n0_; have BK1255 := n1_; have GW1255 := n2_; have GE1255 := n3_; clear n0_ n1_ n2_ n3_; clear hb hbox hg; have hcz18_0 : w17.cell? ⟨gb1255, 0, none⟩ = some (.int .i64 a0_0) := (blk_cell BK1255.out 0).trans rfl; have hcz18_1 : w17.cell? ⟨gb1255, 1, none⟩ = some (.slice A0_1 l0_1.length c0_1) := (blk_cell BK1255.out 1).trans rfl; have hfz18_0 := blk_frozen BK1255.out 0; have hfz18_1 := blk_frozen BK1255.out 1) | ((with_reducible refine gate_callee (f := 67) rfl ?_); refine goesL_ (some 10) rfl rfl Try.func67 (by kernel_rfl) rfl #[.agg #[.int .i64 a0_0, .slice A0_1 l0_1.length c0_1]] rfl (by (try simp only [List.map_toArray, List.map_cons, List.map_nil]); first | done | rfl | (simp only [List.length_drop, List.length_take]; rfl)) ?_; (with_reducible refine (spec_peGood.calls k a0_0 _ _ l0_1 true _ ?side1 ?side2 A3.out).mono ?_); (case side1 => repeat (first | exact (Kd.C_below HR0_1.out HB.out) | (with_reducible refine Kd.C_alloc ?_ _) | (with_reducible refine Kd.C_drewN ?_ _) | (with_reducible refine Kd.C_drew ?_))); (case side2 => exact HC0_1.out); rintro e w19 ⟨rfl, hb⟩; refine ⟨_, rfl, ?_⟩; have n0_ := Aside0.mk (blk_below (g := gb1255) (o := .cells #[.int .i64 a0_0, .slice A0_1 l0_1.length c0_1] 29 (0, 0)) (by (with_reducible repeat (first | refine blk_drewN ?_ _ | refine blk_drew ?_ | refine blk_alloc ?_ _)); exact BK1255.out) hb); have n1_ := Aside0.mk (below_step (by repeat (first | (with_reducible first | exact HB.out | apply below_alloc | apply pw_below_drewN | apply below_drew1 | refine below_set ?_ GE1255.out) | exact HB.out)) hb); clear BK1255; clear HB; have BK1255 := n0_; have HB := n1_; clear n0_ n1_; (try clear hb); (try clear hb2); (try clear hk); (try clear hi)) | (go_at_call 109; (with_reducible refine (spec_l1All.calls k _ _ l1 0 99 false _ ?side1 ?side2 A9.out).mono ?_); (case side1 => repeat (first | exact (Kd.C_below HR1.out HB.out) | (with_reducible refine Kd.C_alloc ?_ _) | (with_reducible refine Kd.C_drewN ?_ _) | (with_reducible refine Kd.C_drew ?_))); (case side2 => exact HC1.out); rintro e w' ⟨rfl, ⟨nd, rfl⟩⟩))
     go_ret3
     exact ⟨_, _, by first | rfl | (simp [errW_none, errW_some] <;> rfl) | (simp [*, errW_none, errW_some] <;> rfl), by first | exact Kd.R_nil _ _ _ _ _ | exact Kd.N_nil _ _ _ _ _ | exact Kd.V_nil _ _ _ _ _ | exact Kd.Q_nil _ _ _ _ _ | exact Kd.S_nil _ _ _ _ _, by first | exact Kd.R_nil _ _ _ _ _ | exact Kd.N_nil _ _ _ _ _ | exact Kd.V_nil _ _ _ _ _ | exact Kd.Q_nil _ _ _ _ _ | exact Kd.S_nil _ _ _ _ _, by repeat (first | (with_reducible first | exact HB.out | apply below_alloc | apply pw_below_drewN | apply below_drew1 | refine below_set ?_ GE1255.out) | exact HB.out)⟩
  ·replace c4 := Bool.eq_false_iff.mpr c4
   subst c4
   have H1 : (some (([] : List (S88)), ([] : List Int), false)) = some (r1, r2, r3) := by rw [if_neg (show ¬ (false = true) by decide)] at H; exact H
   clear H
   have H := H1
   clear H1
   simp only [Option.some.injEq, Prod.mk.injEq] at H
   obtain ⟨rfl, rfl, rfl⟩ := H
   go_enter Try.func64, Try.ntmps64
   go_wp2_with (first | ((with_reducible refine gate_dst (N := 2) rfl ?_); (try (refine gate_guard (by rfl) ?_; dsimp only)); refine box_event ?hg (N := 2) ?hd (cs := #[.int .i64 a0_0, .slice A0_1 l0_1.length c0_1]) (t := 29) ?hr ?_; (case hd => rfl); (case hg => rfl); (case hr => first | (go_simp; done) | (go_simp; rfl)); intro gb1255 hg w20 hbox hb; have n0_ := Aside0.mk (below_step (by repeat (first | (with_reducible first | exact HB.out | apply below_alloc | apply pw_below_drewN | apply below_drew1) | exact HB.out)) hb); have n1_ := Aside0.mk (hbox); have n2_ := Aside0.mk ((by rw [hg]; exact (below_size (by repeat (first | (with_reducible first | exact HB.out | apply below_alloc | apply pw_below_drewN | apply below_drew1) | exact HB.out))) : w.heap.size ≤ gb1255)); have n3_ := Aside0.mk ((by rw [hg]; exact (below_size (by repeat (first | (with_reducible first | exact HB.out | apply below_alloc | apply pw_below_drewN | apply below_drew1) | exact HB.out))) : w.heap.size ≤ gb1255)); clear HB; have HB := n0_; have BK1255 := n1_; have GW1255 := n2_; have GE1255 := n3_; clear n0_ n1_ n2_ n3_; clear hb hbox hg; have hcz21_0 : w20.cell? ⟨gb1255, 0, none⟩ = some (.int .i64 a0_0) := (blk_cell BK1255.out 0).trans rfl; have hcz21_1 : w20.cell? ⟨gb1255, 1, none⟩ = some (.slice A0_1 l0_1.length c0_1) := (blk_cell BK1255.out 1).trans rfl; have hfz21_0 := blk_frozen BK1255.out 0; have hfz21_1 := blk_frozen BK1255.out 1) | ((with_reducible refine gate_callee (f := 67) rfl ?_); refine goesL_ (some 10) rfl rfl Try.func67 (by kernel_rfl) rfl #[.agg #[.int .i64 a0_0, .slice A0_1 l0_1.length c0_1]] rfl (by (try simp only [List.map_toArray, List.map_cons, List.map_nil]); first | done | rfl | (simp only [List.length_drop, List.length_take]; rfl)) ?_; (with_reducible refine (spec_peGood.calls k a0_0 _ _ l0_1 false _ ?side1 ?side2 A3.out).mono ?_); (case side1 => repeat (first | exact (Kd.C_below HR0_1.out HB.out) | (with_reducible refine Kd.C_alloc ?_ _) | (with_reducible refine Kd.C_drewN ?_ _) | (with_reducible refine Kd.C_drew ?_))); (case side2 => exact HC0_1.out); rintro e w22 ⟨rfl, hb⟩; refine ⟨_, rfl, ?_⟩; have n0_ := Aside0.mk (blk_below (g := gb1255) (o := .cells #[.int .i64 a0_0, .slice A0_1 l0_1.length c0_1] 29 (0, 0)) (by (with_reducible repeat (first | refine blk_drewN ?_ _ | refine blk_drew ?_ | refine blk_alloc ?_ _)); exact BK1255.out) hb); have n1_ := Aside0.mk (below_step (by repeat (first | (with_reducible first | exact HB.out | apply below_alloc | apply pw_below_drewN | apply below_drew1 | refine below_set ?_ GE1255.out) | exact HB.out)) hb); clear BK1255; clear HB; have BK1255 := n0_; have HB := n1_; clear n0_ n1_; (try clear hb); (try clear hb2); (try clear hk); (try clear hi)))
   go_ret3
   exact ⟨_, _, by first | rfl | (simp [errW_none, errW_some] <;> rfl) | (simp [*, errW_none, errW_some] <;> rfl), by first | exact Kd.R_nil _ _ _ _ _ | exact Kd.N_nil _ _ _ _ _ | exact Kd.V_nil _ _ _ _ _ | exact Kd.Q_nil _ _ _ _ _ | exact Kd.S_nil _ _ _ _ _, by first | exact Kd.R_nil _ _ _ _ _ | exact Kd.N_nil _ _ _ _ _ | exact Kd.V_nil _ _ _ _ _ | exact Kd.Q_nil _ _ _ _ _ | exact Kd.S_nil _ _ _ _ _, by repeat (first | (with_reducible first | exact HB.out | apply below_alloc | apply pw_below_drewN | apply below_drew1 | refine below_set ?_ GE1255.out) | exact HB.out)⟩
/-! ### impl_PeelBy_1: function 110 -/
def impl_PeelBy_1.f (a0 : Int) : Option (Bool) := (impl_in.f a0 0 99).bind fun t1264 => (some (!t1264))
set_option maxHeartbeats 8000000 in
set_option maxRecDepth 100000 in
theorem impl_PeelBy_1.calls (a0 : Int) (r : Bool) (w : World) (h : impl_PeelBy_1.f a0 = some r) :
    Calls Try.prog 110 #[.int .i64 a0] w fun e w' => e = .returned (.bool r) ∧ Drawn0 w w' := by
  have H : ((impl_in.f a0 0 99).bind fun t1264 => (some (!t1264))) = some r := h
  clear h
  replace H := Option.bind_eq_some_iff.mp H
  obtain ⟨t1264, A20, H⟩ := H
  replace H : (some (!t1264)) = some r := H
  have A2 := Aside0.mk A20
  clear A20
  obtain rfl := Option.some.inj H
  go_enter Try.func110, Try.ntmps110
  go_wp2_with (first | ((with_reducible refine gate_callee (f := 76) rfl ?_); refine goesL_ (some 4) rfl rfl Try.func76 (by kernel_rfl) rfl #[.int .i64 a0, .int .i64 0, .int .i64 99] rfl (by (try simp only [List.map_toArray, List.map_cons, List.map_nil]); first | done | rfl | (simp only [List.length_drop, List.length_take]; rfl)) ?_; (with_reducible refine (impl_in.calls a0 0 99 t1264 _ A2.out).mono ?_); rintro e w' ⟨rfl, ⟨nd, rfl⟩⟩; refine ⟨_, rfl, ?_⟩))
  go_ret
  exact ⟨by first | rfl | (simp; done) | (simp [*]; done), by repeat (first | exact Drawn0.refl _ | apply Drawn0.step)⟩
/-! ### slices_IndexFunc_int_int_at_impl_PeelBy_1: function 156 -/
def slices_IndexFunc_int_int_at_impl_PeelBy_1.l0 : Nat → List Int → Int → Int → Option (Int)
  | 0, _, _, _ => none
  | k + 1, x0, x7, x8 => if x8 < x7 then (if 0 ≤ x8 then (if x8 < (x0.length : Int) then ((impl_PeelBy_1.f (rd x0 x8)).bind fun t1266 => (if t1266 = true then (some x8) else (slices_IndexFunc_int_int_at_impl_PeelBy_1.l0 k x0 x7 (wrap64 (x8 + 1))))) else (none)) else (none)) else (some (-1))
def slices_IndexFunc_int_int_at_impl_PeelBy_1.f (k : Nat) (l0 : List Int) : Option (Int) := slices_IndexFunc_int_int_at_impl_PeelBy_1.l0 k l0 (l0.length : Int) 0
theorem slices_IndexFunc_int_int_at_impl_PeelBy_1.mono_l : ∀ k, (∀ y0 y1 y2, LeO (slices_IndexFunc_int_int_at_impl_PeelBy_1.l0 k y0 y1 y2) (slices_IndexFunc_int_int_at_impl_PeelBy_1.l0 (k + 1) y0 y1 y2))
  | 0 => fun _ _ _ r h => by simp [slices_IndexFunc_int_int_at_impl_PeelBy_1.l0] at h
  | k + 1 => by
    have ih0 := slices_IndexFunc_int_int_at_impl_PeelBy_1.mono_l k
    · intro y0 y1 y2
      unfold slices_IndexFunc_int_int_at_impl_PeelBy_1.l0
      repeat' first
      | (with_reducible exact ih0 _ _ _)
      | (with_reducible exact LeO.refl _)
      | (with_reducible exact LeO.none _)
      | (with_reducible refine LeO.ite ?_ ?_)
      | (with_reducible refine LeO.bind ?_ (fun _ => ?_))
      | exact ih0 _ _ _
      | exact LeO.none _
      | refine LeO.ite ?_ ?_
      | refine LeO.bind ?_ (fun _ => ?_)
theorem slices_IndexFunc_int_int_at_impl_PeelBy_1.mono : ∀ a0 k, LeO (slices_IndexFunc_int_int_at_impl_PeelBy_1.f k a0) (slices_IndexFunc_int_int_at_impl_PeelBy_1.f (k + 1) a0) := by
  intro a0 k
  have ih0 := slices_IndexFunc_int_int_at_impl_PeelBy_1.mono_l k
  unfold slices_IndexFunc_int_int_at_impl_PeelBy_1.f
  repeat' first
      | (with_reducible exact ih0 _ _ _)
      | (with_reducible exact LeO.refl _)
      | (with_reducible exact LeO.none _)
      | (with_reducible refine LeO.ite ?_ ?_)
      | (with_reducible refine LeO.bind ?_ (fun _ => ?_))
      | exact ih0 _ _ _
      | exact LeO.none _
      | refine LeO.ite ?_ ?_
      | refine LeO.bind ?_ (fun _ => ?_)
noncomputable def slices_IndexFunc_int_int_at_impl_PeelBy_1.L0 (y0 : List Int) (y1 : Int) (y2 : Int) : Option (Int) := lim fun k => slices_IndexFunc_int_int_at_impl_PeelBy_1.l0 k y0 y1 y2
theorem slices_IndexFunc_int_int_at_impl_PeelBy_1.L0_sup (y0 : List Int) (y1 : Int) (y2 : Int) : Sup (fun k => slices_IndexFunc_int_int_at_impl_PeelBy_1.l0 k y0 y1 y2) (slices_IndexFunc_int_int_at_impl_PeelBy_1.L0 y0 y1 y2) := Sup.of_mono fun k => slices_IndexFunc_int_int_at_impl_PeelBy_1.mono_l k y0 y1 y2
noncomputable def slices_IndexFunc_int_int_at_impl_PeelBy_1.F (l0 : List Int) : Option (Int) := lim fun k => slices_IndexFunc_int_int_at_impl_PeelBy_1.f k l0
theorem slices_IndexFunc_int_int_at_impl_PeelBy_1.F_sup (l0 : List Int) : Sup (fun k => slices_IndexFunc_int_int_at_impl_PeelBy_1.f k l0) (slices_IndexFunc_int_int_at_impl_PeelBy_1.F l0) := Sup.of_mono fun k => slices_IndexFunc_int_int_at_impl_PeelBy_1.mono l0 k
theorem slices_IndexFunc_int_int_at_impl_PeelBy_1.L0_eq (x0 : List Int) (x7 : Int) (x8 : Int) : slices_IndexFunc_int_int_at_impl_PeelBy_1.L0 x0 x7 x8 = if x8 < x7 then (if 0 ≤ x8 then (if x8 < (x0.length : Int) then ((impl_PeelBy_1.f (rd x0 x8)).bind fun t1266 => (if t1266 = true then (some x8) else (slices_IndexFunc_int_int_at_impl_PeelBy_1.L0 x0 x7 (wrap64 (x8 + 1))))) else (none)) else (none)) else (some (-1)) := by
  refine Sup.unique (slices_IndexFunc_int_int_at_impl_PeelBy_1.L0_sup x0 x7 x8) (Sup.shift (fun k => slices_IndexFunc_int_int_at_impl_PeelBy_1.mono_l k x0 x7 x8) (Sup.congr (g' := fun k => if x8 < x7 then (if 0 ≤ x8 then (if x8 < (x0.length : Int) then ((impl_PeelBy_1.f (rd x0 x8)).bind fun t1266 => (if t1266 = true then (some x8) else (slices_IndexFunc_int_int_at_impl_PeelBy_1.l0 k x0 x7 (wrap64 (x8 + 1))))) else (none)) else (none)) else (some (-1))) (fun k => by first | rfl | simp only [slices_IndexFunc_int_int_at_impl_PeelBy_1.l0]) ?_))
  repeat' first
    | (with_reducible exact slices_IndexFunc_int_int_at_impl_PeelBy_1.L0_sup _ _ _)
    | (with_reducible refine Sup.ite ?_ ?_)
    | (with_reducible refine Sup.bind ?_ (fun _ => ?_))
    | (with_reducible exact Sup.const _)
    | exact slices_IndexFunc_int_int_at_impl_PeelBy_1.L0_sup _ _ _
    | exact Sup.const _
theorem slices_IndexFunc_int_int_at_impl_PeelBy_1.F_eq (l0 : List Int) : slices_IndexFunc_int_int_at_impl_PeelBy_1.F l0 = slices_IndexFunc_int_int_at_impl_PeelBy_1.L0 l0 (l0.length : Int) 0 := by
  refine Sup.unique (slices_IndexFunc_int_int_at_impl_PeelBy_1.F_sup l0) (Sup.congr (g' := fun k => slices_IndexFunc_int_int_at_impl_PeelBy_1.l0 k l0 (l0.length : Int) 0) (fun k => by first | rfl | simp only [slices_IndexFunc_int_int_at_impl_PeelBy_1.f]) ?_)
  repeat' first
    | (with_reducible exact slices_IndexFunc_int_int_at_impl_PeelBy_1.L0_sup _ _ _)
    | (with_reducible refine Sup.ite ?_ ?_)
    | (with_reducible refine Sup.bind ?_ (fun _ => ?_))
    | (with_reducible exact Sup.const _)
    | exact slices_IndexFunc_int_int_at_impl_PeelBy_1.L0_sup _ _ _
    | exact Sup.const _
set_option maxHeartbeats 8000000 in
set_option maxRecDepth 100000 in
theorem slices_IndexFunc_int_int_at_impl_PeelBy_1.calls (k : Nat) (A0 : Option Addr) (c0 : Nat) (l0 : List Int) (r : Int) (w : World) (hr0 : Kd.C (Kd.int .i64) w A0 l0.length l0) (hc0 : l0.length ≤ c0) (h : slices_IndexFunc_int_int_at_impl_PeelBy_1.f k l0 = some r) :
    Calls Try.prog 124 #[.slice A0 l0.length c0, .func (.func 110) #[] #[]] w fun e w' => e = .returned (.int .i64 r) ∧ Drawn0 w w' := by
  have HR0 := Aside0.mk hr0
  have HC0 := Aside0.mk hc0
  clear hr0 hc0
  have H : (slices_IndexFunc_int_int_at_impl_PeelBy_1.l0 k l0 (l0.length : Int) 0) = some r := h
  clear h
  have H' := Aside0.mk H
  clear H
  go_enter Try.func124, Try.ntmps124
  go_wp2
  go_loopg [8] k (fun kq v8 w' => ∃ (x8_1 : Int), v8 = .int .i64 x8_1 ∧ Aside0 (slices_IndexFunc_int_int_at_impl_PeelBy_1.l0 kq l0 (l0.length : Int) x8_1 = some r) ∧ Aside0 (kq ≤ k) ∧ Drawn0 w w')
  case atStart => exact ⟨(0), (by first | rfl | (simp; done) | (simp [*]; done)), H', ⟨Nat.le_refl _⟩, by repeat (first | exact Drawn0.refl _ | apply Drawn0.step)⟩
  case round =>
   clear H'
   try clear c1
   obtain ⟨x8_1, rfl, HA, HK1, ⟨m1, rfl⟩⟩ := hrel
   cases gk with
   | zero => exact absurd HA.out (by simp [slices_IndexFunc_int_int_at_impl_PeelBy_1.l0])
   | succ k1 =>
    have H := HA.out
    clear HA
    simp only [slices_IndexFunc_int_int_at_impl_PeelBy_1.l0] at H
    by_cases c2 : x8_1 < (l0.length : Int)
    ·rw [if_pos c2] at H
     have c2b0 : decide (x8_1 < (l0.length : Int)) = true := decide_eq_true c2
     clear c2
     by_cases c3 : 0 ≤ x8_1
     ·rw [if_pos c3] at H
      have c3b0 : decide (0 ≤ x8_1) = true := decide_eq_true c3
      clear c3
      by_cases c4 : x8_1 < (l0.length : Int)
      ·rw [if_pos c4] at H
       have c4b0 : decide (x8_1 < (l0.length : Int)) = true := decide_eq_true c4
       clear c4
       replace H := Option.bind_eq_some_iff.mp H
       obtain ⟨t1266, A50, H⟩ := H
       replace H : (if t1266 = true then (some x8_1) else (slices_IndexFunc_int_int_at_impl_PeelBy_1.l0 k1 l0 (l0.length : Int) (wrap64 (x8_1 + 1)))) = some r := H
       have A5 := Aside0.mk A50
       clear A50
       by_cases c6 : t1266 = true
       ·subst c6
        have H1 : (some x8_1) = some r := by rw [if_pos rfl] at H; exact H
        clear H
        have H := H1
        clear H1
        obtain rfl := Option.some.inj H
        have p1265 : 0 ≤ (x8_1 : Int) := of_decide_eq_true (by first | (with_reducible assumption) | assumption)
        have q1265 : x8_1 < (l0.length : Int) := of_decide_eq_true (by first | (with_reducible assumption) | assumption)
        obtain ⟨ad1265, e1265, hx1265_0⟩ := Kd.at_int HR0.out x8_1 p1265 q1265
        cases e1265
        replace p1265 := eq_true p1265
        replace q1265 := eq_true q1265
        go_wp2_with (first | (go_at_call 110; (with_reducible refine (impl_PeelBy_1.calls (rd l0 x8_1) true _ A5.out).mono ?_); rintro e w' ⟨rfl, ⟨nd, rfl⟩⟩))
        go_ret
        exact ⟨by first | rfl | (simp; done) | (simp [*]; done), by repeat (first | exact Drawn0.refl _ | apply Drawn0.step)⟩
       ·replace c6 := Bool.eq_false_iff.mpr c6
        subst c6
        have H1 : (slices_IndexFunc_int_int_at_impl_PeelBy_1.l0 k1 l0 (l0.length : Int) (wrap64 (x8_1 + 1))) = some r := by rw [if_neg (show ¬ (false = true) by decide)] at H; exact H
        clear H
        have H := H1
        clear H1
        have H' := Aside0.mk H
        clear H
        have p1265 : 0 ≤ (x8_1 : Int) := of_decide_eq_true (by first | (with_reducible assumption) | assumption)
        have q1265 : x8_1 < (l0.length : Int) := of_decide_eq_true (by first | (with_reducible assumption) | assumption)
        obtain ⟨ad1265, e1265, hx1265_0⟩ := Kd.at_int HR0.out x8_1 p1265 q1265
        cases e1265
        replace p1265 := eq_true p1265
        replace q1265 := eq_true q1265
        go_wp2_with (first | (go_at_call 110; (with_reducible refine (impl_PeelBy_1.calls (rd l0 x8_1) false _ A5.out).mono ?_); rintro e w' ⟨rfl, ⟨nd, rfl⟩⟩))
        go_roundg k1
        case measure => have := HK1.out; omega
        case rel => exact ⟨(wrap64 (x8_1 + 1)), (by first | rfl | (simp; done) | (simp [*]; done)), H', ⟨by have := HK1.out; omega⟩, by repeat (first | exact Drawn0.refl _ | apply Drawn0.step)⟩
      ·rw [if_neg c4] at H
       exact absurd H (by simp)
     ·rw [if_neg c3] at H
      exact absurd H (by simp)
    ·rw [if_neg c2] at H
     have c2b0 : decide (x8_1 < (l0.length : Int)) = false := decide_eq_false c2
     clear c2
     obtain rfl := Option.some.inj H
     go_wp2
     go_ret
     exact ⟨by first | rfl | (simp; done) | (simp [*]; done), by repeat (first | exact Drawn0.refl _ | apply Drawn0.step)⟩
/-! ### slices_ContainsFunc_int_int_at_impl_PeelBy_1: function 155 -/
def slices_ContainsFunc_int_int_at_impl_PeelBy_1.f (k : Nat) (l0 : List Int) : Option (Bool) := (slices_IndexFunc_int_int_at_impl_PeelBy_1.f k l0).bind fun t1267 => (some (decide (t1267 ≥ 0)))
theorem slices_ContainsFunc_int_int_at_impl_PeelBy_1.mono : ∀ a0 k, LeO (slices_ContainsFunc_int_int_at_impl_PeelBy_1.f k a0) (slices_ContainsFunc_int_int_at_impl_PeelBy_1.f (k + 1) a0) := by
  intro a0 k
  unfold slices_ContainsFunc_int_int_at_impl_PeelBy_1.f
  repeat' first
      | (with_reducible exact slices_IndexFunc_int_int_at_impl_PeelBy_1.mono _ _)
      | (with_reducible exact LeO.refl _)
      | (with_reducible exact LeO.none _)
      | (with_reducible refine LeO.ite ?_ ?_)
      | (with_reducible refine LeO.bind ?_ (fun _ => ?_))
      | exact slices_IndexFunc_int_int_at_impl_PeelBy_1.mono _ _
      | exact LeO.none _
      | refine LeO.ite ?_ ?_
      | refine LeO.bind ?_ (fun _ => ?_)
noncomputable def slices_ContainsFunc_int_int_at_impl_PeelBy_1.F (l0 : List Int) : Option (Bool) := lim fun k => slices_ContainsFunc_int_int_at_impl_PeelBy_1.f k l0
theorem slices_ContainsFunc_int_int_at_impl_PeelBy_1.F_sup (l0 : List Int) : Sup (fun k => slices_ContainsFunc_int_int_at_impl_PeelBy_1.f k l0) (slices_ContainsFunc_int_int_at_impl_PeelBy_1.F l0) := Sup.of_mono fun k => slices_ContainsFunc_int_int_at_impl_PeelBy_1.mono l0 k
theorem slices_ContainsFunc_int_int_at_impl_PeelBy_1.F_eq (l0 : List Int) : slices_ContainsFunc_int_int_at_impl_PeelBy_1.F l0 = (slices_IndexFunc_int_int_at_impl_PeelBy_1.F l0).bind fun t1267 => (some (decide (t1267 ≥ 0))) := by
  refine Sup.unique (slices_ContainsFunc_int_int_at_impl_PeelBy_1.F_sup l0) (Sup.congr (g' := fun k => (slices_IndexFunc_int_int_at_impl_PeelBy_1.f k l0).bind fun t1267 => (some (decide (t1267 ≥ 0)))) (fun k => by first | rfl | simp only [slices_ContainsFunc_int_int_at_impl_PeelBy_1.f]) ?_)
  repeat' first
    | (with_reducible exact slices_IndexFunc_int_int_at_impl_PeelBy_1.F_sup _)
    | (with_reducible refine Sup.ite ?_ ?_)
    | (with_reducible refine Sup.bind ?_ (fun _ => ?_))
    | (with_reducible exact Sup.const _)
    | exact slices_IndexFunc_int_int_at_impl_PeelBy_1.F_sup _
    | exact Sup.const _
set_option maxHeartbeats 8000000 in
set_option maxRecDepth 100000 in
theorem slices_ContainsFunc_int_int_at_impl_PeelBy_1.calls (k : Nat) (A0 : Option Addr) (c0 : Nat) (l0 : List Int) (r : Bool) (w : World) (hr0 : Kd.C (Kd.int .i64) w A0 l0.length l0) (hc0 : l0.length ≤ c0) (h : slices_ContainsFunc_int_int_at_impl_PeelBy_1.f k l0 = some r) :
    Calls Try.prog 98 #[.slice A0 l0.length c0, .func (.func 110) #[] #[]] w fun e w' => e = .returned (.bool r) ∧ Drawn0 w w' := by
  have HR0 := Aside0.mk hr0
  have HC0 := Aside0.mk hc0
  clear hr0 hc0
  have H : ((slices_IndexFunc_int_int_at_impl_PeelBy_1.f k l0).bind fun t1267 => (some (decide (t1267 ≥ 0)))) = some r := h
  clear h
  replace H := Option.bind_eq_some_iff.mp H
  obtain ⟨t1267, A20, H⟩ := H
  replace H : (some (decide (t1267 ≥ 0))) = some r := H
  have A2 := Aside0.mk A20
  clear A20
  obtain rfl := Option.some.inj H
  go_enter Try.func98, Try.ntmps98
  go_wp2_with (first | ((with_reducible refine gate_callee (f := 124) rfl ?_); refine goesL_ (some 7) rfl rfl Try.func124 (by kernel_rfl) rfl #[.slice A0 l0.length c0, .func (.func 110) #[] #[]] rfl (by (try simp only [List.map_toArray, List.map_cons, List.map_nil]); first | done | rfl | (simp only [List.length_drop, List.length_take]; rfl)) ?_; (with_reducible refine (slices_IndexFunc_int_int_at_impl_PeelBy_1.calls k _ _ l0 t1267 _ ?side1 ?side2 A2.out).mono ?_); (case side1 => repeat (first | exact HR0.out | (with_reducible refine Kd.C_alloc ?_ _) | (with_reducible refine Kd.C_drewN ?_ _) | (with_reducible refine Kd.C_drew ?_))); (case side2 => exact HC0.out); rintro e w' ⟨rfl, ⟨nd, rfl⟩⟩; refine ⟨_, rfl, ?_⟩))
  go_ret
  exact ⟨by first | rfl | (simp; done) | (simp [*]; done), by repeat (first | exact Drawn0.refl _ | apply Drawn0.step)⟩
/-! ### impl_PeelBy: function 65 -/
mutual
def impl_PeelBy.j0 : Nat → List Int → Bool → Int → List (List Int) → Option ((List (S88)) × List Int × Bool)
  | 0, _, _, _, _ => none
  | k + 1, x1, x25, x1269000, x1269001 => if x25 = true then (some (([] : List (S88)), ([] : List Int), false)) else ((impl_Hyper_none.f x1269000 x1269001).bind fun t1274 => (impl_PeelBy.l0 k (([] : List (S88))) t1274 x1 (x1.length : Int) 0 x1269000 x1269001))
def impl_PeelBy.l0 : Nat → List (S88) → List Bool → List Int → Int → Int → Int → List (List Int) → Option ((List (S88)) × List Int × Bool)
  | 0, _, _, _, _, _, _, _ => none
  | k + 1, x7, x8, x28, x29, x30, x1269000, x1269001 => if x30 < x29 then (if 0 ≤ x30 then (if x30 < (x28.length : Int) then ((impl_Hyper_singles.f k x1269000 x1269001 x8).bind fun t1281 => (if (t1281.length : Int) = 0 then ((impl_left.f k x8).bind fun t1284 => (some (x7, t1284, true))) else (if 0 ≤ (Int.tmod (rd x28 x30) (t1281.length : Int)) then (if (Int.tmod (rd x28 x30) (t1281.length : Int)) < (t1281.length : Int) then ((impl_Hyper_edgeAt.f k x1269000 x1269001 x8 (rd t1281 (Int.tmod (rd x28 x30) (t1281.length : Int)))).bind fun t1288 => (if 0 ≤ t1288 then (if t1288 < (x8.length : Int) then (if x7.length < 8796093022208 then (impl_PeelBy.l0 k (x7 ++ [(⟨t1288, rd t1281 (Int.tmod (rd x28 x30) (t1281.length : Int))⟩ : S88)]) (x8.set (t1288 : Int).toNat true) x28 x29 (wrap64 (x30 + 1)) x1269000 x1269001) else (none)) else (none)) else (none))) else (none)) else (none)))) else (none)) else (none)) else ((impl_left.f k x8).bind fun t1277 => (some (x7, t1277, true)))
end
def impl_PeelBy.f (k : Nat) (a0_0 : Int) (l0_1 : List (List Int)) (l1 : List Int) : Option ((List (S88)) × List Int × Bool) := (impl_IsHyper.f k a0_0 l0_1).bind fun t1269 => (if t1269 = true then (if (l1.length : Int) > 40 then (impl_PeelBy.j0 k l1 true a0_0 l0_1) else ((slices_ContainsFunc_int_int_at_impl_PeelBy_1.f k l1).bind fun t1270 => (impl_PeelBy.j0 k l1 t1270 a0_0 l0_1))) else (impl_PeelBy.j0 k l1 true a0_0 l0_1))
theorem impl_PeelBy.mono_l : ∀ k, (∀ y0 y1 y2 y3, LeO (impl_PeelBy.j0 k y0 y1 y2 y3) (impl_PeelBy.j0 (k + 1) y0 y1 y2 y3)) ∧ (∀ y0 y1 y2 y3 y4 y5 y6, LeO (impl_PeelBy.l0 k y0 y1 y2 y3 y4 y5 y6) (impl_PeelBy.l0 (k + 1) y0 y1 y2 y3 y4 y5 y6))
  | 0 => ⟨fun _ _ _ _ r h => by simp [impl_PeelBy.j0] at h, fun _ _ _ _ _ _ _ r h => by simp [impl_PeelBy.l0] at h⟩
  | k + 1 => by
    obtain ⟨ih0, ih1⟩ := impl_PeelBy.mono_l k
    refine ⟨?_, ?_⟩
    · intro y0 y1 y2 y3
      unfold impl_PeelBy.j0
      repeat' first
      | (with_reducible exact ih0 _ _ _ _)
      | (with_reducible exact ih1 _ _ _ _ _ _ _)
      | (with_reducible exact impl_Hyper_edgeAt.mono _ _ _ _ _)
      | (with_reducible exact impl_Hyper_singles.mono _ _ _ _)
      | (with_reducible exact impl_IsHyper.mono _ _ _)
      | (with_reducible exact impl_left.mono _ _)
      | (with_reducible exact slices_ContainsFunc_int_int_at_impl_PeelBy_1.mono _ _)
      | (with_reducible exact LeO.refl _)
      | (with_reducible exact LeO.none _)
      | (with_reducible refine LeO.ite ?_ ?_)
      | (with_reducible refine LeO.bind ?_ (fun _ => ?_))
      | exact ih0 _ _ _ _
      | exact ih1 _ _ _ _ _ _ _
      | exact impl_Hyper_edgeAt.mono _ _ _ _ _
      | exact impl_Hyper_singles.mono _ _ _ _
      | exact impl_IsHyper.mono _ _ _
      | exact impl_left.mono _ _
      | exact slices_ContainsFunc_int_int_at_impl_PeelBy_1.mono _ _
      | exact LeO.none _
      | refine LeO.ite ?_ ?_
      | refine LeO.bind ?_ (fun _ => ?_)
    · intro y0 y1 y2 y3 y4 y5 y6
      unfold impl_PeelBy.l0
      repeat' first
      | (with_reducible exact ih0 _ _ _ _)
      | (with_reducible exact ih1 _ _ _ _ _ _ _)
      | (with_reducible exact impl_Hyper_edgeAt.mono _ _ _ _ _)
      | (with_reducible exact impl_Hyper_singles.mono _ _ _ _)
      | (with_reducible exact impl_IsHyper.mono _ _ _)
      | (with_reducible exact impl_left.mono _ _)
      | (with_reducible exact slices_ContainsFunc_int_int_at_impl_PeelBy_1.mono _ _)
      | (with_reducible exact LeO.refl _)
      | (with_reducible exact LeO.none _)
      | (with_reducible refine LeO.ite ?_ ?_)
      | (with_reducible refine LeO.bind ?_ (fun _ => ?_))
      | exact ih0 _ _ _ _
      | exact ih1 _ _ _ _ _ _ _
      | exact impl_Hyper_edgeAt.mono _ _ _ _ _
      | exact impl_Hyper_singles.mono _ _ _ _
      | exact impl_IsHyper.mono _ _ _
      | exact impl_left.mono _ _
      | exact slices_ContainsFunc_int_int_at_impl_PeelBy_1.mono _ _
      | exact LeO.none _
      | refine LeO.ite ?_ ?_
      | refine LeO.bind ?_ (fun _ => ?_)
theorem impl_PeelBy.mono : ∀ a0 a1 a2 k, LeO (impl_PeelBy.f k a0 a1 a2) (impl_PeelBy.f (k + 1) a0 a1 a2) := by
  intro a0 a1 a2 k
  obtain ⟨ih0, ih1⟩ := impl_PeelBy.mono_l k
  unfold impl_PeelBy.f
  repeat' first
      | (with_reducible exact ih0 _ _ _ _)
      | (with_reducible exact ih1 _ _ _ _ _ _ _)
      | (with_reducible exact impl_Hyper_edgeAt.mono _ _ _ _ _)
      | (with_reducible exact impl_Hyper_singles.mono _ _ _ _)
      | (with_reducible exact impl_IsHyper.mono _ _ _)
      | (with_reducible exact impl_left.mono _ _)
      | (with_reducible exact slices_ContainsFunc_int_int_at_impl_PeelBy_1.mono _ _)
      | (with_reducible exact LeO.refl _)
      | (with_reducible exact LeO.none _)
      | (with_reducible refine LeO.ite ?_ ?_)
      | (with_reducible refine LeO.bind ?_ (fun _ => ?_))
      | exact ih0 _ _ _ _
      | exact ih1 _ _ _ _ _ _ _
      | exact impl_Hyper_edgeAt.mono _ _ _ _ _
      | exact impl_Hyper_singles.mono _ _ _ _
      | exact impl_IsHyper.mono _ _ _
      | exact impl_left.mono _ _
      | exact slices_ContainsFunc_int_int_at_impl_PeelBy_1.mono _ _
      | exact LeO.none _
      | refine LeO.ite ?_ ?_
      | refine LeO.bind ?_ (fun _ => ?_)
noncomputable def impl_PeelBy.J0 (y0 : List Int) (y1 : Bool) (y2 : Int) (y3 : List (List Int)) : Option ((List (S88)) × List Int × Bool) := lim fun k => impl_PeelBy.j0 k y0 y1 y2 y3
theorem impl_PeelBy.J0_sup (y0 : List Int) (y1 : Bool) (y2 : Int) (y3 : List (List Int)) : Sup (fun k => impl_PeelBy.j0 k y0 y1 y2 y3) (impl_PeelBy.J0 y0 y1 y2 y3) := Sup.of_mono fun k => (impl_PeelBy.mono_l k).1 y0 y1 y2 y3
noncomputable def impl_PeelBy.L0 (y0 : List (S88)) (y1 : List Bool) (y2 : List Int) (y3 : Int) (y4 : Int) (y5 : Int) (y6 : List (List Int)) : Option ((List (S88)) × List Int × Bool) := lim fun k => impl_PeelBy.l0 k y0 y1 y2 y3 y4 y5 y6
theorem impl_PeelBy.L0_sup (y0 : List (S88)) (y1 : List Bool) (y2 : List Int) (y3 : Int) (y4 : Int) (y5 : Int) (y6 : List (List Int)) : Sup (fun k => impl_PeelBy.l0 k y0 y1 y2 y3 y4 y5 y6) (impl_PeelBy.L0 y0 y1 y2 y3 y4 y5 y6) := Sup.of_mono fun k => (impl_PeelBy.mono_l k).2 y0 y1 y2 y3 y4 y5 y6
noncomputable def impl_PeelBy.F (a0_0 : Int) (l0_1 : List (List Int)) (l1 : List Int) : Option ((List (S88)) × List Int × Bool) := lim fun k => impl_PeelBy.f k a0_0 l0_1 l1
theorem impl_PeelBy.F_sup (a0_0 : Int) (l0_1 : List (List Int)) (l1 : List Int) : Sup (fun k => impl_PeelBy.f k a0_0 l0_1 l1) (impl_PeelBy.F a0_0 l0_1 l1) := Sup.of_mono fun k => impl_PeelBy.mono a0_0 l0_1 l1 k
theorem impl_PeelBy.J0_eq (x1 : List Int) (x25 : Bool) (x1269000 : Int) (x1269001 : List (List Int)) : impl_PeelBy.J0 x1 x25 x1269000 x1269001 = if x25 = true then (some (([] : List (S88)), ([] : List Int), false)) else ((impl_Hyper_none.f x1269000 x1269001).bind fun t1274 => (impl_PeelBy.L0 (([] : List (S88))) t1274 x1 (x1.length : Int) 0 x1269000 x1269001)) := by
  refine Sup.unique (impl_PeelBy.J0_sup x1 x25 x1269000 x1269001) (Sup.shift (fun k => (impl_PeelBy.mono_l k).1 x1 x25 x1269000 x1269001) (Sup.congr (g' := fun k => if x25 = true then (some (([] : List (S88)), ([] : List Int), false)) else ((impl_Hyper_none.f x1269000 x1269001).bind fun t1274 => (impl_PeelBy.l0 k (([] : List (S88))) t1274 x1 (x1.length : Int) 0 x1269000 x1269001))) (fun k => by first | rfl | simp only [impl_PeelBy.j0]) ?_))
  repeat' first
    | (with_reducible exact impl_PeelBy.J0_sup _ _ _ _)
    | (with_reducible exact impl_PeelBy.L0_sup _ _ _ _ _ _ _)
    | (with_reducible exact impl_IsHyper.F_sup _ _)
    | (with_reducible exact impl_left.F_sup _)
    | (with_reducible exact impl_Hyper_singles.F_sup _ _ _)
    | (with_reducible exact impl_Hyper_edgeAt.F_sup _ _ _ _)
    | (with_reducible exact slices_ContainsFunc_int_int_at_impl_PeelBy_1.F_sup _)
    | (with_reducible refine Sup.ite ?_ ?_)
    | (with_reducible refine Sup.bind ?_ (fun _ => ?_))
    | (with_reducible exact Sup.const _)
    | exact impl_PeelBy.J0_sup _ _ _ _
    | exact impl_PeelBy.L0_sup _ _ _ _ _ _ _
    | exact impl_IsHyper.F_sup _ _
    | exact impl_left.F_sup _
    | exact impl_Hyper_singles.F_sup _ _ _
    | exact impl_Hyper_edgeAt.F_sup _ _ _ _
    | exact slices_ContainsFunc_int_int_at_impl_PeelBy_1.F_sup _
    | exact Sup.const _
theorem impl_PeelBy.L0_eq (x7 : List (S88)) (x8 : List Bool) (x28 : List Int) (x29 : Int) (x30 : Int) (x1269000 : Int) (x1269001 : List (List Int)) : impl_PeelBy.L0 x7 x8 x28 x29 x30 x1269000 x1269001 = if x30 < x29 then (if 0 ≤ x30 then (if x30 < (x28.length : Int) then ((impl_Hyper_singles.F x1269000 x1269001 x8).bind fun t1281 => (if (t1281.length : Int) = 0 then ((impl_left.F x8).bind fun t1284 => (some (x7, t1284, true))) else (if 0 ≤ (Int.tmod (rd x28 x30) (t1281.length : Int)) then (if (Int.tmod (rd x28 x30) (t1281.length : Int)) < (t1281.length : Int) then ((impl_Hyper_edgeAt.F x1269000 x1269001 x8 (rd t1281 (Int.tmod (rd x28 x30) (t1281.length : Int)))).bind fun t1288 => (if 0 ≤ t1288 then (if t1288 < (x8.length : Int) then (if x7.length < 8796093022208 then (impl_PeelBy.L0 (x7 ++ [(⟨t1288, rd t1281 (Int.tmod (rd x28 x30) (t1281.length : Int))⟩ : S88)]) (x8.set (t1288 : Int).toNat true) x28 x29 (wrap64 (x30 + 1)) x1269000 x1269001) else (none)) else (none)) else (none))) else (none)) else (none)))) else (none)) else (none)) else ((impl_left.F x8).bind fun t1277 => (some (x7, t1277, true))) := by
  refine Sup.unique (impl_PeelBy.L0_sup x7 x8 x28 x29 x30 x1269000 x1269001) (Sup.shift (fun k => (impl_PeelBy.mono_l k).2 x7 x8 x28 x29 x30 x1269000 x1269001) (Sup.congr (g' := fun k => if x30 < x29 then (if 0 ≤ x30 then (if x30 < (x28.length : Int) then ((impl_Hyper_singles.f k x1269000 x1269001 x8).bind fun t1281 => (if (t1281.length : Int) = 0 then ((impl_left.f k x8).bind fun t1284 => (some (x7, t1284, true))) else (if 0 ≤ (Int.tmod (rd x28 x30) (t1281.length : Int)) then (if (Int.tmod (rd x28 x30) (t1281.length : Int)) < (t1281.length : Int) then ((impl_Hyper_edgeAt.f k x1269000 x1269001 x8 (rd t1281 (Int.tmod (rd x28 x30) (t1281.length : Int)))).bind fun t1288 => (if 0 ≤ t1288 then (if t1288 < (x8.length : Int) then (if x7.length < 8796093022208 then (impl_PeelBy.l0 k (x7 ++ [(⟨t1288, rd t1281 (Int.tmod (rd x28 x30) (t1281.length : Int))⟩ : S88)]) (x8.set (t1288 : Int).toNat true) x28 x29 (wrap64 (x30 + 1)) x1269000 x1269001) else (none)) else (none)) else (none))) else (none)) else (none)))) else (none)) else (none)) else ((impl_left.f k x8).bind fun t1277 => (some (x7, t1277, true)))) (fun k => by first | rfl | simp only [impl_PeelBy.l0]) ?_))
  repeat' first
    | (with_reducible exact impl_PeelBy.J0_sup _ _ _ _)
    | (with_reducible exact impl_PeelBy.L0_sup _ _ _ _ _ _ _)
    | (with_reducible exact impl_IsHyper.F_sup _ _)
    | (with_reducible exact impl_left.F_sup _)
    | (with_reducible exact impl_Hyper_singles.F_sup _ _ _)
    | (with_reducible exact impl_Hyper_edgeAt.F_sup _ _ _ _)
    | (with_reducible exact slices_ContainsFunc_int_int_at_impl_PeelBy_1.F_sup _)
    | (with_reducible refine Sup.ite ?_ ?_)
    | (with_reducible refine Sup.bind ?_ (fun _ => ?_))
    | (with_reducible exact Sup.const _)
    | exact impl_PeelBy.J0_sup _ _ _ _
    | exact impl_PeelBy.L0_sup _ _ _ _ _ _ _
    | exact impl_IsHyper.F_sup _ _
    | exact impl_left.F_sup _
    | exact impl_Hyper_singles.F_sup _ _ _
    | exact impl_Hyper_edgeAt.F_sup _ _ _ _
    | exact slices_ContainsFunc_int_int_at_impl_PeelBy_1.F_sup _
    | exact Sup.const _
theorem impl_PeelBy.F_eq (a0_0 : Int) (l0_1 : List (List Int)) (l1 : List Int) : impl_PeelBy.F a0_0 l0_1 l1 = (impl_IsHyper.F a0_0 l0_1).bind fun t1269 => (if t1269 = true then (if (l1.length : Int) > 40 then (impl_PeelBy.J0 l1 true a0_0 l0_1) else ((slices_ContainsFunc_int_int_at_impl_PeelBy_1.F l1).bind fun t1270 => (impl_PeelBy.J0 l1 t1270 a0_0 l0_1))) else (impl_PeelBy.J0 l1 true a0_0 l0_1)) := by
  refine Sup.unique (impl_PeelBy.F_sup a0_0 l0_1 l1) (Sup.congr (g' := fun k => (impl_IsHyper.f k a0_0 l0_1).bind fun t1269 => (if t1269 = true then (if (l1.length : Int) > 40 then (impl_PeelBy.j0 k l1 true a0_0 l0_1) else ((slices_ContainsFunc_int_int_at_impl_PeelBy_1.f k l1).bind fun t1270 => (impl_PeelBy.j0 k l1 t1270 a0_0 l0_1))) else (impl_PeelBy.j0 k l1 true a0_0 l0_1))) (fun k => by first | rfl | simp only [impl_PeelBy.f]) ?_)
  repeat' first
    | (with_reducible exact impl_PeelBy.J0_sup _ _ _ _)
    | (with_reducible exact impl_PeelBy.L0_sup _ _ _ _ _ _ _)
    | (with_reducible exact impl_IsHyper.F_sup _ _)
    | (with_reducible exact impl_left.F_sup _)
    | (with_reducible exact impl_Hyper_singles.F_sup _ _ _)
    | (with_reducible exact impl_Hyper_edgeAt.F_sup _ _ _ _)
    | (with_reducible exact slices_ContainsFunc_int_int_at_impl_PeelBy_1.F_sup _)
    | (with_reducible refine Sup.ite ?_ ?_)
    | (with_reducible refine Sup.bind ?_ (fun _ => ?_))
    | (with_reducible exact Sup.const _)
    | exact impl_PeelBy.J0_sup _ _ _ _
    | exact impl_PeelBy.L0_sup _ _ _ _ _ _ _
    | exact impl_IsHyper.F_sup _ _
    | exact impl_left.F_sup _
    | exact impl_Hyper_singles.F_sup _ _ _
    | exact impl_Hyper_edgeAt.F_sup _ _ _ _
    | exact slices_ContainsFunc_int_int_at_impl_PeelBy_1.F_sup _
    | exact Sup.const _
set_option maxHeartbeats 8000000 in
set_option maxRecDepth 100000 in
theorem impl_PeelBy.calls (k : Nat) (a0_0 : Int) (A0_1 : Option Addr) (c0_1 : Nat) (l0_1 : List (List Int)) (A1 : Option Addr) (c1 : Nat) (l1 : List Int) (r1 : List (S88)) (r2 : List Int) (r3 : Bool) (w : World) (hr0_1 : Kd.C (Kd.slice 3 (Kd.int .i64)) w A0_1 l0_1.length l0_1) (hc0_1 : l0_1.length ≤ c0_1) (hr1 : Kd.C (Kd.int .i64) w A1 l1.length l1) (hc1 : l1.length ≤ c1) (h : impl_PeelBy.f k a0_0 l0_1 l1 = some (r1, r2, r3)) :
    Calls Try.prog 65 #[.agg #[.int .i64 a0_0, .slice A0_1 l0_1.length c0_1], .slice A1 l1.length c1] w fun e w' => ∃ v0_ v1_ : Value, e = .returned (.tuple #[v0_, v1_, .bool r3]) ∧ Kd.R k88 88 w' w.heap.size (fun _ => True) v0_ r1 ∧ Kd.R (Kd.int .i64) 3 w' w.heap.size (fun _ => True) v1_ r2 ∧ Below w.heap.size w w' := by
  have hu29 := Try.underlying29
  have hu88 := Try.underlying88
  have HR0_1 := Aside0.mk hr0_1
  have HC0_1 := Aside0.mk hc0_1
  clear hr0_1 hc0_1
  have HR1 := Aside0.mk hr1
  have HC1 := Aside0.mk hc1
  clear hr1 hc1
  have HB := Aside0.mk (Below.refl w.heap.size w)
  have H : ((impl_IsHyper.f k a0_0 l0_1).bind fun t1269 => (if t1269 = true then (if (l1.length : Int) > 40 then (impl_PeelBy.j0 k l1 true a0_0 l0_1) else ((slices_ContainsFunc_int_int_at_impl_PeelBy_1.f k l1).bind fun t1270 => (impl_PeelBy.j0 k l1 t1270 a0_0 l0_1))) else (impl_PeelBy.j0 k l1 true a0_0 l0_1))) = some (r1, r2, r3) := h
  clear h
  have HC3 := Aside0.mk H
  clear H
  go_enter Try.func65, Try.ntmps65
  go_upto_region 1 with (first | ((with_reducible refine gate_dst (N := 2) rfl ?_); (try (refine gate_guard (by rfl) ?_; dsimp only)); refine box_event ?hg (N := 2) ?hd (cs := #[.int .i64 a0_0, .slice A0_1 l0_1.length c0_1]) (t := 29) ?hr ?_; (case hd => rfl); (case hg => rfl); (case hr => first | (go_simp; done) | (go_simp; rfl)); intro gb1268 hg w4 hbox hb; have n0_ := Aside0.mk (below_step (by repeat (first | (with_reducible first | exact HB.out | apply below_alloc | apply pw_below_drewN | apply below_drew1) | exact HB.out)) hb); have n1_ := Aside0.mk (hbox); have n2_ := Aside0.mk ((by rw [hg]; exact (below_size (by repeat (first | (with_reducible first | exact HB.out | apply below_alloc | apply pw_below_drewN | apply below_drew1) | exact HB.out))) : w.heap.size ≤ gb1268)); have n3_ := Aside0.mk ((by rw [hg]; exact (below_size (by repeat (first | (with_reducible first | exact HB.out | apply below_alloc | apply pw_below_drewN | apply below_drew1) | exact HB.out))) : w.heap.size ≤ gb1268)); clear HB; have HB := n0_; have BK1268 := n1_; have GW1268 := n2_; have GE1268 := n3_; clear n0_ n1_ n2_ n3_; clear hb hbox hg))
  (try simp only [Act.put, List.setIfInBounds_toArray, List.set_cons_zero, List.set_cons_succ])
  go_cut [25] (fun v25 wc => ∃ (kq : Nat) (x25_2 : Bool), v25 = .bool x25_2 ∧ Aside0 (impl_PeelBy.j0 kq l1 x25_2 a0_0 l0_1 = some (r1, r2, r3)) ∧ Aside0 (kq ≤ k) ∧ Aside0 (wc.heap[gb1268]? = some (.cells #[.int .i64 a0_0, (.slice A0_1 l0_1.length c0_1)] 29 (0, 0))) ∧ Aside0 (Below w.heap.size w wc))
  case first =>
   have H := HC3.out
   clear HC3
   replace H := Option.bind_eq_some_iff.mp H
   obtain ⟨t1269, A50, H⟩ := H
   replace H : (if t1269 = true then (if (l1.length : Int) > 40 then (impl_PeelBy.j0 k l1 true a0_0 l0_1) else ((slices_ContainsFunc_int_int_at_impl_PeelBy_1.f k l1).bind fun t1270 => (impl_PeelBy.j0 k l1 t1270 a0_0 l0_1))) else (impl_PeelBy.j0 k l1 true a0_0 l0_1)) = some (r1, r2, r3) := H
   have A5 := Aside0.mk A50
   clear A50
   by_cases c6 : t1269 = true
   ·subst c6
    have H1 : (if (l1.length : Int) > 40 then (impl_PeelBy.j0 k l1 true a0_0 l0_1) else ((slices_ContainsFunc_int_int_at_impl_PeelBy_1.f k l1).bind fun t1270 => (impl_PeelBy.j0 k l1 t1270 a0_0 l0_1))) = some (r1, r2, r3) := by rw [if_pos rfl] at H; exact H
    clear H
    have H := H1
    clear H1
    by_cases c7 : (l1.length : Int) > 40
    ·rw [if_pos c7] at H
     have c7b0 : decide (40 < (l1.length : Int)) = true := decide_eq_true c7
     have c7b1 : decide (40 < l1.length) = true := decide_eq_true (by omega)
     clear c7
     (first | rw [c7b0] | (simp only [i64_w, i32_w]; rw [c7b0]) | skip)
     have H' := Aside0.mk H
     clear H
     have hcz8_0 : w4.cell? ⟨gb1268, 0, none⟩ = some (.int .i64 a0_0) := (blk_cell BK1268.out 0).trans rfl
     have hcz8_1 : w4.cell? ⟨gb1268, 1, none⟩ = some (.slice A0_1 l0_1.length c0_1) := (blk_cell BK1268.out 1).trans rfl
     have hfz8_0 := blk_frozen BK1268.out 0
     have hfz8_1 := blk_frozen BK1268.out 1
     go_wp2_with (first | ((with_reducible refine gate_callee (f := 71) rfl ?_); refine goesL_ (some 15) rfl rfl Try.func71 (by kernel_rfl) rfl #[.agg #[.int .i64 a0_0, .slice A0_1 l0_1.length c0_1]] rfl (by (try simp only [List.map_toArray, List.map_cons, List.map_nil]); first | done | rfl | (simp only [List.length_drop, List.length_take]; rfl)) ?_; (with_reducible refine (impl_IsHyper.calls k a0_0 _ _ l0_1 true _ ?side1 ?side2 A5.out).mono ?_); (case side1 => repeat (first | exact (Kd.C_below HR0_1.out HB.out) | (with_reducible refine Kd.C_alloc ?_ _) | (with_reducible refine Kd.C_drewN ?_ _) | (with_reducible refine Kd.C_drew ?_))); (case side2 => exact HC0_1.out); rintro e w9 ⟨rfl, hb⟩; refine ⟨_, rfl, ?_⟩; have n0_ := Aside0.mk (blk_below (g := gb1268) (o := .cells #[.int .i64 a0_0, .slice A0_1 l0_1.length c0_1] 29 (0, 0)) (by (with_reducible repeat (first | refine blk_drewN ?_ _ | refine blk_drew ?_ | refine blk_alloc ?_ _)); exact BK1268.out) hb); have n1_ := Aside0.mk (below_step (by repeat (first | (with_reducible first | exact HB.out | apply below_alloc | apply pw_below_drewN | apply below_drew1 | refine below_set ?_ GE1268.out) | exact HB.out)) hb); clear BK1268; clear HB; have BK1268 := n0_; have HB := n1_; clear n0_ n1_; (try clear hb); (try clear hb2); (try clear hk); (try clear hi)))
     go_meet
     case rel => exact ⟨_, (true), (by first | rfl | (simp; done) | (simp [*]; done)), H', ⟨by first | omega | exact Nat.le_refl _⟩, ⟨by (with_reducible repeat (first | refine blk_drewN ?_ _ | refine blk_drew ?_ | refine blk_alloc ?_ _)); exact BK1268.out⟩, ⟨by repeat (first | (with_reducible first | exact HB.out | apply below_alloc | apply pw_below_drewN | apply below_drew1 | refine below_set ?_ GE1268.out) | exact HB.out)⟩⟩
    ·rw [if_neg c7] at H
     have c7b0 : decide (40 < (l1.length : Int)) = false := decide_eq_false c7
     have c7b1 : decide (40 < l1.length) = false := decide_eq_false (by omega)
     clear c7
     (first | rw [c7b0] | (simp only [i64_w, i32_w]; rw [c7b0]) | skip)
     replace H := Option.bind_eq_some_iff.mp H
     obtain ⟨t1270, A100, H⟩ := H
     replace H : (impl_PeelBy.j0 k l1 t1270 a0_0 l0_1) = some (r1, r2, r3) := H
     have A10 := Aside0.mk A100
     clear A100
     have H' := Aside0.mk H
     clear H
     have hcz11_0 : w4.cell? ⟨gb1268, 0, none⟩ = some (.int .i64 a0_0) := (blk_cell BK1268.out 0).trans rfl
     have hcz11_1 : w4.cell? ⟨gb1268, 1, none⟩ = some (.slice A0_1 l0_1.length c0_1) := (blk_cell BK1268.out 1).trans rfl
     have hfz11_0 := blk_frozen BK1268.out 0
     have hfz11_1 := blk_frozen BK1268.out 1
     go_wp2_with (first | ((with_reducible refine gate_callee (f := 71) rfl ?_); refine goesL_ (some 15) rfl rfl Try.func71 (by kernel_rfl) rfl #[.agg #[.int .i64 a0_0, .slice A0_1 l0_1.length c0_1]] rfl (by (try simp only [List.map_toArray, List.map_cons, List.map_nil]); first | done | rfl | (simp only [List.length_drop, List.length_take]; rfl)) ?_; (with_reducible refine (impl_IsHyper.calls k a0_0 _ _ l0_1 true _ ?side1 ?side2 A5.out).mono ?_); (case side1 => repeat (first | exact (Kd.C_below HR0_1.out HB.out) | (with_reducible refine Kd.C_alloc ?_ _) | (with_reducible refine Kd.C_drewN ?_ _) | (with_reducible refine Kd.C_drew ?_))); (case side2 => exact HC0_1.out); rintro e w12 ⟨rfl, hb⟩; refine ⟨_, rfl, ?_⟩; have n0_ := Aside0.mk (blk_below (g := gb1268) (o := .cells #[.int .i64 a0_0, .slice A0_1 l0_1.length c0_1] 29 (0, 0)) (by (with_reducible repeat (first | refine blk_drewN ?_ _ | refine blk_drew ?_ | refine blk_alloc ?_ _)); exact BK1268.out) hb); have n1_ := Aside0.mk (below_step (by repeat (first | (with_reducible first | exact HB.out | apply below_alloc | apply pw_below_drewN | apply below_drew1 | refine below_set ?_ GE1268.out) | exact HB.out)) hb); clear BK1268; clear HB; have BK1268 := n0_; have HB := n1_; clear n0_ n1_; (try clear hb); (try clear hb2); (try clear hk); (try clear hi)) | (go_at_call 98; (with_reducible refine (slices_ContainsFunc_int_int_at_impl_PeelBy_1.calls k _ _ l1 t1270 _ ?side1 ?side2 A10.out).mono ?_); (case side1 => repeat (first | exact (Kd.C_below HR1.out HB.out) | (with_reducible refine Kd.C_alloc ?_ _) | (with_reducible refine Kd.C_drewN ?_ _) | (with_reducible refine Kd.C_drew ?_))); (case side2 => exact HC1.out); rintro e w' ⟨rfl, ⟨nd, rfl⟩⟩))
     go_meet
     case rel => exact ⟨_, (t1270), (by first | rfl | (simp; done) | (simp [*]; done)), H', ⟨by first | omega | exact Nat.le_refl _⟩, ⟨by (with_reducible repeat (first | refine blk_drewN ?_ _ | refine blk_drew ?_ | refine blk_alloc ?_ _)); exact BK1268.out⟩, ⟨by repeat (first | (with_reducible first | exact HB.out | apply below_alloc | apply pw_below_drewN | apply below_drew1 | refine below_set ?_ GE1268.out) | exact HB.out)⟩⟩
   ·replace c6 := Bool.eq_false_iff.mpr c6
    subst c6
    have H1 : (impl_PeelBy.j0 k l1 true a0_0 l0_1) = some (r1, r2, r3) := by rw [if_neg (show ¬ (false = true) by decide)] at H; exact H
    clear H
    have H := H1
    clear H1
    have H' := Aside0.mk H
    clear H
    have hcz13_0 : w4.cell? ⟨gb1268, 0, none⟩ = some (.int .i64 a0_0) := (blk_cell BK1268.out 0).trans rfl
    have hcz13_1 : w4.cell? ⟨gb1268, 1, none⟩ = some (.slice A0_1 l0_1.length c0_1) := (blk_cell BK1268.out 1).trans rfl
    have hfz13_0 := blk_frozen BK1268.out 0
    have hfz13_1 := blk_frozen BK1268.out 1
    go_wp2_with (first | ((with_reducible refine gate_callee (f := 71) rfl ?_); refine goesL_ (some 15) rfl rfl Try.func71 (by kernel_rfl) rfl #[.agg #[.int .i64 a0_0, .slice A0_1 l0_1.length c0_1]] rfl (by (try simp only [List.map_toArray, List.map_cons, List.map_nil]); first | done | rfl | (simp only [List.length_drop, List.length_take]; rfl)) ?_; (with_reducible refine (impl_IsHyper.calls k a0_0 _ _ l0_1 false _ ?side1 ?side2 A5.out).mono ?_); (case side1 => repeat (first | exact (Kd.C_below HR0_1.out HB.out) | (with_reducible refine Kd.C_alloc ?_ _) | (with_reducible refine Kd.C_drewN ?_ _) | (with_reducible refine Kd.C_drew ?_))); (case side2 => exact HC0_1.out); rintro e w14 ⟨rfl, hb⟩; refine ⟨_, rfl, ?_⟩; have n0_ := Aside0.mk (blk_below (g := gb1268) (o := .cells #[.int .i64 a0_0, .slice A0_1 l0_1.length c0_1] 29 (0, 0)) (by (with_reducible repeat (first | refine blk_drewN ?_ _ | refine blk_drew ?_ | refine blk_alloc ?_ _)); exact BK1268.out) hb); have n1_ := Aside0.mk (below_step (by repeat (first | (with_reducible first | exact HB.out | apply below_alloc | apply pw_below_drewN | apply below_drew1 | refine below_set ?_ GE1268.out) | exact HB.out)) hb); clear BK1268; clear HB; have BK1268 := n0_; have HB := n1_; clear n0_ n1_; (try clear hb); (try clear hb2); (try clear hk); (try clear hi)))
    go_meet
    case rel => exact ⟨_, (true), (by first | rfl | (simp; done) | (simp [*]; done)), H', ⟨by first | omega | exact Nat.le_refl _⟩, ⟨by (with_reducible repeat (first | refine blk_drewN ?_ _ | refine blk_drew ?_ | refine blk_alloc ?_ _)); exact BK1268.out⟩, ⟨by repeat (first | (with_reducible first | exact HB.out | apply below_alloc | apply pw_below_drewN | apply below_drew1 | refine below_set ?_ GE1268.out) | exact HB.out)⟩⟩
  case rest =>
   clear HC3
   try clear c1
   try clear p2
   try clear c6
   try clear c7
   try clear c7b0
   try clear c7b1
   try clear hcz11_0
   try clear hcz11_1
   try clear hcz13_0
   try clear hcz13_1
   try clear hcz8_0
   try clear hcz8_1
   try clear hfz11_0
   try clear hfz11_1
   try clear hfz13_0
   try clear hfz13_1
   try clear hfz8_0
   try clear hfz8_1
   obtain ⟨kq, x25_2, rfl, HA, HJ2, BK1268, HB⟩ := hcut
   cases kq with
   | zero => exact absurd HA.out (by simp [impl_PeelBy.j0])
   | succ kj2 =>
    have H := HA.out
    clear HA
    simp only [impl_PeelBy.j0] at H
    by_cases c15 : x25_2 = true
    ·subst c15
     have H1 : (some (([] : List (S88)), ([] : List Int), false)) = some (r1, r2, r3) := by rw [if_pos rfl] at H; exact H
     clear H
     have H := H1
     clear H1
     simp only [Option.some.injEq, Prod.mk.injEq] at H
     obtain ⟨rfl, rfl, rfl⟩ := H
     go_wp2
     go_ret3
     exact ⟨_, _, by first | rfl | (simp [errW_none, errW_some] <;> rfl) | (simp [*, errW_none, errW_some] <;> rfl), by first | exact Kd.R_nil _ _ _ _ _ | exact Kd.N_nil _ _ _ _ _ | exact Kd.V_nil _ _ _ _ _ | exact Kd.Q_nil _ _ _ _ _ | exact Kd.S_nil _ _ _ _ _, by first | exact Kd.R_nil _ _ _ _ _ | exact Kd.N_nil _ _ _ _ _ | exact Kd.V_nil _ _ _ _ _ | exact Kd.Q_nil _ _ _ _ _ | exact Kd.S_nil _ _ _ _ _, by repeat (first | (with_reducible first | exact HB.out | apply below_alloc | apply pw_below_drewN | apply below_drew1 | refine below_set ?_ GE1268.out) | exact HB.out)⟩
    ·replace c15 := Bool.eq_false_iff.mpr c15
     subst c15
     have H1 : ((impl_Hyper_none.f a0_0 l0_1).bind fun t1274 => (impl_PeelBy.l0 kj2 (([] : List (S88))) t1274 l1 (l1.length : Int) 0 a0_0 l0_1)) = some (r1, r2, r3) := by rw [if_neg (show ¬ (false = true) by decide)] at H; exact H
     clear H
     have H := H1
     clear H1
     obtain ⟨y1271, hy1271⟩ : ∃ y_ : List (S88), y_ = (([] : List (S88))) := ⟨_, rfl⟩
     replace H : ((impl_Hyper_none.f a0_0 l0_1).bind fun t1274 => (impl_PeelBy.l0 kj2 y1271 t1274 l1 (l1.length : Int) 0 a0_0 l0_1)) = some (r1, r2, r3) := by first | (rw [hy1271]; with_reducible exact H) | (have H2_ := (Option.bind_some _ _).symm.trans H; rw [hy1271]; with_reducible exact H2_) | (have H2_ := (Option.bind_some _ _).symm.trans H; with_reducible exact H2_) | with_reducible exact H | (rw [hy1271]; exact H) | exact H
     have Ny1271 := Aside0.mk hy1271
     clear hy1271
     replace H := Option.bind_eq_some_iff.mp H
     obtain ⟨t1274, A160, H⟩ := H
     replace H : (impl_PeelBy.l0 kj2 y1271 t1274 l1 (l1.length : Int) 0 a0_0 l0_1) = some (r1, r2, r3) := H
     have A16 := Aside0.mk A160
     clear A160
     have H' := Aside0.mk H
     clear H
     go_wp2_with (first | ((with_reducible refine gate_dst (N := 26) rfl ?_); (try (refine gate_guard (by rfl) ?_; dsimp only)); refine Kd.R_lit k88 _ 88 ?hg (N := 26) ?hd (xs := ([] : List (S88))) (inner := []) (ok := fun _ => True) (okp := fun _ => True) ?hr ?hp (fun _ hk => hk) trivial (Below.refl _ _) (Nat.le_refl _) (by simp) ?_; (case hd => rfl); (case hg => rfl); (case hr => first | (go_simp; done) | (go_simp; rfl)); (case hp => exact (Reps.none _ _)); intro v1272 w17 ho18 hb hg_ hnew_; clear hg_ hnew_; (first | rw [← Ny1271.out] at ho18 | (simp only [Int.reduceToNat] at ho18; rw [← Ny1271.out] at ho18)); have n0_ := Aside0.mk (Kd.R_lower ho18 (below_size (by repeat (first | (with_reducible first | exact HB.out | apply below_alloc | apply pw_below_drewN | apply below_drew1 | refine below_set ?_ GE1268.out) | exact HB.out)))); have n1_ := Aside0.mk (blk_below (g := gb1268) (o := .cells #[.int .i64 a0_0, .slice A0_1 l0_1.length c0_1] 29 (0, 0)) (by (with_reducible repeat (first | refine blk_drewN ?_ _ | refine blk_drew ?_ | refine blk_alloc ?_ _)); exact BK1268.out) hb); have n2_ := Aside0.mk (below_step (by repeat (first | (with_reducible first | exact HB.out | apply below_alloc | apply pw_below_drewN | apply below_drew1 | refine below_set ?_ GE1268.out) | exact HB.out)) hb); clear BK1268; clear HB; have HO1273 := n0_; have BK1268 := n1_; have HB := n2_; clear n0_ n1_ n2_; clear hb ho18) | ((with_reducible refine gate_callee (f := 73) rfl ?_); refine goesL_ (some 27) rfl rfl Try.func73 (by kernel_rfl) rfl #[.pointer (some ⟨gb1268, 0, none⟩)] rfl (by (try simp only [List.map_toArray, List.map_cons, List.map_nil]); first | done | rfl | (simp only [List.length_drop, List.length_take]; rfl)) ?_; (with_reducible refine (impl_Hyper_none.calls gb1268 a0_0 A0_1 c0_1 l0_1 t1274 _ ?side1 ?side2 ?side3 A16.out).mono ?_); (case side1 => repeat (first | exact (Kd.C_below HR0_1.out HB.out) | (with_reducible refine Kd.C_alloc ?_ _) | (with_reducible refine Kd.C_drewN ?_ _) | (with_reducible refine Kd.C_drew ?_))); (case side2 => exact HC0_1.out); (case side3 => exact (by (with_reducible repeat (first | refine blk_drewN ?_ _ | refine blk_drew ?_ | refine blk_alloc ?_ _)); exact BK1268.out)); rintro e w19 ⟨v1275, rfl, ho0, hb⟩; refine ⟨_, rfl, ?_⟩; have n0_ := Aside0.mk (Kd.R_below (by (with_reducible repeat (first | apply Kd.R_alloc | apply Kd.R_drewN | apply Kd.R_drew)); exact HO1273.out) hb); have n1_ := Aside0.mk (Kd.R_lower ho0 (below_size (by repeat (first | (with_reducible first | exact HB.out | apply below_alloc | apply pw_below_drewN | apply below_drew1 | refine below_set ?_ GE1268.out) | exact HB.out)))); have n2_ := Aside0.mk (blk_below (g := gb1268) (o := .cells #[.int .i64 a0_0, .slice A0_1 l0_1.length c0_1] 29 (0, 0)) (by (with_reducible repeat (first | refine blk_drewN ?_ _ | refine blk_drew ?_ | refine blk_alloc ?_ _)); exact BK1268.out) hb); have n3_ := Aside0.mk (below_step (by repeat (first | (with_reducible first | exact HB.out | apply below_alloc | apply pw_below_drewN | apply below_drew1 | refine below_set ?_ GE1268.out) | exact HB.out)) hb); clear HO1273; clear BK1268; clear HB; have HO1273 := n0_; have HO1276 := n1_; have BK1268 := n2_; have HB := n3_; clear n0_ n1_ n2_ n3_; (try clear hb); (try clear hb2); (try clear hk); (try clear hi); (try clear ho0)))
     go_loopg [7, 30] kj2 (fun kq v7 v30 w' => ∃ (x7_2 : List (S88)) (x8_2 : List Bool) (x30_2 : Int), v30 = .int .i64 x30_2 ∧ Aside0 (impl_PeelBy.l0 kq x7_2 x8_2 l1 (l1.length : Int) x30_2 a0_0 l0_1 = some (r1, r2, r3)) ∧ Aside0 (kq ≤ kj2) ∧ Aside0 (Kd.R k88 88 w' w.heap.size (fun _ => True) v7 x7_2) ∧ Aside0 (Kd.R Kd.bool 4 w' w.heap.size (fun _ => True) v1275 x8_2) ∧ Aside0 (w'.heap[gb1268]? = some (.cells #[.int .i64 a0_0, (.slice A0_1 l0_1.length c0_1)] 29 (0, 0))) ∧ Aside0 (Below w.heap.size w w'))
     case atStart => exact ⟨(y1271), (t1274), (0), (by first | rfl | (simp; done) | (simp [*]; done)), H', ⟨Nat.le_refl _⟩, ⟨by (with_reducible repeat (first | apply Kd.R_alloc | apply Kd.R_drewN | apply Kd.R_drew)); exact HO1273.out⟩, ⟨by (with_reducible repeat (first | apply Kd.R_alloc | apply Kd.R_drewN | apply Kd.R_drew)); exact HO1276.out⟩, ⟨by (with_reducible repeat (first | refine blk_drewN ?_ _ | refine blk_drew ?_ | refine blk_alloc ?_ _)); exact BK1268.out⟩, ⟨by repeat (first | (with_reducible first | exact HB.out | apply below_alloc | apply pw_below_drewN | apply below_drew1 | refine below_set ?_ GE1268.out) | exact HB.out)⟩⟩
     case round =>
      clear H'
      try clear c1
      try clear p2
      try clear c6
      try clear c7
      try clear c7b0
      try clear c7b1
      try clear c15
      try clear hcz11_0
      try clear hcz11_1
      try clear hcz13_0
      try clear hcz13_1
      try clear hcz8_0
      try clear hcz8_1
      try clear hfz11_0
      try clear hfz11_1
      try clear hfz13_0
      try clear hfz13_1
      try clear hfz8_0
      try clear hfz8_1
      try clear p2
      obtain ⟨x7_2, x8_2, x30_2, rfl, HA, HK2, HO_7, HO_8, BK1268, HB⟩ := hrel
      cases gk with
      | zero => exact absurd HA.out (by simp [impl_PeelBy.l0])
      | succ k2 =>
       have H := HA.out
       clear HA
       simp only [impl_PeelBy.l0] at H
       by_cases c20 : x30_2 < (l1.length : Int)
       ·rw [if_pos c20] at H
        have c20b0 : decide (x30_2 < (l1.length : Int)) = true := decide_eq_true c20
        clear c20
        by_cases c21 : 0 ≤ x30_2
        ·rw [if_pos c21] at H
         have c21b0 : decide (0 ≤ x30_2) = true := decide_eq_true c21
         clear c21
         by_cases c22 : x30_2 < (l1.length : Int)
         ·rw [if_pos c22] at H
          have c22b0 : decide (x30_2 < (l1.length : Int)) = true := decide_eq_true c22
          clear c22
          replace H := Option.bind_eq_some_iff.mp H
          obtain ⟨t1281, A230, H⟩ := H
          replace H : (if (t1281.length : Int) = 0 then ((impl_left.f k2 x8_2).bind fun t1284 => (some (x7_2, t1284, true))) else (if 0 ≤ (Int.tmod (rd l1 x30_2) (t1281.length : Int)) then (if (Int.tmod (rd l1 x30_2) (t1281.length : Int)) < (t1281.length : Int) then ((impl_Hyper_edgeAt.f k2 a0_0 l0_1 x8_2 (rd t1281 (Int.tmod (rd l1 x30_2) (t1281.length : Int)))).bind fun t1288 => (if 0 ≤ t1288 then (if t1288 < (x8_2.length : Int) then (if x7_2.length < 8796093022208 then (impl_PeelBy.l0 k2 (x7_2 ++ [(⟨t1288, rd t1281 (Int.tmod (rd l1 x30_2) (t1281.length : Int))⟩ : S88)]) (x8_2.set (t1288 : Int).toNat true) l1 (l1.length : Int) (wrap64 (x30_2 + 1)) a0_0 l0_1) else (none)) else (none)) else (none))) else (none)) else (none))) = some (r1, r2, r3) := H
          have A23 := Aside0.mk A230
          clear A230
          by_cases c24 : (t1281.length : Int) = 0
          ·rw [if_pos c24] at H
           have c24b0 : ((t1281.length : Int) == 0) = true := beq_iff_eq.mpr c24
           have c24b1 : ((t1281.length : Int) != 0) = false := bne_eq_false_iff_eq.mpr c24
           clear c24
           replace H := Option.bind_eq_some_iff.mp H
           obtain ⟨t1284, A250, H⟩ := H
           replace H : (some (x7_2, t1284, true)) = some (r1, r2, r3) := H
           have A25 := Aside0.mk A250
           clear A250
           simp only [Option.some.injEq, Prod.mk.injEq] at H
           obtain ⟨rfl, rfl, rfl⟩ := H
           have p1280 : 0 ≤ (x30_2 : Int) := of_decide_eq_true (by first | (with_reducible assumption) | assumption)
           have q1280 : x30_2 < (l1.length : Int) := of_decide_eq_true (by first | (with_reducible assumption) | assumption)
           obtain ⟨ad1280, e1280, hx1280_0⟩ := Kd.at_int HR1.out x30_2 p1280 q1280
           cases e1280
           replace hx1280_0 := (HB.out.cell (World.block_lt_of_cell? w _ hx1280_0)).trans hx1280_0
           replace p1280 := eq_true p1280
           replace q1280 := eq_true q1280
           obtain ⟨Ao26, co26, eo26⟩ := Kd.R_slice HO_8.out
           subst eo26
           go_wp2_with (first | ((with_reducible refine gate_callee (f := 111) rfl ?_); refine goesL_ (some 35) rfl rfl Try.func111 (by kernel_rfl) rfl #[.pointer (some ⟨gb1268, 0, none⟩), .slice Ao26 x8_2.length co26] rfl (by (try simp only [List.map_toArray, List.map_cons, List.map_nil]); first | done | rfl | (simp only [List.length_drop, List.length_take]; rfl)) ?_; (with_reducible refine (impl_Hyper_singles.calls k2 gb1268 a0_0 A0_1 c0_1 l0_1 _ _ x8_2 t1281 _ ?side1 ?side2 ?side3 ?side4 ?side5 A23.out).mono ?_); (case side1 => repeat (first | exact (Kd.C_below HR0_1.out HB.out) | (with_reducible refine Kd.C_alloc ?_ _) | (with_reducible refine Kd.C_drewN ?_ _) | (with_reducible refine Kd.C_drew ?_))); (case side2 => exact HC0_1.out); (case side3 => repeat (first | exact (Kd.R_reads' HO_8.out).2.2 | (with_reducible refine Kd.C_alloc ?_ _) | (with_reducible refine Kd.C_drewN ?_ _) | (with_reducible refine Kd.C_drew ?_))); (case side4 => exact (Kd.R_reads' HO_8.out).2.1); (case side5 => exact (by (with_reducible repeat (first | refine blk_drewN ?_ _ | refine blk_drew ?_ | refine blk_alloc ?_ _)); exact BK1268.out)); rintro e w27 ⟨v1282, rfl, ho0, hb⟩; refine ⟨_, rfl, ?_⟩; have n0_ := Aside0.mk (Kd.R_below (by (with_reducible repeat (first | apply Kd.R_alloc | apply Kd.R_drewN | apply Kd.R_drew)); exact HO_7.out) hb); have n1_ := Aside0.mk (Kd.R_below (by (with_reducible repeat (first | apply Kd.R_alloc | apply Kd.R_drewN | apply Kd.R_drew)); exact HO_8.out) hb); have n2_ := Aside0.mk (Kd.R_lower ho0 (below_size (by repeat (first | (with_reducible first | exact HB.out | apply below_alloc | apply pw_below_drewN | apply below_drew1 | refine below_set ?_ GE1268.out) | exact HB.out)))); have n3_ := Aside0.mk (blk_below (g := gb1268) (o := .cells #[.int .i64 a0_0, .slice A0_1 l0_1.length c0_1] 29 (0, 0)) (by (with_reducible repeat (first | refine blk_drewN ?_ _ | refine blk_drew ?_ | refine blk_alloc ?_ _)); exact BK1268.out) hb); have n4_ := Aside0.mk (below_step (by repeat (first | (with_reducible first | exact HB.out | apply below_alloc | apply pw_below_drewN | apply below_drew1 | refine below_set ?_ GE1268.out) | exact HB.out)) hb); clear HO_7; clear HO_8; clear BK1268; clear HB; have HO_7 := n0_; have HO_8 := n1_; have HO1283 := n2_; have BK1268 := n3_; have HB := n4_; clear n0_ n1_ n2_ n3_ n4_; (try clear hb); (try clear hb2); (try clear hk); (try clear hi); (try clear ho0); obtain ⟨Ao28, co28, eo28⟩ := Kd.R_slice HO1283.out; subst eo28) | ((with_reducible refine gate_callee (f := 102) rfl ?_); refine goesL_ (some 61) rfl rfl Try.func102 (by kernel_rfl) rfl #[.slice Ao26 x8_2.length co26] rfl (by (try simp only [List.map_toArray, List.map_cons, List.map_nil]); first | done | rfl | (simp only [List.length_drop, List.length_take]; rfl)) ?_; (with_reducible refine (impl_left.calls k2 _ _ x8_2 t1284 _ ?side1 ?side2 A25.out).mono ?_); (case side1 => repeat (first | exact (Kd.R_reads' HO_8.out).2.2 | (with_reducible refine Kd.C_alloc ?_ _) | (with_reducible refine Kd.C_drewN ?_ _) | (with_reducible refine Kd.C_drew ?_))); (case side2 => exact (Kd.R_reads' HO_8.out).2.1); rintro e w29 ⟨v1285, rfl, ho0, hb⟩; refine ⟨_, rfl, ?_⟩; have n0_ := Aside0.mk (Kd.R_below (by (with_reducible repeat (first | apply Kd.R_alloc | apply Kd.R_drewN | apply Kd.R_drew)); exact HO_7.out) hb); have n1_ := Aside0.mk (Kd.R_below (by (with_reducible repeat (first | apply Kd.R_alloc | apply Kd.R_drewN | apply Kd.R_drew)); exact HO_8.out) hb); have n2_ := Aside0.mk (Kd.R_elder' (by (with_reducible repeat (first | apply Kd.R_alloc | apply Kd.R_drewN | apply Kd.R_drew)); exact HO1283.out) (Kd.R_base ho0) hb); have n3_ := Aside0.mk (Kd.R_lower (Kd.R_new' ho0 (Kd.R_lt (by (with_reducible repeat (first | apply Kd.R_alloc | apply Kd.R_drewN | apply Kd.R_drew)); exact HO1283.out))) (below_size (by repeat (first | (with_reducible first | exact HB.out | apply below_alloc | apply pw_below_drewN | apply below_drew1 | refine below_set ?_ GE1268.out) | exact HB.out)))); have n4_ := Aside0.mk (blk_below (g := gb1268) (o := .cells #[.int .i64 a0_0, .slice A0_1 l0_1.length c0_1] 29 (0, 0)) (by (with_reducible repeat (first | refine blk_drewN ?_ _ | refine blk_drew ?_ | refine blk_alloc ?_ _)); exact BK1268.out) hb); have n5_ := Aside0.mk (below_step (by repeat (first | (with_reducible first | exact HB.out | apply below_alloc | apply pw_below_drewN | apply below_drew1 | refine below_set ?_ GE1268.out) | exact HB.out)) hb); clear HO_7; clear HO_8; clear HO1283; clear BK1268; clear HB; have HO_7 := n0_; have HO_8 := n1_; have HO1283 := n2_; have HO1286 := n3_; have BK1268 := n4_; have HB := n5_; clear n0_ n1_ n2_ n3_ n4_ n5_; (try clear hb); (try clear hb2); (try clear hk); (try clear hi); (try clear ho0)))
           go_ret3
           exact ⟨_, _, by first | rfl | (simp [errW_none, errW_some] <;> rfl) | (simp [*, errW_none, errW_some] <;> rfl), by (with_reducible repeat (first | apply Kd.R_alloc | apply Kd.R_drewN | apply Kd.R_drew)); exact HO_7.out, by (with_reducible repeat (first | apply Kd.R_alloc | apply Kd.R_drewN | apply Kd.R_drew)); exact Kd.R_mono HO1286.out (fun _ hk => trivial), by repeat (first | (with_reducible first | exact HB.out | apply below_alloc | apply pw_below_drewN | apply below_drew1 | refine below_set ?_ GE1268.out) | exact HB.out)⟩
          ·rw [if_neg c24] at H
           have c24b0 : ((t1281.length : Int) == 0) = false := beq_eq_false_iff_ne.mpr c24
           have c24b1 : ((t1281.length : Int) != 0) = true := bne_iff_ne.mpr c24
           have c24b2 : ¬ (t1281 = []) := fun h_ => c24 (by rw [h_]; rfl)
           obtain ⟨ji30, hji30⟩ : ∃ j_ : Int, (Int.tmod (rd l1 x30_2) (t1281.length : Int)) = j_ := ⟨_, rfl⟩
           replace H : (if 0 ≤ (ji30) then (if (ji30) < (t1281.length : Int) then ((impl_Hyper_edgeAt.f k2 a0_0 l0_1 x8_2 (rd t1281 (ji30))).bind fun t1288 => (if 0 ≤ t1288 then (if t1288 < (x8_2.length : Int) then (if x7_2.length < 8796093022208 then (impl_PeelBy.l0 k2 (x7_2 ++ [(⟨t1288, rd t1281 (ji30)⟩ : S88)]) (x8_2.set (t1288 : Int).toNat true) l1 (l1.length : Int) (wrap64 (x30_2 + 1)) a0_0 l0_1) else (none)) else (none)) else (none))) else (none)) else (none)) = some (r1, r2, r3) := by first | (rw [hji30] at H; exact H) | (simp only [hji30] at H ⊢; exact H)
           (try rw [hji30] at A23)
           by_cases c31 : 0 ≤ (ji30)
           ·rw [if_pos c31] at H
            have c31b0 : decide (0 ≤ (ji30)) = true := decide_eq_true c31
            clear c31
            by_cases c32 : (ji30) < (t1281.length : Int)
            ·rw [if_pos c32] at H
             have c32b0 : decide ((ji30) < (t1281.length : Int)) = true := decide_eq_true c32
             clear c32
             replace H := Option.bind_eq_some_iff.mp H
             obtain ⟨t1288, A330, H⟩ := H
             replace H : (if 0 ≤ t1288 then (if t1288 < (x8_2.length : Int) then (if x7_2.length < 8796093022208 then (impl_PeelBy.l0 k2 (x7_2 ++ [(⟨t1288, rd t1281 (ji30)⟩ : S88)]) (x8_2.set (t1288 : Int).toNat true) l1 (l1.length : Int) (wrap64 (x30_2 + 1)) a0_0 l0_1) else (none)) else (none)) else (none)) = some (r1, r2, r3) := H
             have A33 := Aside0.mk A330
             clear A330
             by_cases c34 : 0 ≤ t1288
             ·rw [if_pos c34] at H
              have c34b0 : decide (0 ≤ t1288) = true := decide_eq_true c34
              clear c34
              by_cases c35 : t1288 < (x8_2.length : Int)
              ·rw [if_pos c35] at H
               have c35b0 : decide (t1288 < (x8_2.length : Int)) = true := decide_eq_true c35
               clear c35
               obtain ⟨y1289, hy1289⟩ : ∃ y_ : List Bool, y_ = (x8_2.set (t1288 : Int).toNat true) := ⟨_, rfl⟩
               replace H : (if x7_2.length < 8796093022208 then (impl_PeelBy.l0 k2 (x7_2 ++ [(⟨t1288, rd t1281 (ji30)⟩ : S88)]) y1289 l1 (l1.length : Int) (wrap64 (x30_2 + 1)) a0_0 l0_1) else (none)) = some (r1, r2, r3) := by first | (rw [hy1289]; with_reducible exact H) | (have H2_ := (Option.bind_some _ _).symm.trans H; rw [hy1289]; with_reducible exact H2_) | (have H2_ := (Option.bind_some _ _).symm.trans H; with_reducible exact H2_) | with_reducible exact H | (rw [hy1289]; exact H) | exact H
               have Ny1289 := Aside0.mk hy1289
               clear hy1289
               by_cases c37 : x7_2.length < 8796093022208
               ·rw [if_pos c37] at H
                have LMc37 := Aside0.mk c37
                clear c37
                obtain ⟨y1290, hy1290⟩ : ∃ y_ : List (S88), y_ = (x7_2 ++ [(⟨t1288, rd t1281 (ji30)⟩ : S88)]) := ⟨_, rfl⟩
                replace H : (impl_PeelBy.l0 k2 y1290 y1289 l1 (l1.length : Int) (wrap64 (x30_2 + 1)) a0_0 l0_1) = some (r1, r2, r3) := by first | (rw [hy1290]; with_reducible exact H) | (have H2_ := (Option.bind_some _ _).symm.trans H; rw [hy1290]; with_reducible exact H2_) | (have H2_ := (Option.bind_some _ _).symm.trans H; with_reducible exact H2_) | with_reducible exact H | (rw [hy1290]; exact H) | exact H
                have Ny1290 := Aside0.mk hy1290
                clear hy1290
                have H' := Aside0.mk H
                clear H
                have p1280 : 0 ≤ (x30_2 : Int) := of_decide_eq_true (by first | (with_reducible assumption) | assumption)
                have q1280 : x30_2 < (l1.length : Int) := of_decide_eq_true (by first | (with_reducible assumption) | assumption)
                obtain ⟨ad1280, e1280, hx1280_0⟩ := Kd.at_int HR1.out x30_2 p1280 q1280
                cases e1280
                replace hx1280_0 := (HB.out.cell (World.block_lt_of_cell? w _ hx1280_0)).trans hx1280_0
                replace p1280 := eq_true p1280
                replace q1280 := eq_true q1280
                obtain ⟨Ao38, co38, eo38⟩ := Kd.R_slice HO_8.out
                subst eo38
                go_wp2_with (first | ((with_reducible refine gate_callee (f := 111) rfl ?_); refine goesL_ (some 35) rfl rfl Try.func111 (by kernel_rfl) rfl #[.pointer (some ⟨gb1268, 0, none⟩), .slice Ao38 x8_2.length co38] rfl (by (try simp only [List.map_toArray, List.map_cons, List.map_nil]); first | done | rfl | (simp only [List.length_drop, List.length_take]; rfl)) ?_; (with_reducible refine (impl_Hyper_singles.calls k2 gb1268 a0_0 A0_1 c0_1 l0_1 _ _ x8_2 t1281 _ ?side1 ?side2 ?side3 ?side4 ?side5 A23.out).mono ?_); (case side1 => repeat (first | exact (Kd.C_below HR0_1.out HB.out) | (with_reducible refine Kd.C_alloc ?_ _) | (with_reducible refine Kd.C_drewN ?_ _) | (with_reducible refine Kd.C_drew ?_))); (case side2 => exact HC0_1.out); (case side3 => repeat (first | exact (Kd.R_reads' HO_8.out).2.2 | (with_reducible refine Kd.C_alloc ?_ _) | (with_reducible refine Kd.C_drewN ?_ _) | (with_reducible refine Kd.C_drew ?_))); (case side4 => exact (Kd.R_reads' HO_8.out).2.1); (case side5 => exact (by (with_reducible repeat (first | refine blk_drewN ?_ _ | refine blk_drew ?_ | refine blk_alloc ?_ _)); exact BK1268.out)); rintro e w39 ⟨v1282, rfl, ho0, hb⟩; refine ⟨_, rfl, ?_⟩; have n0_ := Aside0.mk (Kd.R_below (by (with_reducible repeat (first | apply Kd.R_alloc | apply Kd.R_drewN | apply Kd.R_drew)); exact HO_7.out) hb); have n1_ := Aside0.mk (Kd.R_below (by (with_reducible repeat (first | apply Kd.R_alloc | apply Kd.R_drewN | apply Kd.R_drew)); exact HO_8.out) hb); have n2_ := Aside0.mk (Kd.R_lower ho0 (below_size (by repeat (first | (with_reducible first | exact HB.out | apply below_alloc | apply pw_below_drewN | apply below_drew1 | refine below_set ?_ GE1268.out) | exact HB.out)))); have n3_ := Aside0.mk (blk_below (g := gb1268) (o := .cells #[.int .i64 a0_0, .slice A0_1 l0_1.length c0_1] 29 (0, 0)) (by (with_reducible repeat (first | refine blk_drewN ?_ _ | refine blk_drew ?_ | refine blk_alloc ?_ _)); exact BK1268.out) hb); have n4_ := Aside0.mk (below_step (by repeat (first | (with_reducible first | exact HB.out | apply below_alloc | apply pw_below_drewN | apply below_drew1 | refine below_set ?_ GE1268.out) | exact HB.out)) hb); clear HO_7; clear HO_8; clear BK1268; clear HB; have HO_7 := n0_; have HO_8 := n1_; have HO1283 := n2_; have BK1268 := n3_; have HB := n4_; clear n0_ n1_ n2_ n3_ n4_; (try clear hb); (try clear hb2); (try clear hk); (try clear hi); (try clear ho0); obtain ⟨Ao40, co40, eo40⟩ := Kd.R_slice HO1283.out; subst eo40; have p1287 : 0 ≤ ((ji30) : Int) := of_decide_eq_true (by first | (with_reducible assumption) | assumption); have q1287 : (ji30) < (t1281.length : Int) := of_decide_eq_true (by first | (with_reducible assumption) | assumption); obtain ⟨ad1287, e1287, hx1287_0⟩ := Kd.at_int (Kd.R_reads' HO1283.out).2.2 (ji30) p1287 q1287; cases e1287; replace p1287 := eq_true p1287; replace q1287 := eq_true q1287) | ((with_reducible refine gate_callee (f := 112) rfl ?_); refine goesL_ (some 48) rfl rfl Try.func112 (by kernel_rfl) rfl #[.pointer (some ⟨gb1268, 0, none⟩), .slice Ao38 x8_2.length co38, .int .i64 (rd t1281 (ji30))] rfl (by (try simp only [List.map_toArray, List.map_cons, List.map_nil]); first | done | (simp only [hji30]; rfl) | rfl | (simp only [List.length_drop, List.length_take]; rfl)) ?_; (with_reducible refine (impl_Hyper_edgeAt.calls k2 gb1268 a0_0 A0_1 c0_1 l0_1 _ _ x8_2 (rd t1281 (ji30)) t1288 _ ?side1 ?side2 ?side3 ?side4 ?side5 A33.out).mono ?_); (case side1 => repeat (first | exact (Kd.C_below HR0_1.out HB.out) | (with_reducible refine Kd.C_alloc ?_ _) | (with_reducible refine Kd.C_drewN ?_ _) | (with_reducible refine Kd.C_drew ?_))); (case side2 => exact HC0_1.out); (case side3 => repeat (first | exact (Kd.R_reads' HO_8.out).2.2 | (with_reducible refine Kd.C_alloc ?_ _) | (with_reducible refine Kd.C_drewN ?_ _) | (with_reducible refine Kd.C_drew ?_))); (case side4 => exact (Kd.R_reads' HO_8.out).2.1); (case side5 => exact (by (with_reducible repeat (first | refine blk_drewN ?_ _ | refine blk_drew ?_ | refine blk_alloc ?_ _)); exact BK1268.out)); rintro e w' ⟨rfl, ⟨nd, rfl⟩⟩; refine ⟨_, rfl, ?_⟩; (try (rw [drewN_self w39]; generalize hq_ : World.drewN w39 _ = w39; have n0_ : Aside0 (Kd.R (Kd.int .i64) 3 w39 w.heap.size (fun k_ => True) (.slice (some ad1287) t1281.length co40) t1281) := ⟨by rw [← hq_]; exact (by (with_reducible repeat (first | apply Kd.R_alloc | apply Kd.R_drewN | apply Kd.R_drew)); exact HO1283.out)⟩; have n1_ : Aside0 (Kd.R k88 88 w39 w.heap.size (fun k_ => True) u7 x7_2) := ⟨by rw [← hq_]; exact (by (with_reducible repeat (first | apply Kd.R_alloc | apply Kd.R_drewN | apply Kd.R_drew)); exact HO_7.out)⟩; have n2_ : Aside0 (Kd.R Kd.bool 4 w39 w.heap.size (fun k_ => True) (.slice Ao38 x8_2.length co38) x8_2) := ⟨by rw [← hq_]; exact (by (with_reducible repeat (first | apply Kd.R_alloc | apply Kd.R_drewN | apply Kd.R_drew)); exact HO_8.out)⟩; have n3_ : Aside0 (w39.heap[gb1268]? = some (.cells #[.int .i64 a0_0, .slice A0_1 l0_1.length c0_1] 29 (0, 0))) := ⟨by rw [← hq_]; exact (by (with_reducible repeat (first | refine blk_drewN ?_ _ | refine blk_drew ?_ | refine blk_alloc ?_ _)); exact BK1268.out)⟩; have n4_ : Aside0 (Below w.heap.size w w39) := ⟨by rw [← hq_]; exact (by repeat (first | (with_reducible first | exact HB.out | apply below_alloc | apply pw_below_drewN | apply below_drew1 | refine below_set ?_ GE1268.out) | exact HB.out))⟩; clear HO1283 HO_7 HO_8 BK1268 HB hq_; have HO1283 := n0_; have HO_7 := n1_; have HO_8 := n2_; have BK1268 := n3_; have HB := n4_; clear n0_ n1_ n2_ n3_ n4_)); have p36 : 0 ≤ (t1288 : Int) := of_decide_eq_true (by first | (with_reducible assumption) | assumption); have q36 : (t1288 : Int) < ((x8_2.length : Int) : Int) := of_decide_eq_true (by first | (with_reducible assumption) | assumption); obtain ⟨go36, co36, eo36, gb36, gl36, cl36, HG36⟩ := Kd.R_form HO_8.out (by omega); (first | cases eo36 | (injection eo36 with ea_ en_ ec_; (first | subst ea_ | (injection ea_ with ea_; subst ea_)); subst ec_; clear en_)); have GB36 := Aside0.mk gb36; have GG36 := Aside0.mk HG36; clear gb36 gl36 HG36; obtain ⟨hx36_0, hf36_0⟩ := Kd.R_celln false HO_8.out (t1288 : Int) p36 q36; replace p36 := eq_true p36; replace q36 := eq_true q36; obtain ⟨hy41_, hz41_⟩ := Kd.R_celln false HO_8.out (t1288 : Int) (of_decide_eq_true (by first | (with_reducible assumption) | assumption)) (of_decide_eq_true (by first | (with_reducible assumption) | assumption)); have HP41 := Kd.R_putg HO_8.out (t1288 : Int) true) | ((with_reducible refine gate_store (t := 4) (p := 51) rfl ?_); refine store_event (t := 4) (p := 51) (v := ?vo_w42) (w1 := (w39.setCell ⟨go36, (t1288 : Int).toNat, none⟩ (.bool true))) ?hg ?ho ?hn ?hr ?_; (case ho => rfl); (case hg => rfl); (case hn => rfl); (case hr => first | (go_simp; done) | (go_simp; rfl)); intro w42 hw; have hg : w39.grownBy w42 (some go36) := (by rw [hw]; exact HP41.2); have hp_ : Kd.R Kd.bool 4 w42 w.heap.size (fun _ => True) (.slice (some ⟨go36, 0, none⟩) x8_2.length co38) y1289 := (by rw [hw, Ny1289.out]; exact HP41.1); clear HP41; have n0_ := Aside0.mk (Kd.R_over' (v := (.slice (some ⟨go36, 0, none⟩) x8_2.length co38)) (by (with_reducible repeat (first | apply Kd.R_alloc | apply Kd.R_drewN | apply Kd.R_drew)); exact HO_7.out) (Kd.R_typed HO_8.out) (by decide) hg); have n1_ := Aside0.mk (hp_); have n2_ := Aside0.mk (blk_grown (g := gb1268) (o := .cells #[.int .i64 a0_0, .slice A0_1 l0_1.length c0_1] 29 (0, 0)) (by (with_reducible repeat (first | refine blk_drewN ?_ _ | refine blk_drew ?_ | refine blk_alloc ?_ _)); exact BK1268.out) hg (Kd.R_ne HO_8.out BK1268.out (by decide))); have n3_ := Aside0.mk (Kd.R_over' (v := (.slice (some ⟨go36, 0, none⟩) x8_2.length co38)) (by (with_reducible repeat (first | apply Kd.R_alloc | apply Kd.R_drewN | apply Kd.R_drew)); exact HO1283.out) (Kd.R_typed HO_8.out) (by decide) hg); have n4_ := Aside0.mk ((by rw [hw]; exact below_set (HB.out) GB36.out : Below w.heap.size w w42)); clear HO_7; clear HO_8; clear BK1268; clear HO1283; clear HB; have HO_7 := n0_; have HO_8 := n1_; have BK1268 := n2_; have HO1283 := n3_; have HB := n4_; clear n0_ n1_ n2_ n3_ n4_; clear hg hw hp_) | ((with_reducible refine gate_builtin (b := .append) (xs := #[.tmp 52, .tmp 56]) rfl ?_); (try (refine gate_guard (by rfl) ?_; dsimp only)); at_builtin; refine Kd.R_append k88 (w0 := w) w.heap.size rfl (.tmp 52) (.tmp 56) 58 88 (.agg #[(.int .i64 0), (.int .i64 0)]) 16 rfl Try.underlying58 info88 rfl (by decide) (by omega) u7 x7_2 (⟨t1288, rd t1281 (ji30)⟩ : S88) [.int .i64 t1288, .int .i64 (rd t1281 (ji30))] (fun _ => True) (fun _ => False) rfl rfl ?aP (fun _ hk => hk.elim) ?aF ?aO ?aB ?aS ?aL ?_; (case aP => exact k88_mkM _ _ _ (⟨t1288, rd t1281 (ji30)⟩ : S88)); (case aB => exact (by repeat (first | (with_reducible first | exact HB.out | apply below_alloc | apply pw_below_drewN | apply below_drew1 | refine below_set ?_ GE1268.out) | exact HB.out))); (case aF => exact (fun _ _ => trivial)); (case aO => exact (by (with_reducible repeat (first | apply Kd.R_alloc | apply Kd.R_drewN | apply Kd.R_drew)); exact HO_7.out)); (case aS => exact (below_size (by repeat (first | (with_reducible first | exact HB.out | apply below_alloc | apply pw_below_drewN | apply below_drew1 | refine below_set ?_ GE1268.out) | exact HB.out)))); (case aL => have := LMc37.out; omega); intro v1291 w43 ho hb hg hat; rw [← Ny1290.out] at ho; have n0_ := Aside0.mk (Kd.R_over' (by (with_reducible repeat (first | apply Kd.R_alloc | apply Kd.R_drewN | apply Kd.R_drew)); exact HO_8.out) (Kd.R_typed (by (with_reducible repeat (first | apply Kd.R_alloc | apply Kd.R_drewN | apply Kd.R_drew)); exact HO_7.out)) (by decide) hg); have n1_ := Aside0.mk (blk_grown (g := gb1268) (o := .cells #[.int .i64 a0_0, .slice A0_1 l0_1.length c0_1] 29 (0, 0)) (by (with_reducible repeat (first | refine blk_drewN ?_ _ | refine blk_drew ?_ | refine blk_alloc ?_ _)); exact BK1268.out) hg (Kd.R_ne HO_7.out BK1268.out (by decide))); have n2_ := Aside0.mk (Kd.R_over' (by (with_reducible repeat (first | apply Kd.R_alloc | apply Kd.R_drewN | apply Kd.R_drew)); exact HO1283.out) (Kd.R_typed (by (with_reducible repeat (first | apply Kd.R_alloc | apply Kd.R_drewN | apply Kd.R_drew)); exact HO_7.out)) (by decide) hg); have n3_ := Aside0.mk (hb); have n4_ := Aside0.mk (ho); clear HO_8; clear BK1268; clear HO1283; clear HB; clear HO_7; have HO_8 := n0_; have BK1268 := n1_; have HO1283 := n2_; have HB := n3_; have HO1292 := n4_; clear n0_ n1_ n2_ n3_ n4_; clear ho hb hg hat))
                go_roundg k2
                case measure => have := HJ2.out; have := HK2.out; omega
                case rel => exact ⟨(y1290), (y1289), (wrap64 (x30_2 + 1)), (by first | rfl | (simp; done) | (simp [*]; done)), H', ⟨by have := HJ2.out; have := HK2.out; omega⟩, ⟨by (with_reducible repeat (first | apply Kd.R_alloc | apply Kd.R_drewN | apply Kd.R_drew)); exact HO1292.out⟩, ⟨by (with_reducible repeat (first | apply Kd.R_alloc | apply Kd.R_drewN | apply Kd.R_drew)); exact HO_8.out⟩, ⟨by (with_reducible repeat (first | refine blk_drewN ?_ _ | refine blk_drew ?_ | refine blk_alloc ?_ _)); exact BK1268.out⟩, ⟨by repeat (first | (with_reducible first | exact HB.out | apply below_alloc | apply pw_below_drewN | apply below_drew1 | refine below_set ?_ GE1268.out) | exact HB.out)⟩⟩
               ·rw [if_neg c37] at H
                exact absurd H (by simp)
              ·rw [if_neg c35] at H
               exact absurd H (by simp)
             ·rw [if_neg c34] at H
              exact absurd H (by simp)
            ·rw [if_neg c32] at H
             exact absurd H (by simp)
           ·rw [if_neg c31] at H
            exact absurd H (by simp)
         ·rw [if_neg c22] at H
          exact absurd H (by simp)
        ·rw [if_neg c21] at H
         exact absurd H (by simp)
       ·rw [if_neg c20] at H
        have c20b0 : decide (x30_2 < (l1.length : Int)) = false := decide_eq_false c20
        clear c20
        replace H := Option.bind_eq_some_iff.mp H
        obtain ⟨t1277, A440, H⟩ := H
        replace H : (some (x7_2, t1277, true)) = some (r1, r2, r3) := H
        have A44 := Aside0.mk A440
        clear A440
        simp only [Option.some.injEq, Prod.mk.injEq] at H
        obtain ⟨rfl, rfl, rfl⟩ := H
        obtain ⟨Ao45, co45, eo45⟩ := Kd.R_slice HO_8.out
        subst eo45
        go_wp2_with (first | ((with_reducible refine gate_callee (f := 102) rfl ?_); refine goesL_ (some 61) rfl rfl Try.func102 (by kernel_rfl) rfl #[.slice Ao45 x8_2.length co45] rfl (by (try simp only [List.map_toArray, List.map_cons, List.map_nil]); first | done | rfl | (simp only [List.length_drop, List.length_take]; rfl)) ?_; (with_reducible refine (impl_left.calls k2 _ _ x8_2 t1277 _ ?side1 ?side2 A44.out).mono ?_); (case side1 => repeat (first | exact (Kd.R_reads' HO_8.out).2.2 | (with_reducible refine Kd.C_alloc ?_ _) | (with_reducible refine Kd.C_drewN ?_ _) | (with_reducible refine Kd.C_drew ?_))); (case side2 => exact (Kd.R_reads' HO_8.out).2.1); rintro e w46 ⟨v1278, rfl, ho0, hb⟩; refine ⟨_, rfl, ?_⟩; have n0_ := Aside0.mk (Kd.R_below (by (with_reducible repeat (first | apply Kd.R_alloc | apply Kd.R_drewN | apply Kd.R_drew)); exact HO_7.out) hb); have n1_ := Aside0.mk (Kd.R_below (by (with_reducible repeat (first | apply Kd.R_alloc | apply Kd.R_drewN | apply Kd.R_drew)); exact HO_8.out) hb); have n2_ := Aside0.mk (Kd.R_lower ho0 (below_size (by repeat (first | (with_reducible first | exact HB.out | apply below_alloc | apply pw_below_drewN | apply below_drew1 | refine below_set ?_ GE1268.out) | exact HB.out)))); have n3_ := Aside0.mk (blk_below (g := gb1268) (o := .cells #[.int .i64 a0_0, .slice A0_1 l0_1.length c0_1] 29 (0, 0)) (by (with_reducible repeat (first | refine blk_drewN ?_ _ | refine blk_drew ?_ | refine blk_alloc ?_ _)); exact BK1268.out) hb); have n4_ := Aside0.mk (below_step (by repeat (first | (with_reducible first | exact HB.out | apply below_alloc | apply pw_below_drewN | apply below_drew1 | refine below_set ?_ GE1268.out) | exact HB.out)) hb); clear HO_7; clear HO_8; clear BK1268; clear HB; have HO_7 := n0_; have HO_8 := n1_; have HO1279 := n2_; have BK1268 := n3_; have HB := n4_; clear n0_ n1_ n2_ n3_ n4_; (try clear hb); (try clear hb2); (try clear hk); (try clear hi); (try clear ho0)))
        go_ret3
        exact ⟨_, _, by first | rfl | (simp [errW_none, errW_some] <;> rfl) | (simp [*, errW_none, errW_some] <;> rfl), by (with_reducible repeat (first | apply Kd.R_alloc | apply Kd.R_drewN | apply Kd.R_drew)); exact HO_7.out, by (with_reducible repeat (first | apply Kd.R_alloc | apply Kd.R_drewN | apply Kd.R_drew)); exact HO1279.out, by repeat (first | (with_reducible first | exact HB.out | apply below_alloc | apply pw_below_drewN | apply below_drew1 | refine below_set ?_ GE1268.out) | exact HB.out)⟩
end Go.Proofs.Ytlcedciocmjggaa.X
