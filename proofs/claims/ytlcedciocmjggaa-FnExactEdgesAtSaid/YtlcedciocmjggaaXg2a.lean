/- Written by a program of this session: what functions of the given program compute, and that their calls do so. -/
import Derived.Test.YtlcedciocmjggaaXx0
import Derived.Test.YtlcedciocmjggaaXg2c43a
import Derived.Test.YtlcedciocmjggaaXg3c43a
import Derived.Test.YtlcedciocmjggaaXg3e02a
import Derived.Test.YtlcedciocmjggaaXg3e06a
import Derived.Test.YtlcedciocmjggaaXg3e07a
import Derived.Test.YtlcedciocmjggaaXg3e47a
namespace Go.Proofs.Ytlcedciocmjggaa.X
open Go.RowKit Go.Proofs.YtlcedciocmjggaaW.PrintWords Go.Proofs.YtlcedciocmjggaaW.PrintLast Go.Proofs.YtlcedciocmjggaaW.PrintMore
attribute [local go_sem] max2_int min2_int max_two min_two max_three min_three max_four min_four   -- for this text's walks alone
set_option linter.unusedVariables false
set_option linter.unusedSimpArgs false
/-! ### spec_EdgesAt: function 26 -/
mutual
def spec_EdgesAt.j0 : Nat → Int → Bool → Int → List (List Int) → Option (List Int × Bool)
  | 0, _, _, _, _ => none
  | k + 1, x1, x19, x238000, x238001 => if x19 = true then (some (([] : List Int), false)) else (spec_EdgesAt.l0 k x1 ([] : List Int) x238001 (x238001.length : Int) 0)
def spec_EdgesAt.l0 : Nat → Int → List Int → List (List Int) → Int → Int → Option (List Int × Bool)
  | 0, _, _, _, _, _ => none
  | k + 1, x1, x6, x21, x22, x23 => if x23 < x22 then (if 0 ≤ x23 then (if x23 < (x21.length : Int) then ((spec_l1Has.f k (rd_L1 x21 x23) x1).bind fun t241 => (if t241 = true then (if x6.length < 17592186044416 then (spec_EdgesAt.l0 k x1 (x6 ++ [x23]) x21 x22 (wrap64 (x23 + 1))) else (none)) else (spec_EdgesAt.l0 k x1 x6 x21 x22 (wrap64 (x23 + 1))))) else (none)) else (none)) else (some (x6, true))
end
def spec_EdgesAt.f (k : Nat) (a0_0 : Int) (l0_1 : List (List Int)) (a1 : Int) : Option (List Int × Bool) := (spec_peGood.f k a0_0 l0_1).bind fun t238 => (if t238 = true then ((spec_l1In.f a1 0 (wrap64 (a0_0 - 1))).bind fun t239 => (spec_EdgesAt.j0 k a1 (!t239) a0_0 l0_1)) else (spec_EdgesAt.j0 k a1 true a0_0 l0_1))
theorem spec_EdgesAt.mono_l : ∀ k, (∀ y0 y1 y2 y3, LeO (spec_EdgesAt.j0 k y0 y1 y2 y3) (spec_EdgesAt.j0 (k + 1) y0 y1 y2 y3)) ∧ (∀ y0 y1 y2 y3 y4, LeO (spec_EdgesAt.l0 k y0 y1 y2 y3 y4) (spec_EdgesAt.l0 (k + 1) y0 y1 y2 y3 y4))
  | 0 => ⟨fun _ _ _ _ r h => by simp [spec_EdgesAt.j0] at h, fun _ _ _ _ _ r h => by simp [spec_EdgesAt.l0] at h⟩
  | k + 1 => by
    obtain ⟨ih0, ih1⟩ := spec_EdgesAt.mono_l k
    refine ⟨?_, ?_⟩
    · intro y0 y1 y2 y3
      unfold spec_EdgesAt.j0
      repeat' first
      | (with_reducible exact ih0 _ _ _ _)
      | (with_reducible exact ih1 _ _ _ _ _)
      | (with_reducible exact spec_l1Has.mono _ _ _)
      | (with_reducible exact spec_peGood.mono _ _ _)
      | (with_reducible exact LeO.refl _)
      | (with_reducible exact LeO.none _)
      | (with_reducible refine LeO.ite ?_ ?_)
      | (with_reducible refine LeO.bind ?_ (fun _ => ?_))
      | exact ih0 _ _ _ _
      | exact ih1 _ _ _ _ _
      | exact spec_l1Has.mono _ _ _
      | exact spec_peGood.mono _ _ _
      | exact LeO.none _
      | refine LeO.ite ?_ ?_
      | refine LeO.bind ?_ (fun _ => ?_)
    · intro y0 y1 y2 y3 y4
      unfold spec_EdgesAt.l0
      repeat' first
      | (with_reducible exact ih0 _ _ _ _)
      | (with_reducible exact ih1 _ _ _ _ _)
      | (with_reducible exact spec_l1Has.mono _ _ _)
      | (with_reducible exact spec_peGood.mono _ _ _)
      | (with_reducible exact LeO.refl _)
      | (with_reducible exact LeO.none _)
      | (with_reducible refine LeO.ite ?_ ?_)
      | (with_reducible refine LeO.bind ?_ (fun _ => ?_))
      | exact ih0 _ _ _ _
      | exact ih1 _ _ _ _ _
      | exact spec_l1Has.mono _ _ _
      | exact spec_peGood.mono _ _ _
      | exact LeO.none _
      | refine LeO.ite ?_ ?_
      | refine LeO.bind ?_ (fun _ => ?_)
theorem spec_EdgesAt.mono : ∀ a0 a1 a2 k, LeO (spec_EdgesAt.f k a0 a1 a2) (spec_EdgesAt.f (k + 1) a0 a1 a2) := by
  intro a0 a1 a2 k
  obtain ⟨ih0, ih1⟩ := spec_EdgesAt.mono_l k
  unfold spec_EdgesAt.f
  repeat' first
      | (with_reducible exact ih0 _ _ _ _)
      | (with_reducible exact ih1 _ _ _ _ _)
      | (with_reducible exact spec_l1Has.mono _ _ _)
      | (with_reducible exact spec_peGood.mono _ _ _)
      | (with_reducible exact LeO.refl _)
      | (with_reducible exact LeO.none _)
      | (with_reducible refine LeO.ite ?_ ?_)
      | (with_reducible refine LeO.bind ?_ (fun _ => ?_))
      | exact ih0 _ _ _ _
      | exact ih1 _ _ _ _ _
      | exact spec_l1Has.mono _ _ _
      | exact spec_peGood.mono _ _ _
      | exact LeO.none _
      | refine LeO.ite ?_ ?_
      | refine LeO.bind ?_ (fun _ => ?_)
noncomputable def spec_EdgesAt.J0 (y0 : Int) (y1 : Bool) (y2 : Int) (y3 : List (List Int)) : Option (List Int × Bool) := lim fun k => spec_EdgesAt.j0 k y0 y1 y2 y3
theorem spec_EdgesAt.J0_sup (y0 : Int) (y1 : Bool) (y2 : Int) (y3 : List (List Int)) : Sup (fun k => spec_EdgesAt.j0 k y0 y1 y2 y3) (spec_EdgesAt.J0 y0 y1 y2 y3) := Sup.of_mono fun k => (spec_EdgesAt.mono_l k).1 y0 y1 y2 y3
noncomputable def spec_EdgesAt.L0 (y0 : Int) (y1 : List Int) (y2 : List (List Int)) (y3 : Int) (y4 : Int) : Option (List Int × Bool) := lim fun k => spec_EdgesAt.l0 k y0 y1 y2 y3 y4
theorem spec_EdgesAt.L0_sup (y0 : Int) (y1 : List Int) (y2 : List (List Int)) (y3 : Int) (y4 : Int) : Sup (fun k => spec_EdgesAt.l0 k y0 y1 y2 y3 y4) (spec_EdgesAt.L0 y0 y1 y2 y3 y4) := Sup.of_mono fun k => (spec_EdgesAt.mono_l k).2 y0 y1 y2 y3 y4
noncomputable def spec_EdgesAt.F (a0_0 : Int) (l0_1 : List (List Int)) (a1 : Int) : Option (List Int × Bool) := lim fun k => spec_EdgesAt.f k a0_0 l0_1 a1
theorem spec_EdgesAt.F_sup (a0_0 : Int) (l0_1 : List (List Int)) (a1 : Int) : Sup (fun k => spec_EdgesAt.f k a0_0 l0_1 a1) (spec_EdgesAt.F a0_0 l0_1 a1) := Sup.of_mono fun k => spec_EdgesAt.mono a0_0 l0_1 a1 k
theorem spec_EdgesAt.J0_eq (x1 : Int) (x19 : Bool) (x238000 : Int) (x238001 : List (List Int)) : spec_EdgesAt.J0 x1 x19 x238000 x238001 = if x19 = true then (some (([] : List Int), false)) else (spec_EdgesAt.L0 x1 ([] : List Int) x238001 (x238001.length : Int) 0) := by
  refine Sup.unique (spec_EdgesAt.J0_sup x1 x19 x238000 x238001) (Sup.shift (fun k => (spec_EdgesAt.mono_l k).1 x1 x19 x238000 x238001) (Sup.congr (g' := fun k => if x19 = true then (some (([] : List Int), false)) else (spec_EdgesAt.l0 k x1 ([] : List Int) x238001 (x238001.length : Int) 0)) (fun k => by first | rfl | simp only [spec_EdgesAt.j0]) ?_))
  repeat' first
    | (with_reducible exact spec_EdgesAt.J0_sup _ _ _ _)
    | (with_reducible exact spec_EdgesAt.L0_sup _ _ _ _ _)
    | (with_reducible exact spec_peGood.F_sup _ _)
    | (with_reducible exact spec_l1Has.F_sup _ _)
    | (with_reducible refine Sup.ite ?_ ?_)
    | (with_reducible refine Sup.bind ?_ (fun _ => ?_))
    | (with_reducible exact Sup.const _)
    | exact spec_EdgesAt.J0_sup _ _ _ _
    | exact spec_EdgesAt.L0_sup _ _ _ _ _
    | exact spec_peGood.F_sup _ _
    | exact spec_l1Has.F_sup _ _
    | exact Sup.const _
theorem spec_EdgesAt.L0_eq (x1 : Int) (x6 : List Int) (x21 : List (List Int)) (x22 : Int) (x23 : Int) : spec_EdgesAt.L0 x1 x6 x21 x22 x23 = if x23 < x22 then (if 0 ≤ x23 then (if x23 < (x21.length : Int) then ((spec_l1Has.F (rd_L1 x21 x23) x1).bind fun t241 => (if t241 = true then (if x6.length < 17592186044416 then (spec_EdgesAt.L0 x1 (x6 ++ [x23]) x21 x22 (wrap64 (x23 + 1))) else (none)) else (spec_EdgesAt.L0 x1 x6 x21 x22 (wrap64 (x23 + 1))))) else (none)) else (none)) else (some (x6, true)) := by
  refine Sup.unique (spec_EdgesAt.L0_sup x1 x6 x21 x22 x23) (Sup.shift (fun k => (spec_EdgesAt.mono_l k).2 x1 x6 x21 x22 x23) (Sup.congr (g' := fun k => if x23 < x22 then (if 0 ≤ x23 then (if x23 < (x21.length : Int) then ((spec_l1Has.f k (rd_L1 x21 x23) x1).bind fun t241 => (if t241 = true then (if x6.length < 17592186044416 then (spec_EdgesAt.l0 k x1 (x6 ++ [x23]) x21 x22 (wrap64 (x23 + 1))) else (none)) else (spec_EdgesAt.l0 k x1 x6 x21 x22 (wrap64 (x23 + 1))))) else (none)) else (none)) else (some (x6, true))) (fun k => by first | rfl | simp only [spec_EdgesAt.l0]) ?_))
  repeat' first
    | (with_reducible exact spec_EdgesAt.J0_sup _ _ _ _)
    | (with_reducible exact spec_EdgesAt.L0_sup _ _ _ _ _)
    | (with_reducible exact spec_peGood.F_sup _ _)
    | (with_reducible exact spec_l1Has.F_sup _ _)
    | (with_reducible refine Sup.ite ?_ ?_)
    | (with_reducible refine Sup.bind ?_ (fun _ => ?_))
    | (with_reducible exact Sup.const _)
    | exact spec_EdgesAt.J0_sup _ _ _ _
    | exact spec_EdgesAt.L0_sup _ _ _ _ _
    | exact spec_peGood.F_sup _ _
    | exact spec_l1Has.F_sup _ _
    | exact Sup.const _
theorem spec_EdgesAt.F_eq (a0_0 : Int) (l0_1 : List (List Int)) (a1 : Int) : spec_EdgesAt.F a0_0 l0_1 a1 = (spec_peGood.F a0_0 l0_1).bind fun t238 => (if t238 = true then ((spec_l1In.f a1 0 (wrap64 (a0_0 - 1))).bind fun t239 => (spec_EdgesAt.J0 a1 (!t239) a0_0 l0_1)) else (spec_EdgesAt.J0 a1 true a0_0 l0_1)) := by
  refine Sup.unique (spec_EdgesAt.F_sup a0_0 l0_1 a1) (Sup.congr (g' := fun k => (spec_peGood.f k a0_0 l0_1).bind fun t238 => (if t238 = true then ((spec_l1In.f a1 0 (wrap64 (a0_0 - 1))).bind fun t239 => (spec_EdgesAt.j0 k a1 (!t239) a0_0 l0_1)) else (spec_EdgesAt.j0 k a1 true a0_0 l0_1))) (fun k => by first | rfl | simp only [spec_EdgesAt.f]) ?_)
  repeat' first
    | (with_reducible exact spec_EdgesAt.J0_sup _ _ _ _)
    | (with_reducible exact spec_EdgesAt.L0_sup _ _ _ _ _)
    | (with_reducible exact spec_peGood.F_sup _ _)
    | (with_reducible exact spec_l1Has.F_sup _ _)
    | (with_reducible refine Sup.ite ?_ ?_)
    | (with_reducible refine Sup.bind ?_ (fun _ => ?_))
    | (with_reducible exact Sup.const _)
    | exact spec_EdgesAt.J0_sup _ _ _ _
    | exact spec_EdgesAt.L0_sup _ _ _ _ _
    | exact spec_peGood.F_sup _ _
    | exact spec_l1Has.F_sup _ _
    | exact Sup.const _
set_option maxHeartbeats 8000000 in
set_option maxRecDepth 100000 in
theorem spec_EdgesAt.calls (k : Nat) (a0_0 : Int) (A0_1 : Option Addr) (c0_1 : Nat) (l0_1 : List (List Int)) (a1 : Int) (r1 : List Int) (r2 : Bool) (w : World) (hr0_1 : Kd.C (Kd.slice 3 (Kd.int .i64)) w A0_1 l0_1.length l0_1) (hc0_1 : l0_1.length ≤ c0_1) (h : spec_EdgesAt.f k a0_0 l0_1 a1 = some (r1, r2)) :
    Calls Try.prog 26 #[.agg #[.int .i64 a0_0, .slice A0_1 l0_1.length c0_1], .int .i64 a1] w fun e w' => ∃ v0_ : Value, e = .returned (.tuple #[v0_, .bool r2]) ∧ Kd.R (Kd.int .i64) 3 w' w.heap.size (fun _ => True) v0_ r1 ∧ Below w.heap.size w w' := by
  have hu29 := Try.underlying29
  have HR0_1 := Aside0.mk hr0_1
  have HC0_1 := Aside0.mk hc0_1
  clear hr0_1 hc0_1
  have HB := Aside0.mk (Below.refl w.heap.size w)
  have H : ((spec_peGood.f k a0_0 l0_1).bind fun t238 => (if t238 = true then ((spec_l1In.f a1 0 (wrap64 (a0_0 - 1))).bind fun t239 => (spec_EdgesAt.j0 k a1 (!t239) a0_0 l0_1)) else (spec_EdgesAt.j0 k a1 true a0_0 l0_1))) = some (r1, r2) := h
  clear h
  have HC3 := Aside0.mk H
  clear H
  go_enter Try.func26, Try.ntmps26
  go_upto_region 1 with (first | ((with_reducible refine gate_dst (N := 2) rfl ?_); refine box_event ?hg (N := 2) ?hd (cs := #[.int .i64 a0_0, .slice A0_1 l0_1.length c0_1]) (t := 29) ?hr ?_; (case hd => rfl); (case hg => rfl); (case hr => first | (go_simp; done) | (go_simp; rfl)); intro gb237 hg w4 hbox hb; have n0_ := Aside0.mk (below_step (by repeat (first | (with_reducible first | exact HB.out | apply below_alloc | apply pw_below_drewN | apply below_drew1) | exact HB.out)) hb); have n1_ := Aside0.mk (hbox); have n2_ := Aside0.mk ((by rw [hg]; exact (below_size (by repeat (first | (with_reducible first | exact HB.out | apply below_alloc | apply pw_below_drewN | apply below_drew1) | exact HB.out))) : w.heap.size ≤ gb237)); have n3_ := Aside0.mk ((by rw [hg]; exact (below_size (by repeat (first | (with_reducible first | exact HB.out | apply below_alloc | apply pw_below_drewN | apply below_drew1) | exact HB.out))) : w.heap.size ≤ gb237)); clear HB; have HB := n0_; have BK237 := n1_; have GW237 := n2_; have GE237 := n3_; clear n0_ n1_ n2_ n3_; clear hb hbox hg))
  (try simp only [Act.put, List.setIfInBounds_toArray, List.set_cons_zero, List.set_cons_succ])
  go_cut [19] (fun v19 wc => ∃ (kq : Nat) (x19_2 : Bool), v19 = .bool x19_2 ∧ Aside0 (spec_EdgesAt.j0 kq a1 x19_2 a0_0 l0_1 = some (r1, r2)) ∧ Aside0 (kq ≤ k) ∧ Aside0 (wc.heap[gb237]? = some (.cells #[.int .i64 a0_0, (.slice A0_1 l0_1.length c0_1)] 29 (0, 0))) ∧ Aside0 (Below w.heap.size w wc))
  case first =>
   have H := HC3.out
   clear HC3
   replace H := Option.bind_eq_some_iff.mp H
   obtain ⟨t238, A50, H⟩ := H
   replace H : (if t238 = true then ((spec_l1In.f a1 0 (wrap64 (a0_0 - 1))).bind fun t239 => (spec_EdgesAt.j0 k a1 (!t239) a0_0 l0_1)) else (spec_EdgesAt.j0 k a1 true a0_0 l0_1)) = some (r1, r2) := H
   have A5 := Aside0.mk A50
   clear A50
   by_cases c6 : t238 = true
   ·subst c6
    have H1 : ((spec_l1In.f a1 0 (wrap64 (a0_0 - 1))).bind fun t239 => (spec_EdgesAt.j0 k a1 (!t239) a0_0 l0_1)) = some (r1, r2) := by rw [if_pos rfl] at H; exact H
    clear H
    have H := H1
    clear H1
    replace H := Option.bind_eq_some_iff.mp H
    obtain ⟨t239, A70, H⟩ := H
    replace H : (spec_EdgesAt.j0 k a1 (!t239) a0_0 l0_1) = some (r1, r2) := H
    have A7 := Aside0.mk A70
    clear A70
    have H' := Aside0.mk H
    clear H
    have hcz8_0 : w4.cell? ⟨gb237, 0, none⟩ = some (.int .i64 a0_0) := (blk_cell BK237.out 0).trans rfl
    have hcz8_1 : w4.cell? ⟨gb237, 1, none⟩ = some (.slice A0_1 l0_1.length c0_1) := (blk_cell BK237.out 1).trans rfl
    have hfz8_0 := blk_frozen BK237.out 0
    have hfz8_1 := blk_frozen BK237.out 1
    go_wp2_with (first | ((with_reducible refine gate_callee (f := 67) rfl ?_); refine goesL_ (some 10) rfl rfl Try.func67 (by kernel_rfl) rfl #[.agg #[.int .i64 a0_0, .slice A0_1 l0_1.length c0_1]] rfl (by (try simp only [List.map_toArray, List.map_cons, List.map_nil]); first | done | rfl | (simp only [List.length_drop, List.length_take]; rfl)) ?_; (with_reducible refine (spec_peGood.calls k a0_0 _ _ l0_1 true _ ?side1 ?side2 A5.out).mono ?_); (case side1 => repeat (first | exact (Kd.C_below HR0_1.out HB.out) | (with_reducible refine Kd.C_alloc ?_ _) | (with_reducible refine Kd.C_drewN ?_ _) | (with_reducible refine Kd.C_drew ?_))); (case side2 => exact HC0_1.out); rintro e w9 ⟨rfl, hb⟩; refine ⟨_, rfl, ?_⟩; have n0_ := Aside0.mk (blk_below (g := gb237) (o := .cells #[.int .i64 a0_0, .slice A0_1 l0_1.length c0_1] 29 (0, 0)) (by (with_reducible repeat (first | refine blk_drewN ?_ _ | refine blk_drew ?_ | refine blk_alloc ?_ _)); exact BK237.out) hb); have n1_ := Aside0.mk (below_step (by repeat (first | (with_reducible first | exact HB.out | apply below_alloc | apply pw_below_drewN | apply below_drew1 | refine below_set ?_ GE237.out) | exact HB.out)) hb); clear BK237; clear HB; have BK237 := n0_; have HB := n1_; clear n0_ n1_; (try clear hb); (try clear hb2); (try clear hk); (try clear hi); have hcz10_0 : w9.cell? ⟨gb237, 0, none⟩ = some (.int .i64 a0_0) := (blk_cell BK237.out 0).trans rfl; have hcz10_1 : w9.cell? ⟨gb237, 1, none⟩ = some (.slice A0_1 l0_1.length c0_1) := (blk_cell BK237.out 1).trans rfl; have hfz10_0 := blk_frozen BK237.out 0; have hfz10_1 := blk_frozen BK237.out 1) | (go_at_call 74; (with_reducible refine (spec_l1In.calls a1 0 (wrap64 (a0_0 - 1)) t239 _ A7.out).mono ?_); rintro e w' ⟨rfl, ⟨nd, rfl⟩⟩))
    go_meet
    case rel => exact ⟨_, (!t239), (by first | rfl | (simp; done) | (simp [*]; done)), H', ⟨by first | omega | exact Nat.le_refl _⟩, ⟨by (with_reducible repeat (first | refine blk_drewN ?_ _ | refine blk_drew ?_ | refine blk_alloc ?_ _)); exact BK237.out⟩, ⟨by repeat (first | (with_reducible first | exact HB.out | apply below_alloc | apply pw_below_drewN | apply below_drew1 | refine below_set ?_ GE237.out) | exact HB.out)⟩⟩
   ·replace c6 := Bool.eq_false_iff.mpr c6
    subst c6
    have H1 : (spec_EdgesAt.j0 k a1 true a0_0 l0_1) = some (r1, r2) := by rw [if_neg (show ¬ (false = true) by decide)] at H; exact H
    clear H
    have H := H1
    clear H1
    have H' := Aside0.mk H
    clear H
    have hcz11_0 : w4.cell? ⟨gb237, 0, none⟩ = some (.int .i64 a0_0) := (blk_cell BK237.out 0).trans rfl
    have hcz11_1 : w4.cell? ⟨gb237, 1, none⟩ = some (.slice A0_1 l0_1.length c0_1) := (blk_cell BK237.out 1).trans rfl
    have hfz11_0 := blk_frozen BK237.out 0
    have hfz11_1 := blk_frozen BK237.out 1
    go_wp2_with (first | ((with_reducible refine gate_callee (f := 67) rfl ?_); refine goesL_ (some 10) rfl rfl Try.func67 (by kernel_rfl) rfl #[.agg #[.int .i64 a0_0, .slice A0_1 l0_1.length c0_1]] rfl (by (try simp only [List.map_toArray, List.map_cons, List.map_nil]); first | done | rfl | (simp only [List.length_drop, List.length_take]; rfl)) ?_; (with_reducible refine (spec_peGood.calls k a0_0 _ _ l0_1 false _ ?side1 ?side2 A5.out).mono ?_); (case side1 => repeat (first | exact (Kd.C_below HR0_1.out HB.out) | (with_reducible refine Kd.C_alloc ?_ _) | (with_reducible refine Kd.C_drewN ?_ _) | (with_reducible refine Kd.C_drew ?_))); (case side2 => exact HC0_1.out); rintro e w12 ⟨rfl, hb⟩; refine ⟨_, rfl, ?_⟩; have n0_ := Aside0.mk (blk_below (g := gb237) (o := .cells #[.int .i64 a0_0, .slice A0_1 l0_1.length c0_1] 29 (0, 0)) (by (with_reducible repeat (first | refine blk_drewN ?_ _ | refine blk_drew ?_ | refine blk_alloc ?_ _)); exact BK237.out) hb); have n1_ := Aside0.mk (below_step (by repeat (first | (with_reducible first | exact HB.out | apply below_alloc | apply pw_below_drewN | apply below_drew1 | refine below_set ?_ GE237.out) | exact HB.out)) hb); clear BK237; clear HB; have BK237 := n0_; have HB := n1_; clear n0_ n1_; (try clear hb); (try clear hb2); (try clear hk); (try clear hi)))
    go_meet
    case rel => exact ⟨_, (true), (by first | rfl | (simp; done) | (simp [*]; done)), H', ⟨by first | omega | exact Nat.le_refl _⟩, ⟨by (with_reducible repeat (first | refine blk_drewN ?_ _ | refine blk_drew ?_ | refine blk_alloc ?_ _)); exact BK237.out⟩, ⟨by repeat (first | (with_reducible first | exact HB.out | apply below_alloc | apply pw_below_drewN | apply below_drew1 | refine below_set ?_ GE237.out) | exact HB.out)⟩⟩
  case rest =>
   clear HC3
   try clear c2
   try clear p2
   try clear c6
   try clear p6
   try clear hcz10_0
   try clear hcz10_1
   try clear hcz11_0
   try clear hcz11_1
   try clear hcz8_0
   try clear hcz8_1
   try clear hfz10_0
   try clear hfz10_1
   try clear hfz11_0
   try clear hfz11_1
   try clear hfz8_0
   try clear hfz8_1
   obtain ⟨kq, x19_2, rfl, HA, HJ2, BK237, HB⟩ := hcut
   cases kq with
   | zero => exact absurd HA.out (by simp [spec_EdgesAt.j0])
   | succ kj2 =>
    have H := HA.out
    clear HA
    simp only [spec_EdgesAt.j0] at H
    by_cases c13 : x19_2 = true
    ·subst c13
     have H1 : (some (([] : List Int), false)) = some (r1, r2) := by rw [if_pos rfl] at H; exact H
     clear H
     have H := H1
     clear H1
     simp only [Option.some.injEq, Prod.mk.injEq] at H
     obtain ⟨rfl, rfl⟩ := H
     go_wp2
     go_ret2
     exact ⟨_, by first | rfl | (simp [errW_none, errW_some] <;> rfl) | (simp [*, errW_none, errW_some] <;> rfl), by first | exact Kd.R_nil _ _ _ _ _ | exact Kd.N_nil _ _ _ _ _ | exact Kd.V_nil _ _ _ _ _ | exact Kd.Q_nil _ _ _ _ _ | exact Kd.S_nil _ _ _ _ _, by repeat (first | (with_reducible first | exact HB.out | apply below_alloc | apply pw_below_drewN | apply below_drew1 | refine below_set ?_ GE237.out) | exact HB.out)⟩
    ·replace c13 := Bool.eq_false_iff.mpr c13
     subst c13
     have H1 : (spec_EdgesAt.l0 kj2 a1 ([] : List Int) l0_1 (l0_1.length : Int) 0) = some (r1, r2) := by rw [if_neg (show ¬ (false = true) by decide)] at H; exact H
     clear H
     have H := H1
     clear H1
     have H' := Aside0.mk H
     clear H
     have hcz14_0 : wc.cell? ⟨gb237, 0, none⟩ = some (.int .i64 a0_0) := (blk_cell BK237.out 0).trans rfl
     have hcz14_1 : wc.cell? ⟨gb237, 1, none⟩ = some (.slice A0_1 l0_1.length c0_1) := (blk_cell BK237.out 1).trans rfl
     have hfz14_0 := blk_frozen BK237.out 0
     have hfz14_1 := blk_frozen BK237.out 1
     go_wp2
     go_loopg [6, 23] kj2 (fun kq v6 v23 w' => ∃ (x6_2 : List Int) (x23_2 : Int), v23 = .int .i64 x23_2 ∧ Aside0 (spec_EdgesAt.l0 kq a1 x6_2 l0_1 (l0_1.length : Int) x23_2 = some (r1, r2)) ∧ Aside0 (kq ≤ kj2) ∧ Aside0 (Kd.R (Kd.int .i64) 3 w' w.heap.size (fun _ => True) v6 x6_2) ∧ Aside0 (w'.heap[gb237]? = some (.cells #[.int .i64 a0_0, (.slice A0_1 l0_1.length c0_1)] 29 (0, 0))) ∧ Aside0 (Below w.heap.size w w'))
     case atStart => exact ⟨(([] : List Int)), (0), (by first | rfl | (simp; done) | (simp [*]; done)), H', ⟨Nat.le_refl _⟩, ⟨by first | exact Kd.R_nil _ _ _ _ _ | exact Kd.N_nil _ _ _ _ _ | exact Kd.V_nil _ _ _ _ _ | exact Kd.Q_nil _ _ _ _ _ | exact Kd.S_nil _ _ _ _ _⟩, ⟨by (with_reducible repeat (first | refine blk_drewN ?_ _ | refine blk_drew ?_ | refine blk_alloc ?_ _)); exact BK237.out⟩, ⟨by repeat (first | (with_reducible first | exact HB.out | apply below_alloc | apply pw_below_drewN | apply below_drew1 | refine below_set ?_ GE237.out) | exact HB.out)⟩⟩
     case round =>
      clear H'
      try clear c1
      try clear c2
      try clear p2
      try clear c6
      try clear p6
      try clear c13
      try clear hcz10_0
      try clear hcz10_1
      try clear hcz11_0
      try clear hcz11_1
      try clear hcz14_0
      try clear hcz14_1
      try clear hcz8_0
      try clear hcz8_1
      try clear hfz10_0
      try clear hfz10_1
      try clear hfz11_0
      try clear hfz11_1
      try clear hfz14_0
      try clear hfz14_1
      try clear hfz8_0
      try clear hfz8_1
      try clear p2
      try clear p6
      obtain ⟨x6_2, x23_2, rfl, HA, HK2, HO_6, BK237, HB⟩ := hrel
      cases gk with
      | zero => exact absurd HA.out (by simp [spec_EdgesAt.l0])
      | succ k2 =>
       have H := HA.out
       clear HA
       simp only [spec_EdgesAt.l0] at H
       by_cases c15 : x23_2 < (l0_1.length : Int)
       ·rw [if_pos c15] at H
        have c15b0 : decide (x23_2 < (l0_1.length : Int)) = true := decide_eq_true c15
        clear c15
        by_cases c16 : 0 ≤ x23_2
        ·rw [if_pos c16] at H
         have c16b0 : decide (0 ≤ x23_2) = true := decide_eq_true c16
         clear c16
         by_cases c17 : x23_2 < (l0_1.length : Int)
         ·rw [if_pos c17] at H
          have c17b0 : decide (x23_2 < (l0_1.length : Int)) = true := decide_eq_true c17
          clear c17
          replace H := Option.bind_eq_some_iff.mp H
          obtain ⟨t241, A180, H⟩ := H
          replace H : (if t241 = true then (if x6_2.length < 17592186044416 then (spec_EdgesAt.l0 k2 a1 (x6_2 ++ [x23_2]) l0_1 (l0_1.length : Int) (wrap64 (x23_2 + 1))) else (none)) else (spec_EdgesAt.l0 k2 a1 x6_2 l0_1 (l0_1.length : Int) (wrap64 (x23_2 + 1)))) = some (r1, r2) := H
          have A18 := Aside0.mk A180
          clear A180
          by_cases c19 : t241 = true
          ·subst c19
           have H1 : (if x6_2.length < 17592186044416 then (spec_EdgesAt.l0 k2 a1 (x6_2 ++ [x23_2]) l0_1 (l0_1.length : Int) (wrap64 (x23_2 + 1))) else (none)) = some (r1, r2) := by rw [if_pos rfl] at H; exact H
           clear H
           have H := H1
           clear H1
           by_cases c20 : x6_2.length < 17592186044416
           ·rw [if_pos c20] at H
            have LMc20 := Aside0.mk c20
            clear c20
            obtain ⟨y242, hy242⟩ : ∃ y_ : List Int, y_ = (x6_2 ++ [x23_2]) := ⟨_, rfl⟩
            replace H : (spec_EdgesAt.l0 k2 a1 y242 l0_1 (l0_1.length : Int) (wrap64 (x23_2 + 1))) = some (r1, r2) := by first | (rw [hy242]; with_reducible exact H) | (have H2_ := (Option.bind_some _ _).symm.trans H; rw [hy242]; with_reducible exact H2_) | (have H2_ := (Option.bind_some _ _).symm.trans H; with_reducible exact H2_) | with_reducible exact H | (rw [hy242]; exact H) | exact H
            have Ny242 := Aside0.mk hy242
            clear hy242
            have H' := Aside0.mk H
            clear H
            have p240 : 0 ≤ (x23_2 : Int) := of_decide_eq_true (by first | (with_reducible assumption) | assumption)
            have q240 : x23_2 < (l0_1.length : Int) := of_decide_eq_true (by first | (with_reducible assumption) | assumption)
            obtain ⟨ad240, A240_0, c240_0, e240, hx240_0, hl240_0, hi240_0⟩ := at_L1 HR0_1.out x23_2 p240 q240
            cases e240
            replace hx240_0 := (HB.out.cell (World.block_lt_of_cell? w _ hx240_0)).trans hx240_0
            have HR240_0 := Aside0.mk hi240_0
            have HC240_0 := Aside0.mk hl240_0
            clear hi240_0 hl240_0
            replace p240 := eq_true p240
            replace q240 := eq_true q240
            go_wp2_with (first | ((with_reducible refine gate_callee (f := 75) rfl ?_); refine goesL_ (some 30) rfl rfl Try.func75 (by kernel_rfl) rfl #[.slice A240_0 (rd_L1 l0_1 x23_2).length c240_0, .int .i64 a1] rfl (by (try simp only [List.map_toArray, List.map_cons, List.map_nil]); first | done | rfl | (simp only [List.length_drop, List.length_take]; rfl)) ?_; (with_reducible refine (spec_l1Has.calls k2 _ _ (rd_L1 l0_1 x23_2) a1 true _ ?side1 ?side2 A18.out).mono ?_); (case side1 => repeat (first | exact (Kd.C_below HR240_0.out HB.out) | (with_reducible refine Kd.C_alloc ?_ _) | (with_reducible refine Kd.C_drewN ?_ _) | (with_reducible refine Kd.C_drew ?_))); (case side2 => exact HC240_0.out); rintro e w' ⟨rfl, ⟨nd, rfl⟩⟩; refine ⟨_, rfl, ?_⟩) | ((with_reducible refine gate_builtin (b := .append) (xs := #[.tmp 31, .tmp 33]) rfl ?_); at_builtin; refine Kd.R_append (Kd.int .i64) (w0 := w) w.heap.size rfl (.tmp 31) (.tmp 33) 26 3 (.int .i64 0) 8 rfl Try.underlying26 info3 rfl (by decide) (by omega) u6 x6_2 x23_2 [.int .i64 x23_2] (fun _ => True) (fun _ => False) rfl rfl ?aP (fun _ hk => hk.elim) ?aF ?aO ?aB ?aS ?aL ?_; (case aP => exact rfl); (case aB => exact (by repeat (first | (with_reducible first | exact HB.out | apply below_alloc | apply pw_below_drewN | apply below_drew1 | refine below_set ?_ GE237.out) | exact HB.out))); (case aF => exact (fun _ _ => trivial)); (case aO => exact (by (with_reducible repeat (first | apply Kd.R_alloc | apply Kd.R_drewN | apply Kd.R_drew)); exact HO_6.out)); (case aS => exact (below_size (by repeat (first | (with_reducible first | exact HB.out | apply below_alloc | apply pw_below_drewN | apply below_drew1 | refine below_set ?_ GE237.out) | exact HB.out)))); (case aL => have := LMc20.out; omega); intro v243 w21 ho hb hg hat; rw [← Ny242.out] at ho; have n0_ := Aside0.mk (blk_grown (g := gb237) (o := .cells #[.int .i64 a0_0, .slice (some ad240) l0_1.length c0_1] 29 (0, 0)) (by (with_reducible repeat (first | refine blk_drewN ?_ _ | refine blk_drew ?_ | refine blk_alloc ?_ _)); exact BK237.out) hg (Kd.R_ne HO_6.out BK237.out (by decide))); have n1_ := Aside0.mk (hb); have n2_ := Aside0.mk (ho); clear BK237; clear HB; clear HO_6; have BK237 := n0_; have HB := n1_; have HO244 := n2_; clear n0_ n1_ n2_; clear ho hb hg hat))
            go_roundg k2
            case measure => have := HJ2.out; have := HK2.out; omega
            case rel => exact ⟨(y242), (wrap64 (x23_2 + 1)), (by first | rfl | (simp; done) | (simp [*]; done)), H', ⟨by have := HJ2.out; have := HK2.out; omega⟩, ⟨by (with_reducible repeat (first | apply Kd.R_alloc | apply Kd.R_drewN | apply Kd.R_drew)); exact HO244.out⟩, ⟨by (with_reducible repeat (first | refine blk_drewN ?_ _ | refine blk_drew ?_ | refine blk_alloc ?_ _)); exact BK237.out⟩, ⟨by repeat (first | (with_reducible first | exact HB.out | apply below_alloc | apply pw_below_drewN | apply below_drew1 | refine below_set ?_ GE237.out) | exact HB.out)⟩⟩
           ·rw [if_neg c20] at H
            exact absurd H (by simp)
          ·replace c19 := Bool.eq_false_iff.mpr c19
           subst c19
           have H1 : (spec_EdgesAt.l0 k2 a1 x6_2 l0_1 (l0_1.length : Int) (wrap64 (x23_2 + 1))) = some (r1, r2) := by rw [if_neg (show ¬ (false = true) by decide)] at H; exact H
           clear H
           have H := H1
           clear H1
           have H' := Aside0.mk H
           clear H
           have p240 : 0 ≤ (x23_2 : Int) := of_decide_eq_true (by first | (with_reducible assumption) | assumption)
           have q240 : x23_2 < (l0_1.length : Int) := of_decide_eq_true (by first | (with_reducible assumption) | assumption)
           obtain ⟨ad240, A240_0, c240_0, e240, hx240_0, hl240_0, hi240_0⟩ := at_L1 HR0_1.out x23_2 p240 q240
           cases e240
           replace hx240_0 := (HB.out.cell (World.block_lt_of_cell? w _ hx240_0)).trans hx240_0
           have HR240_0 := Aside0.mk hi240_0
           have HC240_0 := Aside0.mk hl240_0
           clear hi240_0 hl240_0
           replace p240 := eq_true p240
           replace q240 := eq_true q240
           go_wp2_with (first | ((with_reducible refine gate_callee (f := 75) rfl ?_); refine goesL_ (some 30) rfl rfl Try.func75 (by kernel_rfl) rfl #[.slice A240_0 (rd_L1 l0_1 x23_2).length c240_0, .int .i64 a1] rfl (by (try simp only [List.map_toArray, List.map_cons, List.map_nil]); first | done | rfl | (simp only [List.length_drop, List.length_take]; rfl)) ?_; (with_reducible refine (spec_l1Has.calls k2 _ _ (rd_L1 l0_1 x23_2) a1 false _ ?side1 ?side2 A18.out).mono ?_); (case side1 => repeat (first | exact (Kd.C_below HR240_0.out HB.out) | (with_reducible refine Kd.C_alloc ?_ _) | (with_reducible refine Kd.C_drewN ?_ _) | (with_reducible refine Kd.C_drew ?_))); (case side2 => exact HC240_0.out); rintro e w' ⟨rfl, ⟨nd, rfl⟩⟩; refine ⟨_, rfl, ?_⟩))
           go_roundg k2
           case measure => have := HJ2.out; have := HK2.out; omega
           case rel => exact ⟨(x6_2), (wrap64 (x23_2 + 1)), (by first | rfl | (simp; done) | (simp [*]; done)), H', ⟨by have := HJ2.out; have := HK2.out; omega⟩, ⟨by (with_reducible repeat (first | apply Kd.R_alloc | apply Kd.R_drewN | apply Kd.R_drew)); exact HO_6.out⟩, ⟨by (with_reducible repeat (first | refine blk_drewN ?_ _ | refine blk_drew ?_ | refine blk_alloc ?_ _)); exact BK237.out⟩, ⟨by repeat (first | (with_reducible first | exact HB.out | apply below_alloc | apply pw_below_drewN | apply below_drew1 | refine below_set ?_ GE237.out) | exact HB.out)⟩⟩
         ·rw [if_neg c17] at H
          exact absurd H (by simp)
        ·rw [if_neg c16] at H
         exact absurd H (by simp)
       ·rw [if_neg c15] at H
        have c15b0 : decide (x23_2 < (l0_1.length : Int)) = false := decide_eq_false c15
        clear c15
        simp only [Option.some.injEq, Prod.mk.injEq] at H
        obtain ⟨rfl, rfl⟩ := H
        go_wp2
        go_ret2
        exact ⟨_, by first | rfl | (simp [errW_none, errW_some] <;> rfl) | (simp [*, errW_none, errW_some] <;> rfl), by (with_reducible repeat (first | apply Kd.R_alloc | apply Kd.R_drewN | apply Kd.R_drew)); exact HO_6.out, by repeat (first | (with_reducible first | exact HB.out | apply below_alloc | apply pw_below_drewN | apply below_drew1 | refine below_set ?_ GE237.out) | exact HB.out)⟩
/-! ### impl_EdgesAt: function 27 -/
mutual
def impl_EdgesAt.j0 : Nat → Int → Bool → Int → List (List Int) → Option (List Int × Bool)
  | 0, _, _, _, _ => none
  | k + 1, x1, x19, x248000, x248001 => if x19 = true then (some (([] : List Int), false)) else (impl_EdgesAt.l0 k x1 (([] : List Int)) x248001 (x248001.length : Int) 0)
def impl_EdgesAt.l0 : Nat → Int → List Int → List (List Int) → Int → Int → Option (List Int × Bool)
  | 0, _, _, _, _, _ => none
  | k + 1, x1, x6, x22, x23, x24 => if x24 < x23 then (if 0 ≤ x24 then (if x24 < (x22.length : Int) then ((slices_Contains_int_int.f k (rd_L1 x22 x24) x1).bind fun t254 => (if t254 = true then (if x6.length < 17592186044416 then (impl_EdgesAt.l0 k x1 (x6 ++ [x24]) x22 x23 (wrap64 (x24 + 1))) else (none)) else (impl_EdgesAt.l0 k x1 x6 x22 x23 (wrap64 (x24 + 1))))) else (none)) else (none)) else (some (x6, true))
end
def impl_EdgesAt.f (k : Nat) (a0_0 : Int) (l0_1 : List (List Int)) (a1 : Int) : Option (List Int × Bool) := (impl_IsHyper.f k a0_0 l0_1).bind fun t248 => (if t248 = true then ((impl_in.f a1 0 (wrap64 (a0_0 - 1))).bind fun t249 => (impl_EdgesAt.j0 k a1 (!t249) a0_0 l0_1)) else (impl_EdgesAt.j0 k a1 true a0_0 l0_1))
theorem impl_EdgesAt.mono_l : ∀ k, (∀ y0 y1 y2 y3, LeO (impl_EdgesAt.j0 k y0 y1 y2 y3) (impl_EdgesAt.j0 (k + 1) y0 y1 y2 y3)) ∧ (∀ y0 y1 y2 y3 y4, LeO (impl_EdgesAt.l0 k y0 y1 y2 y3 y4) (impl_EdgesAt.l0 (k + 1) y0 y1 y2 y3 y4))
  | 0 => ⟨fun _ _ _ _ r h => by simp [impl_EdgesAt.j0] at h, fun _ _ _ _ _ r h => by simp [impl_EdgesAt.l0] at h⟩
  | k + 1 => by
    obtain ⟨ih0, ih1⟩ := impl_EdgesAt.mono_l k
    refine ⟨?_, ?_⟩
    · intro y0 y1 y2 y3
      unfold impl_EdgesAt.j0
      repeat' first
      | (with_reducible exact ih0 _ _ _ _)
      | (with_reducible exact ih1 _ _ _ _ _)
      | (with_reducible exact impl_IsHyper.mono _ _ _)
      | (with_reducible exact slices_Contains_int_int.mono _ _ _)
      | (with_reducible exact LeO.refl _)
      | (with_reducible exact LeO.none _)
      | (with_reducible refine LeO.ite ?_ ?_)
      | (with_reducible refine LeO.bind ?_ (fun _ => ?_))
      | exact ih0 _ _ _ _
      | exact ih1 _ _ _ _ _
      | exact impl_IsHyper.mono _ _ _
      | exact slices_Contains_int_int.mono _ _ _
      | exact LeO.none _
      | refine LeO.ite ?_ ?_
      | refine LeO.bind ?_ (fun _ => ?_)
    · intro y0 y1 y2 y3 y4
      unfold impl_EdgesAt.l0
      repeat' first
      | (with_reducible exact ih0 _ _ _ _)
      | (with_reducible exact ih1 _ _ _ _ _)
      | (with_reducible exact impl_IsHyper.mono _ _ _)
      | (with_reducible exact slices_Contains_int_int.mono _ _ _)
      | (with_reducible exact LeO.refl _)
      | (with_reducible exact LeO.none _)
      | (with_reducible refine LeO.ite ?_ ?_)
      | (with_reducible refine LeO.bind ?_ (fun _ => ?_))
      | exact ih0 _ _ _ _
      | exact ih1 _ _ _ _ _
      | exact impl_IsHyper.mono _ _ _
      | exact slices_Contains_int_int.mono _ _ _
      | exact LeO.none _
      | refine LeO.ite ?_ ?_
      | refine LeO.bind ?_ (fun _ => ?_)
theorem impl_EdgesAt.mono : ∀ a0 a1 a2 k, LeO (impl_EdgesAt.f k a0 a1 a2) (impl_EdgesAt.f (k + 1) a0 a1 a2) := by
  intro a0 a1 a2 k
  obtain ⟨ih0, ih1⟩ := impl_EdgesAt.mono_l k
  unfold impl_EdgesAt.f
  repeat' first
      | (with_reducible exact ih0 _ _ _ _)
      | (with_reducible exact ih1 _ _ _ _ _)
      | (with_reducible exact impl_IsHyper.mono _ _ _)
      | (with_reducible exact slices_Contains_int_int.mono _ _ _)
      | (with_reducible exact LeO.refl _)
      | (with_reducible exact LeO.none _)
      | (with_reducible refine LeO.ite ?_ ?_)
      | (with_reducible refine LeO.bind ?_ (fun _ => ?_))
      | exact ih0 _ _ _ _
      | exact ih1 _ _ _ _ _
      | exact impl_IsHyper.mono _ _ _
      | exact slices_Contains_int_int.mono _ _ _
      | exact LeO.none _
      | refine LeO.ite ?_ ?_
      | refine LeO.bind ?_ (fun _ => ?_)
noncomputable def impl_EdgesAt.J0 (y0 : Int) (y1 : Bool) (y2 : Int) (y3 : List (List Int)) : Option (List Int × Bool) := lim fun k => impl_EdgesAt.j0 k y0 y1 y2 y3
theorem impl_EdgesAt.J0_sup (y0 : Int) (y1 : Bool) (y2 : Int) (y3 : List (List Int)) : Sup (fun k => impl_EdgesAt.j0 k y0 y1 y2 y3) (impl_EdgesAt.J0 y0 y1 y2 y3) := Sup.of_mono fun k => (impl_EdgesAt.mono_l k).1 y0 y1 y2 y3
noncomputable def impl_EdgesAt.L0 (y0 : Int) (y1 : List Int) (y2 : List (List Int)) (y3 : Int) (y4 : Int) : Option (List Int × Bool) := lim fun k => impl_EdgesAt.l0 k y0 y1 y2 y3 y4
theorem impl_EdgesAt.L0_sup (y0 : Int) (y1 : List Int) (y2 : List (List Int)) (y3 : Int) (y4 : Int) : Sup (fun k => impl_EdgesAt.l0 k y0 y1 y2 y3 y4) (impl_EdgesAt.L0 y0 y1 y2 y3 y4) := Sup.of_mono fun k => (impl_EdgesAt.mono_l k).2 y0 y1 y2 y3 y4
noncomputable def impl_EdgesAt.F (a0_0 : Int) (l0_1 : List (List Int)) (a1 : Int) : Option (List Int × Bool) := lim fun k => impl_EdgesAt.f k a0_0 l0_1 a1
theorem impl_EdgesAt.F_sup (a0_0 : Int) (l0_1 : List (List Int)) (a1 : Int) : Sup (fun k => impl_EdgesAt.f k a0_0 l0_1 a1) (impl_EdgesAt.F a0_0 l0_1 a1) := Sup.of_mono fun k => impl_EdgesAt.mono a0_0 l0_1 a1 k
theorem impl_EdgesAt.J0_eq (x1 : Int) (x19 : Bool) (x248000 : Int) (x248001 : List (List Int)) : impl_EdgesAt.J0 x1 x19 x248000 x248001 = if x19 = true then (some (([] : List Int), false)) else (impl_EdgesAt.L0 x1 (([] : List Int)) x248001 (x248001.length : Int) 0) := by
  refine Sup.unique (impl_EdgesAt.J0_sup x1 x19 x248000 x248001) (Sup.shift (fun k => (impl_EdgesAt.mono_l k).1 x1 x19 x248000 x248001) (Sup.congr (g' := fun k => if x19 = true then (some (([] : List Int), false)) else (impl_EdgesAt.l0 k x1 (([] : List Int)) x248001 (x248001.length : Int) 0)) (fun k => by first | rfl | simp only [impl_EdgesAt.j0]) ?_))
  repeat' first
    | (with_reducible exact impl_EdgesAt.J0_sup _ _ _ _)
    | (with_reducible exact impl_EdgesAt.L0_sup _ _ _ _ _)
    | (with_reducible exact impl_IsHyper.F_sup _ _)
    | (with_reducible exact slices_Contains_int_int.F_sup _ _)
    | (with_reducible refine Sup.ite ?_ ?_)
    | (with_reducible refine Sup.bind ?_ (fun _ => ?_))
    | (with_reducible exact Sup.const _)
    | exact impl_EdgesAt.J0_sup _ _ _ _
    | exact impl_EdgesAt.L0_sup _ _ _ _ _
    | exact impl_IsHyper.F_sup _ _
    | exact slices_Contains_int_int.F_sup _ _
    | exact Sup.const _
theorem impl_EdgesAt.L0_eq (x1 : Int) (x6 : List Int) (x22 : List (List Int)) (x23 : Int) (x24 : Int) : impl_EdgesAt.L0 x1 x6 x22 x23 x24 = if x24 < x23 then (if 0 ≤ x24 then (if x24 < (x22.length : Int) then ((slices_Contains_int_int.F (rd_L1 x22 x24) x1).bind fun t254 => (if t254 = true then (if x6.length < 17592186044416 then (impl_EdgesAt.L0 x1 (x6 ++ [x24]) x22 x23 (wrap64 (x24 + 1))) else (none)) else (impl_EdgesAt.L0 x1 x6 x22 x23 (wrap64 (x24 + 1))))) else (none)) else (none)) else (some (x6, true)) := by
  refine Sup.unique (impl_EdgesAt.L0_sup x1 x6 x22 x23 x24) (Sup.shift (fun k => (impl_EdgesAt.mono_l k).2 x1 x6 x22 x23 x24) (Sup.congr (g' := fun k => if x24 < x23 then (if 0 ≤ x24 then (if x24 < (x22.length : Int) then ((slices_Contains_int_int.f k (rd_L1 x22 x24) x1).bind fun t254 => (if t254 = true then (if x6.length < 17592186044416 then (impl_EdgesAt.l0 k x1 (x6 ++ [x24]) x22 x23 (wrap64 (x24 + 1))) else (none)) else (impl_EdgesAt.l0 k x1 x6 x22 x23 (wrap64 (x24 + 1))))) else (none)) else (none)) else (some (x6, true))) (fun k => by first | rfl | simp only [impl_EdgesAt.l0]) ?_))
  repeat' first
    | (with_reducible exact impl_EdgesAt.J0_sup _ _ _ _)
    | (with_reducible exact impl_EdgesAt.L0_sup _ _ _ _ _)
    | (with_reducible exact impl_IsHyper.F_sup _ _)
    | (with_reducible exact slices_Contains_int_int.F_sup _ _)
    | (with_reducible refine Sup.ite ?_ ?_)
    | (with_reducible refine Sup.bind ?_ (fun _ => ?_))
    | (with_reducible exact Sup.const _)
    | exact impl_EdgesAt.J0_sup _ _ _ _
    | exact impl_EdgesAt.L0_sup _ _ _ _ _
    | exact impl_IsHyper.F_sup _ _
    | exact slices_Contains_int_int.F_sup _ _
    | exact Sup.const _
theorem impl_EdgesAt.F_eq (a0_0 : Int) (l0_1 : List (List Int)) (a1 : Int) : impl_EdgesAt.F a0_0 l0_1 a1 = (impl_IsHyper.F a0_0 l0_1).bind fun t248 => (if t248 = true then ((impl_in.f a1 0 (wrap64 (a0_0 - 1))).bind fun t249 => (impl_EdgesAt.J0 a1 (!t249) a0_0 l0_1)) else (impl_EdgesAt.J0 a1 true a0_0 l0_1)) := by
  refine Sup.unique (impl_EdgesAt.F_sup a0_0 l0_1 a1) (Sup.congr (g' := fun k => (impl_IsHyper.f k a0_0 l0_1).bind fun t248 => (if t248 = true then ((impl_in.f a1 0 (wrap64 (a0_0 - 1))).bind fun t249 => (impl_EdgesAt.j0 k a1 (!t249) a0_0 l0_1)) else (impl_EdgesAt.j0 k a1 true a0_0 l0_1))) (fun k => by first | rfl | simp only [impl_EdgesAt.f]) ?_)
  repeat' first
    | (with_reducible exact impl_EdgesAt.J0_sup _ _ _ _)
    | (with_reducible exact impl_EdgesAt.L0_sup _ _ _ _ _)
    | (with_reducible exact impl_IsHyper.F_sup _ _)
    | (with_reducible exact slices_Contains_int_int.F_sup _ _)
    | (with_reducible refine Sup.ite ?_ ?_)
    | (with_reducible refine Sup.bind ?_ (fun _ => ?_))
    | (with_reducible exact Sup.const _)
    | exact impl_EdgesAt.J0_sup _ _ _ _
    | exact impl_EdgesAt.L0_sup _ _ _ _ _
    | exact impl_IsHyper.F_sup _ _
    | exact slices_Contains_int_int.F_sup _ _
    | exact Sup.const _
set_option maxHeartbeats 8000000 in
set_option maxRecDepth 100000 in
theorem impl_EdgesAt.calls (k : Nat) (a0_0 : Int) (A0_1 : Option Addr) (c0_1 : Nat) (l0_1 : List (List Int)) (a1 : Int) (r1 : List Int) (r2 : Bool) (w : World) (hr0_1 : Kd.C (Kd.slice 3 (Kd.int .i64)) w A0_1 l0_1.length l0_1) (hc0_1 : l0_1.length ≤ c0_1) (h : impl_EdgesAt.f k a0_0 l0_1 a1 = some (r1, r2)) :
    Calls Try.prog 27 #[.agg #[.int .i64 a0_0, .slice A0_1 l0_1.length c0_1], .int .i64 a1] w fun e w' => ∃ v0_ : Value, e = .returned (.tuple #[v0_, .bool r2]) ∧ Kd.R (Kd.int .i64) 3 w' w.heap.size (fun _ => True) v0_ r1 ∧ Below w.heap.size w w' := by
  have hu29 := Try.underlying29
  have HR0_1 := Aside0.mk hr0_1
  have HC0_1 := Aside0.mk hc0_1
  clear hr0_1 hc0_1
  have HB := Aside0.mk (Below.refl w.heap.size w)
  have H : ((impl_IsHyper.f k a0_0 l0_1).bind fun t248 => (if t248 = true then ((impl_in.f a1 0 (wrap64 (a0_0 - 1))).bind fun t249 => (impl_EdgesAt.j0 k a1 (!t249) a0_0 l0_1)) else (impl_EdgesAt.j0 k a1 true a0_0 l0_1))) = some (r1, r2) := h
  clear h
  have HC3 := Aside0.mk H
  clear H
  go_enter Try.func27, Try.ntmps27
  go_upto_region 1 with (first | ((with_reducible refine gate_dst (N := 2) rfl ?_); refine box_event ?hg (N := 2) ?hd (cs := #[.int .i64 a0_0, .slice A0_1 l0_1.length c0_1]) (t := 29) ?hr ?_; (case hd => rfl); (case hg => rfl); (case hr => first | (go_simp; done) | (go_simp; rfl)); intro gb247 hg w4 hbox hb; have n0_ := Aside0.mk (below_step (by repeat (first | (with_reducible first | exact HB.out | apply below_alloc | apply pw_below_drewN | apply below_drew1) | exact HB.out)) hb); have n1_ := Aside0.mk (hbox); have n2_ := Aside0.mk ((by rw [hg]; exact (below_size (by repeat (first | (with_reducible first | exact HB.out | apply below_alloc | apply pw_below_drewN | apply below_drew1) | exact HB.out))) : w.heap.size ≤ gb247)); have n3_ := Aside0.mk ((by rw [hg]; exact (below_size (by repeat (first | (with_reducible first | exact HB.out | apply below_alloc | apply pw_below_drewN | apply below_drew1) | exact HB.out))) : w.heap.size ≤ gb247)); clear HB; have HB := n0_; have BK247 := n1_; have GW247 := n2_; have GE247 := n3_; clear n0_ n1_ n2_ n3_; clear hb hbox hg))
  (try simp only [Act.put, List.setIfInBounds_toArray, List.set_cons_zero, List.set_cons_succ])
  go_cut [19] (fun v19 wc => ∃ (kq : Nat) (x19_2 : Bool), v19 = .bool x19_2 ∧ Aside0 (impl_EdgesAt.j0 kq a1 x19_2 a0_0 l0_1 = some (r1, r2)) ∧ Aside0 (kq ≤ k) ∧ Aside0 (wc.heap[gb247]? = some (.cells #[.int .i64 a0_0, (.slice A0_1 l0_1.length c0_1)] 29 (0, 0))) ∧ Aside0 (Below w.heap.size w wc))
  case first =>
   have H := HC3.out
   clear HC3
   replace H := Option.bind_eq_some_iff.mp H
   obtain ⟨t248, A50, H⟩ := H
   replace H : (if t248 = true then ((impl_in.f a1 0 (wrap64 (a0_0 - 1))).bind fun t249 => (impl_EdgesAt.j0 k a1 (!t249) a0_0 l0_1)) else (impl_EdgesAt.j0 k a1 true a0_0 l0_1)) = some (r1, r2) := H
   have A5 := Aside0.mk A50
   clear A50
   by_cases c6 : t248 = true
   ·subst c6
    have H1 : ((impl_in.f a1 0 (wrap64 (a0_0 - 1))).bind fun t249 => (impl_EdgesAt.j0 k a1 (!t249) a0_0 l0_1)) = some (r1, r2) := by rw [if_pos rfl] at H; exact H
    clear H
    have H := H1
    clear H1
    replace H := Option.bind_eq_some_iff.mp H
    obtain ⟨t249, A70, H⟩ := H
    replace H : (impl_EdgesAt.j0 k a1 (!t249) a0_0 l0_1) = some (r1, r2) := H
    have A7 := Aside0.mk A70
    clear A70
    have H' := Aside0.mk H
    clear H
    have hcz8_0 : w4.cell? ⟨gb247, 0, none⟩ = some (.int .i64 a0_0) := (blk_cell BK247.out 0).trans rfl
    have hcz8_1 : w4.cell? ⟨gb247, 1, none⟩ = some (.slice A0_1 l0_1.length c0_1) := (blk_cell BK247.out 1).trans rfl
    have hfz8_0 := blk_frozen BK247.out 0
    have hfz8_1 := blk_frozen BK247.out 1
    go_wp2_with (first | ((with_reducible refine gate_callee (f := 71) rfl ?_); refine goesL_ (some 10) rfl rfl Try.func71 (by kernel_rfl) rfl #[.agg #[.int .i64 a0_0, .slice A0_1 l0_1.length c0_1]] rfl (by (try simp only [List.map_toArray, List.map_cons, List.map_nil]); first | done | rfl | (simp only [List.length_drop, List.length_take]; rfl)) ?_; (with_reducible refine (impl_IsHyper.calls k a0_0 _ _ l0_1 true _ ?side1 ?side2 A5.out).mono ?_); (case side1 => repeat (first | exact (Kd.C_below HR0_1.out HB.out) | (with_reducible refine Kd.C_alloc ?_ _) | (with_reducible refine Kd.C_drewN ?_ _) | (with_reducible refine Kd.C_drew ?_))); (case side2 => exact HC0_1.out); rintro e w9 ⟨rfl, hb⟩; refine ⟨_, rfl, ?_⟩; have n0_ := Aside0.mk (blk_below (g := gb247) (o := .cells #[.int .i64 a0_0, .slice A0_1 l0_1.length c0_1] 29 (0, 0)) (by (with_reducible repeat (first | refine blk_drewN ?_ _ | refine blk_drew ?_ | refine blk_alloc ?_ _)); exact BK247.out) hb); have n1_ := Aside0.mk (below_step (by repeat (first | (with_reducible first | exact HB.out | apply below_alloc | apply pw_below_drewN | apply below_drew1 | refine below_set ?_ GE247.out) | exact HB.out)) hb); clear BK247; clear HB; have BK247 := n0_; have HB := n1_; clear n0_ n1_; (try clear hb); (try clear hb2); (try clear hk); (try clear hi); have hcz10_0 : w9.cell? ⟨gb247, 0, none⟩ = some (.int .i64 a0_0) := (blk_cell BK247.out 0).trans rfl; have hcz10_1 : w9.cell? ⟨gb247, 1, none⟩ = some (.slice A0_1 l0_1.length c0_1) := (blk_cell BK247.out 1).trans rfl; have hfz10_0 := blk_frozen BK247.out 0; have hfz10_1 := blk_frozen BK247.out 1) | (go_at_call 76; (with_reducible refine (impl_in.calls a1 0 (wrap64 (a0_0 - 1)) t249 _ A7.out).mono ?_); rintro e w' ⟨rfl, ⟨nd, rfl⟩⟩))
    go_meet
    case rel => exact ⟨_, (!t249), (by first | rfl | (simp; done) | (simp [*]; done)), H', ⟨by first | omega | exact Nat.le_refl _⟩, ⟨by (with_reducible repeat (first | refine blk_drewN ?_ _ | refine blk_drew ?_ | refine blk_alloc ?_ _)); exact BK247.out⟩, ⟨by repeat (first | (with_reducible first | exact HB.out | apply below_alloc | apply pw_below_drewN | apply below_drew1 | refine below_set ?_ GE247.out) | exact HB.out)⟩⟩
   ·replace c6 := Bool.eq_false_iff.mpr c6
    subst c6
    have H1 : (impl_EdgesAt.j0 k a1 true a0_0 l0_1) = some (r1, r2) := by rw [if_neg (show ¬ (false = true) by decide)] at H; exact H
    clear H
    have H := H1
    clear H1
    have H' := Aside0.mk H
    clear H
    have hcz11_0 : w4.cell? ⟨gb247, 0, none⟩ = some (.int .i64 a0_0) := (blk_cell BK247.out 0).trans rfl
    have hcz11_1 : w4.cell? ⟨gb247, 1, none⟩ = some (.slice A0_1 l0_1.length c0_1) := (blk_cell BK247.out 1).trans rfl
    have hfz11_0 := blk_frozen BK247.out 0
    have hfz11_1 := blk_frozen BK247.out 1
    go_wp2_with (first | ((with_reducible refine gate_callee (f := 71) rfl ?_); refine goesL_ (some 10) rfl rfl Try.func71 (by kernel_rfl) rfl #[.agg #[.int .i64 a0_0, .slice A0_1 l0_1.length c0_1]] rfl (by (try simp only [List.map_toArray, List.map_cons, List.map_nil]); first | done | rfl | (simp only [List.length_drop, List.length_take]; rfl)) ?_; (with_reducible refine (impl_IsHyper.calls k a0_0 _ _ l0_1 false _ ?side1 ?side2 A5.out).mono ?_); (case side1 => repeat (first | exact (Kd.C_below HR0_1.out HB.out) | (with_reducible refine Kd.C_alloc ?_ _) | (with_reducible refine Kd.C_drewN ?_ _) | (with_reducible refine Kd.C_drew ?_))); (case side2 => exact HC0_1.out); rintro e w12 ⟨rfl, hb⟩; refine ⟨_, rfl, ?_⟩; have n0_ := Aside0.mk (blk_below (g := gb247) (o := .cells #[.int .i64 a0_0, .slice A0_1 l0_1.length c0_1] 29 (0, 0)) (by (with_reducible repeat (first | refine blk_drewN ?_ _ | refine blk_drew ?_ | refine blk_alloc ?_ _)); exact BK247.out) hb); have n1_ := Aside0.mk (below_step (by repeat (first | (with_reducible first | exact HB.out | apply below_alloc | apply pw_below_drewN | apply below_drew1 | refine below_set ?_ GE247.out) | exact HB.out)) hb); clear BK247; clear HB; have BK247 := n0_; have HB := n1_; clear n0_ n1_; (try clear hb); (try clear hb2); (try clear hk); (try clear hi)))
    go_meet
    case rel => exact ⟨_, (true), (by first | rfl | (simp; done) | (simp [*]; done)), H', ⟨by first | omega | exact Nat.le_refl _⟩, ⟨by (with_reducible repeat (first | refine blk_drewN ?_ _ | refine blk_drew ?_ | refine blk_alloc ?_ _)); exact BK247.out⟩, ⟨by repeat (first | (with_reducible first | exact HB.out | apply below_alloc | apply pw_below_drewN | apply below_drew1 | refine below_set ?_ GE247.out) | exact HB.out)⟩⟩
  case rest =>
   clear HC3
   try clear c2
   try clear p2
   try clear c6
   try clear p6
   try clear c7
   try clear hcz10_0
   try clear hcz10_1
   try clear hcz11_0
   try clear hcz11_1
   try clear hcz8_0
   try clear hcz8_1
   try clear hfz10_0
   try clear hfz10_1
   try clear hfz11_0
   try clear hfz11_1
   try clear hfz8_0
   try clear hfz8_1
   obtain ⟨kq, x19_2, rfl, HA, HJ2, BK247, HB⟩ := hcut
   cases kq with
   | zero => exact absurd HA.out (by simp [impl_EdgesAt.j0])
   | succ kj2 =>
    have H := HA.out
    clear HA
    simp only [impl_EdgesAt.j0] at H
    by_cases c13 : x19_2 = true
    ·subst c13
     have H1 : (some (([] : List Int), false)) = some (r1, r2) := by rw [if_pos rfl] at H; exact H
     clear H
     have H := H1
     clear H1
     simp only [Option.some.injEq, Prod.mk.injEq] at H
     obtain ⟨rfl, rfl⟩ := H
     go_wp2
     go_ret2
     exact ⟨_, by first | rfl | (simp [errW_none, errW_some] <;> rfl) | (simp [*, errW_none, errW_some] <;> rfl), by first | exact Kd.R_nil _ _ _ _ _ | exact Kd.N_nil _ _ _ _ _ | exact Kd.V_nil _ _ _ _ _ | exact Kd.Q_nil _ _ _ _ _ | exact Kd.S_nil _ _ _ _ _, by repeat (first | (with_reducible first | exact HB.out | apply below_alloc | apply pw_below_drewN | apply below_drew1 | refine below_set ?_ GE247.out) | exact HB.out)⟩
    ·replace c13 := Bool.eq_false_iff.mpr c13
     subst c13
     have H1 : (impl_EdgesAt.l0 kj2 a1 (([] : List Int)) l0_1 (l0_1.length : Int) 0) = some (r1, r2) := by rw [if_neg (show ¬ (false = true) by decide)] at H; exact H
     clear H
     have H := H1
     clear H1
     obtain ⟨y250, hy250⟩ : ∃ y_ : List Int, y_ = (([] : List Int)) := ⟨_, rfl⟩
     replace H : (impl_EdgesAt.l0 kj2 a1 y250 l0_1 (l0_1.length : Int) 0) = some (r1, r2) := by first | (rw [hy250]; with_reducible exact H) | (have H2_ := (Option.bind_some _ _).symm.trans H; rw [hy250]; with_reducible exact H2_) | (have H2_ := (Option.bind_some _ _).symm.trans H; with_reducible exact H2_) | with_reducible exact H | (rw [hy250]; exact H) | exact H
     have Ny250 := Aside0.mk hy250
     clear hy250
     have H' := Aside0.mk H
     clear H
     go_wp2_with (first | ((with_reducible refine gate_dst (N := 20) rfl ?_); refine Kd.R_lit (Kd.int .i64) _ 3 ?hg (N := 20) ?hd (xs := ([] : List Int)) (inner := []) (ok := fun _ => True) (okp := fun _ => True) ?hr ?hp (fun _ hk => hk) trivial (Below.refl _ _) (Nat.le_refl _) (by simp) ?_; (case hd => rfl); (case hg => rfl); (case hr => first | (go_simp; done) | (go_simp; rfl)); (case hp => exact (Reps.none _ _)); intro v251 w14 ho15 hb hg_ hnew_; clear hg_ hnew_; (first | rw [← Ny250.out] at ho15 | (simp only [Int.reduceToNat] at ho15; rw [← Ny250.out] at ho15)); have n0_ := Aside0.mk (Kd.R_lower ho15 (below_size (by repeat (first | (with_reducible first | exact HB.out | apply below_alloc | apply pw_below_drewN | apply below_drew1 | refine below_set ?_ GE247.out) | exact HB.out)))); have n1_ := Aside0.mk (blk_below (g := gb247) (o := .cells #[.int .i64 a0_0, .slice A0_1 l0_1.length c0_1] 29 (0, 0)) (by (with_reducible repeat (first | refine blk_drewN ?_ _ | refine blk_drew ?_ | refine blk_alloc ?_ _)); exact BK247.out) hb); have n2_ := Aside0.mk (below_step (by repeat (first | (with_reducible first | exact HB.out | apply below_alloc | apply pw_below_drewN | apply below_drew1 | refine below_set ?_ GE247.out) | exact HB.out)) hb); clear BK247; clear HB; have HO252 := n0_; have BK247 := n1_; have HB := n2_; clear n0_ n1_ n2_; clear hb ho15; have hcz16_0 : w14.cell? ⟨gb247, 0, none⟩ = some (.int .i64 a0_0) := (blk_cell BK247.out 0).trans rfl; have hcz16_1 : w14.cell? ⟨gb247, 1, none⟩ = some (.slice A0_1 l0_1.length c0_1) := (blk_cell BK247.out 1).trans rfl; have hfz16_0 := blk_frozen BK247.out 0; have hfz16_1 := blk_frozen BK247.out 1))
     go_loopg [6, 24] kj2 (fun kq v6 v24 w' => ∃ (x6_2 : List Int) (x24_2 : Int), v24 = .int .i64 x24_2 ∧ Aside0 (impl_EdgesAt.l0 kq a1 x6_2 l0_1 (l0_1.length : Int) x24_2 = some (r1, r2)) ∧ Aside0 (kq ≤ kj2) ∧ Aside0 (Kd.R (Kd.int .i64) 3 w' w.heap.size (fun _ => True) v6 x6_2) ∧ Aside0 (w'.heap[gb247]? = some (.cells #[.int .i64 a0_0, (.slice A0_1 l0_1.length c0_1)] 29 (0, 0))) ∧ Aside0 (Below w.heap.size w w'))
     case atStart => exact ⟨(y250), (0), (by first | rfl | (simp; done) | (simp [*]; done)), H', ⟨Nat.le_refl _⟩, ⟨by (with_reducible repeat (first | apply Kd.R_alloc | apply Kd.R_drewN | apply Kd.R_drew)); exact HO252.out⟩, ⟨by (with_reducible repeat (first | refine blk_drewN ?_ _ | refine blk_drew ?_ | refine blk_alloc ?_ _)); exact BK247.out⟩, ⟨by repeat (first | (with_reducible first | exact HB.out | apply below_alloc | apply pw_below_drewN | apply below_drew1 | refine below_set ?_ GE247.out) | exact HB.out)⟩⟩
     case round =>
      clear H'
      try clear c1
      try clear c2
      try clear p2
      try clear c6
      try clear p6
      try clear c7
      try clear c13
      try clear hcz10_0
      try clear hcz10_1
      try clear hcz11_0
      try clear hcz11_1
      try clear hcz16_0
      try clear hcz16_1
      try clear hcz8_0
      try clear hcz8_1
      try clear hfz10_0
      try clear hfz10_1
      try clear hfz11_0
      try clear hfz11_1
      try clear hfz16_0
      try clear hfz16_1
      try clear hfz8_0
      try clear hfz8_1
      try clear p2
      try clear p6
      obtain ⟨x6_2, x24_2, rfl, HA, HK2, HO_6, BK247, HB⟩ := hrel
      cases gk with
      | zero => exact absurd HA.out (by simp [impl_EdgesAt.l0])
      | succ k2 =>
       have H := HA.out
       clear HA
       simp only [impl_EdgesAt.l0] at H
       by_cases c17 : x24_2 < (l0_1.length : Int)
       ·rw [if_pos c17] at H
        have c17b0 : decide (x24_2 < (l0_1.length : Int)) = true := decide_eq_true c17
        clear c17
        by_cases c18 : 0 ≤ x24_2
        ·rw [if_pos c18] at H
         have c18b0 : decide (0 ≤ x24_2) = true := decide_eq_true c18
         clear c18
         by_cases c19 : x24_2 < (l0_1.length : Int)
         ·rw [if_pos c19] at H
          have c19b0 : decide (x24_2 < (l0_1.length : Int)) = true := decide_eq_true c19
          clear c19
          replace H := Option.bind_eq_some_iff.mp H
          obtain ⟨t254, A200, H⟩ := H
          replace H : (if t254 = true then (if x6_2.length < 17592186044416 then (impl_EdgesAt.l0 k2 a1 (x6_2 ++ [x24_2]) l0_1 (l0_1.length : Int) (wrap64 (x24_2 + 1))) else (none)) else (impl_EdgesAt.l0 k2 a1 x6_2 l0_1 (l0_1.length : Int) (wrap64 (x24_2 + 1)))) = some (r1, r2) := H
          have A20 := Aside0.mk A200
          clear A200
          by_cases c21 : t254 = true
          ·subst c21
           have H1 : (if x6_2.length < 17592186044416 then (impl_EdgesAt.l0 k2 a1 (x6_2 ++ [x24_2]) l0_1 (l0_1.length : Int) (wrap64 (x24_2 + 1))) else (none)) = some (r1, r2) := by rw [if_pos rfl] at H; exact H
           clear H
           have H := H1
           clear H1
           by_cases c22 : x6_2.length < 17592186044416
           ·rw [if_pos c22] at H
            have LMc22 := Aside0.mk c22
            clear c22
            obtain ⟨y255, hy255⟩ : ∃ y_ : List Int, y_ = (x6_2 ++ [x24_2]) := ⟨_, rfl⟩
            replace H : (impl_EdgesAt.l0 k2 a1 y255 l0_1 (l0_1.length : Int) (wrap64 (x24_2 + 1))) = some (r1, r2) := by first | (rw [hy255]; with_reducible exact H) | (have H2_ := (Option.bind_some _ _).symm.trans H; rw [hy255]; with_reducible exact H2_) | (have H2_ := (Option.bind_some _ _).symm.trans H; with_reducible exact H2_) | with_reducible exact H | (rw [hy255]; exact H) | exact H
            have Ny255 := Aside0.mk hy255
            clear hy255
            have H' := Aside0.mk H
            clear H
            have p253 : 0 ≤ (x24_2 : Int) := of_decide_eq_true (by first | (with_reducible assumption) | assumption)
            have q253 : x24_2 < (l0_1.length : Int) := of_decide_eq_true (by first | (with_reducible assumption) | assumption)
            obtain ⟨ad253, A253_0, c253_0, e253, hx253_0, hl253_0, hi253_0⟩ := at_L1 HR0_1.out x24_2 p253 q253
            cases e253
            replace hx253_0 := (HB.out.cell (World.block_lt_of_cell? w _ hx253_0)).trans hx253_0
            have HR253_0 := Aside0.mk hi253_0
            have HC253_0 := Aside0.mk hl253_0
            clear hi253_0 hl253_0
            replace p253 := eq_true p253
            replace q253 := eq_true q253
            go_wp2_with (first | ((with_reducible refine gate_callee (f := 77) rfl ?_); refine goesL_ (some 31) rfl rfl Try.func77 (by kernel_rfl) rfl #[.slice A253_0 (rd_L1 l0_1 x24_2).length c253_0, .int .i64 a1] rfl (by (try simp only [List.map_toArray, List.map_cons, List.map_nil]); first | done | rfl | (simp only [List.length_drop, List.length_take]; rfl)) ?_; (with_reducible refine (slices_Contains_int_int.calls k2 _ _ (rd_L1 l0_1 x24_2) a1 true _ ?side1 ?side2 A20.out).mono ?_); (case side1 => repeat (first | exact (Kd.C_below HR253_0.out HB.out) | (with_reducible refine Kd.C_alloc ?_ _) | (with_reducible refine Kd.C_drewN ?_ _) | (with_reducible refine Kd.C_drew ?_))); (case side2 => exact HC253_0.out); rintro e w' ⟨rfl, ⟨nd, rfl⟩⟩; refine ⟨_, rfl, ?_⟩) | ((with_reducible refine gate_builtin (b := .append) (xs := #[.tmp 32, .tmp 34]) rfl ?_); at_builtin; refine Kd.R_append (Kd.int .i64) (w0 := w) w.heap.size rfl (.tmp 32) (.tmp 34) 26 3 (.int .i64 0) 8 rfl Try.underlying26 info3 rfl (by decide) (by omega) u6 x6_2 x24_2 [.int .i64 x24_2] (fun _ => True) (fun _ => False) rfl rfl ?aP (fun _ hk => hk.elim) ?aF ?aO ?aB ?aS ?aL ?_; (case aP => exact rfl); (case aB => exact (by repeat (first | (with_reducible first | exact HB.out | apply below_alloc | apply pw_below_drewN | apply below_drew1 | refine below_set ?_ GE247.out) | exact HB.out))); (case aF => exact (fun _ _ => trivial)); (case aO => exact (by (with_reducible repeat (first | apply Kd.R_alloc | apply Kd.R_drewN | apply Kd.R_drew)); exact HO_6.out)); (case aS => exact (below_size (by repeat (first | (with_reducible first | exact HB.out | apply below_alloc | apply pw_below_drewN | apply below_drew1 | refine below_set ?_ GE247.out) | exact HB.out)))); (case aL => have := LMc22.out; omega); intro v256 w23 ho hb hg hat; rw [← Ny255.out] at ho; have n0_ := Aside0.mk (blk_grown (g := gb247) (o := .cells #[.int .i64 a0_0, .slice (some ad253) l0_1.length c0_1] 29 (0, 0)) (by (with_reducible repeat (first | refine blk_drewN ?_ _ | refine blk_drew ?_ | refine blk_alloc ?_ _)); exact BK247.out) hg (Kd.R_ne HO_6.out BK247.out (by decide))); have n1_ := Aside0.mk (hb); have n2_ := Aside0.mk (ho); clear BK247; clear HB; clear HO_6; have BK247 := n0_; have HB := n1_; have HO257 := n2_; clear n0_ n1_ n2_; clear ho hb hg hat))
            go_roundg k2
            case measure => have := HJ2.out; have := HK2.out; omega
            case rel => exact ⟨(y255), (wrap64 (x24_2 + 1)), (by first | rfl | (simp; done) | (simp [*]; done)), H', ⟨by have := HJ2.out; have := HK2.out; omega⟩, ⟨by (with_reducible repeat (first | apply Kd.R_alloc | apply Kd.R_drewN | apply Kd.R_drew)); exact HO257.out⟩, ⟨by (with_reducible repeat (first | refine blk_drewN ?_ _ | refine blk_drew ?_ | refine blk_alloc ?_ _)); exact BK247.out⟩, ⟨by repeat (first | (with_reducible first | exact HB.out | apply below_alloc | apply pw_below_drewN | apply below_drew1 | refine below_set ?_ GE247.out) | exact HB.out)⟩⟩
           ·rw [if_neg c22] at H
            exact absurd H (by simp)
          ·replace c21 := Bool.eq_false_iff.mpr c21
           subst c21
           have H1 : (impl_EdgesAt.l0 k2 a1 x6_2 l0_1 (l0_1.length : Int) (wrap64 (x24_2 + 1))) = some (r1, r2) := by rw [if_neg (show ¬ (false = true) by decide)] at H; exact H
           clear H
           have H := H1
           clear H1
           have H' := Aside0.mk H
           clear H
           have p253 : 0 ≤ (x24_2 : Int) := of_decide_eq_true (by first | (with_reducible assumption) | assumption)
           have q253 : x24_2 < (l0_1.length : Int) := of_decide_eq_true (by first | (with_reducible assumption) | assumption)
           obtain ⟨ad253, A253_0, c253_0, e253, hx253_0, hl253_0, hi253_0⟩ := at_L1 HR0_1.out x24_2 p253 q253
           cases e253
           replace hx253_0 := (HB.out.cell (World.block_lt_of_cell? w _ hx253_0)).trans hx253_0
           have HR253_0 := Aside0.mk hi253_0
           have HC253_0 := Aside0.mk hl253_0
           clear hi253_0 hl253_0
           replace p253 := eq_true p253
           replace q253 := eq_true q253
           go_wp2_with (first | ((with_reducible refine gate_callee (f := 77) rfl ?_); refine goesL_ (some 31) rfl rfl Try.func77 (by kernel_rfl) rfl #[.slice A253_0 (rd_L1 l0_1 x24_2).length c253_0, .int .i64 a1] rfl (by (try simp only [List.map_toArray, List.map_cons, List.map_nil]); first | done | rfl | (simp only [List.length_drop, List.length_take]; rfl)) ?_; (with_reducible refine (slices_Contains_int_int.calls k2 _ _ (rd_L1 l0_1 x24_2) a1 false _ ?side1 ?side2 A20.out).mono ?_); (case side1 => repeat (first | exact (Kd.C_below HR253_0.out HB.out) | (with_reducible refine Kd.C_alloc ?_ _) | (with_reducible refine Kd.C_drewN ?_ _) | (with_reducible refine Kd.C_drew ?_))); (case side2 => exact HC253_0.out); rintro e w' ⟨rfl, ⟨nd, rfl⟩⟩; refine ⟨_, rfl, ?_⟩))
           go_roundg k2
           case measure => have := HJ2.out; have := HK2.out; omega
           case rel => exact ⟨(x6_2), (wrap64 (x24_2 + 1)), (by first | rfl | (simp; done) | (simp [*]; done)), H', ⟨by have := HJ2.out; have := HK2.out; omega⟩, ⟨by (with_reducible repeat (first | apply Kd.R_alloc | apply Kd.R_drewN | apply Kd.R_drew)); exact HO_6.out⟩, ⟨by (with_reducible repeat (first | refine blk_drewN ?_ _ | refine blk_drew ?_ | refine blk_alloc ?_ _)); exact BK247.out⟩, ⟨by repeat (first | (with_reducible first | exact HB.out | apply below_alloc | apply pw_below_drewN | apply below_drew1 | refine below_set ?_ GE247.out) | exact HB.out)⟩⟩
         ·rw [if_neg c19] at H
          exact absurd H (by simp)
        ·rw [if_neg c18] at H
         exact absurd H (by simp)
       ·rw [if_neg c17] at H
        have c17b0 : decide (x24_2 < (l0_1.length : Int)) = false := decide_eq_false c17
        clear c17
        simp only [Option.some.injEq, Prod.mk.injEq] at H
        obtain ⟨rfl, rfl⟩ := H
        go_wp2
        go_ret2
        exact ⟨_, by first | rfl | (simp [errW_none, errW_some] <;> rfl) | (simp [*, errW_none, errW_some] <;> rfl), by (with_reducible repeat (first | apply Kd.R_alloc | apply Kd.R_drewN | apply Kd.R_drew)); exact HO_6.out, by repeat (first | (with_reducible first | exact HB.out | apply below_alloc | apply pw_below_drewN | apply below_drew1 | refine below_set ?_ GE247.out) | exact HB.out)⟩
/-! ### laws_FnExactEdgesAt: function 4 -/
def laws_FnExactEdgesAt.f (k : Nat) (a0_0 : Int) (l0_1 : List (List Int)) (a1 : Int) : Option (Bool) := (laws_szHyper.f k a0_0 l0_1 1048576).bind fun t259 => (if t259 < 0 then (some true) else ((laws_toHyper.f k a0_0 l0_1).bind fun bt260 => ((spec_EdgesAt.f k bt260.1 bt260.2 a1).bind fun bt264 => ((laws_toHyper.f k a0_0 l0_1).bind fun bt268 => ((impl_EdgesAt.f k bt268.1 bt268.2 a1).bind fun bt273 => ((laws_eqIntS.f k bt273.1 bt264.1).bind fun t277 => (if t277 = true then (if (bt273.2 != bt264.2) = true then (none) else ((laws_toHyper.f k a0_0 l0_1).bind fun bt278 => ((laws_eqHyper.f k bt268.1 bt268.2 bt278.1 bt278.2).bind fun t282 => (if t282 = true then ((laws_markHyper.f k bt268.1 bt268.2 1).bind fun bt283 => (if bt283.1 < 0 then (none) else ((laws_eqIntS.f k bt273.1 bt264.1).bind fun t285 => (if t285 = true then ((laws_markIntS.f k bt273.1 1).bind fun bt286 => ((laws_heldIntS.f k bt286.2 1).bind fun t288 => (if t288 < 0 then (none) else (if t288 = bt286.1 then ((laws_toHyper.f k a0_0 l0_1).bind fun bt289 => ((impl_EdgesAt.f k bt289.1 bt289.2 a1).bind fun bt293 => ((laws_eqIntS.f k bt293.1 bt264.1).bind fun t297 => (if t297 = true then (if (bt293.2 != bt264.2) = true then (none) else ((laws_heldIntS.f k bt286.2 1).bind fun t298 => (if t298 < 0 then (none) else (if t298 = bt286.1 then (some true) else (none))))) else (none))))) else (none))))) else (none))))) else (none))))) else (none))))))))
theorem laws_FnExactEdgesAt.mono : ∀ a0 a1 a2 k, LeO (laws_FnExactEdgesAt.f k a0 a1 a2) (laws_FnExactEdgesAt.f (k + 1) a0 a1 a2) := by
  intro a0 a1 a2 k
  unfold laws_FnExactEdgesAt.f
  repeat' first
      | (with_reducible exact impl_EdgesAt.mono _ _ _ _)
      | (with_reducible exact laws_eqHyper.mono _ _ _ _ _)
      | (with_reducible exact laws_eqIntS.mono _ _ _)
      | (with_reducible exact laws_heldIntS.mono _ _ _)
      | (with_reducible exact laws_markHyper.mono _ _ _ _)
      | (with_reducible exact laws_markIntS.mono _ _ _)
      | (with_reducible exact laws_szHyper.mono _ _ _ _)
      | (with_reducible exact laws_toHyper.mono _ _ _)
      | (with_reducible exact spec_EdgesAt.mono _ _ _ _)
      | (with_reducible exact LeO.refl _)
      | (with_reducible exact LeO.none _)
      | (with_reducible refine LeO.ite ?_ ?_)
      | (with_reducible refine LeO.bind ?_ (fun _ => ?_))
      | exact impl_EdgesAt.mono _ _ _ _
      | exact laws_eqHyper.mono _ _ _ _ _
      | exact laws_eqIntS.mono _ _ _
      | exact laws_heldIntS.mono _ _ _
      | exact laws_markHyper.mono _ _ _ _
      | exact laws_markIntS.mono _ _ _
      | exact laws_szHyper.mono _ _ _ _
      | exact laws_toHyper.mono _ _ _
      | exact spec_EdgesAt.mono _ _ _ _
      | exact LeO.none _
      | refine LeO.ite ?_ ?_
      | refine LeO.bind ?_ (fun _ => ?_)
noncomputable def laws_FnExactEdgesAt.F (a0_0 : Int) (l0_1 : List (List Int)) (a1 : Int) : Option (Bool) := lim fun k => laws_FnExactEdgesAt.f k a0_0 l0_1 a1
theorem laws_FnExactEdgesAt.F_sup (a0_0 : Int) (l0_1 : List (List Int)) (a1 : Int) : Sup (fun k => laws_FnExactEdgesAt.f k a0_0 l0_1 a1) (laws_FnExactEdgesAt.F a0_0 l0_1 a1) := Sup.of_mono fun k => laws_FnExactEdgesAt.mono a0_0 l0_1 a1 k
theorem laws_FnExactEdgesAt.F_eq (a0_0 : Int) (l0_1 : List (List Int)) (a1 : Int) : laws_FnExactEdgesAt.F a0_0 l0_1 a1 = (laws_szHyper.F a0_0 l0_1 1048576).bind fun t259 => (if t259 < 0 then (some true) else ((laws_toHyper.F a0_0 l0_1).bind fun bt260 => ((spec_EdgesAt.F bt260.1 bt260.2 a1).bind fun bt264 => ((laws_toHyper.F a0_0 l0_1).bind fun bt268 => ((impl_EdgesAt.F bt268.1 bt268.2 a1).bind fun bt273 => ((laws_eqIntS.F bt273.1 bt264.1).bind fun t277 => (if t277 = true then (if (bt273.2 != bt264.2) = true then (none) else ((laws_toHyper.F a0_0 l0_1).bind fun bt278 => ((laws_eqHyper.F bt268.1 bt268.2 bt278.1 bt278.2).bind fun t282 => (if t282 = true then ((laws_markHyper.F bt268.1 bt268.2 1).bind fun bt283 => (if bt283.1 < 0 then (none) else ((laws_eqIntS.F bt273.1 bt264.1).bind fun t285 => (if t285 = true then ((laws_markIntS.F bt273.1 1).bind fun bt286 => ((laws_heldIntS.F bt286.2 1).bind fun t288 => (if t288 < 0 then (none) else (if t288 = bt286.1 then ((laws_toHyper.F a0_0 l0_1).bind fun bt289 => ((impl_EdgesAt.F bt289.1 bt289.2 a1).bind fun bt293 => ((laws_eqIntS.F bt293.1 bt264.1).bind fun t297 => (if t297 = true then (if (bt293.2 != bt264.2) = true then (none) else ((laws_heldIntS.F bt286.2 1).bind fun t298 => (if t298 < 0 then (none) else (if t298 = bt286.1 then (some true) else (none))))) else (none))))) else (none))))) else (none))))) else (none))))) else (none)))))))) := by
  refine Sup.unique (laws_FnExactEdgesAt.F_sup a0_0 l0_1 a1) (Sup.congr (g' := fun k => (laws_szHyper.f k a0_0 l0_1 1048576).bind fun t259 => (if t259 < 0 then (some true) else ((laws_toHyper.f k a0_0 l0_1).bind fun bt260 => ((spec_EdgesAt.f k bt260.1 bt260.2 a1).bind fun bt264 => ((laws_toHyper.f k a0_0 l0_1).bind fun bt268 => ((impl_EdgesAt.f k bt268.1 bt268.2 a1).bind fun bt273 => ((laws_eqIntS.f k bt273.1 bt264.1).bind fun t277 => (if t277 = true then (if (bt273.2 != bt264.2) = true then (none) else ((laws_toHyper.f k a0_0 l0_1).bind fun bt278 => ((laws_eqHyper.f k bt268.1 bt268.2 bt278.1 bt278.2).bind fun t282 => (if t282 = true then ((laws_markHyper.f k bt268.1 bt268.2 1).bind fun bt283 => (if bt283.1 < 0 then (none) else ((laws_eqIntS.f k bt273.1 bt264.1).bind fun t285 => (if t285 = true then ((laws_markIntS.f k bt273.1 1).bind fun bt286 => ((laws_heldIntS.f k bt286.2 1).bind fun t288 => (if t288 < 0 then (none) else (if t288 = bt286.1 then ((laws_toHyper.f k a0_0 l0_1).bind fun bt289 => ((impl_EdgesAt.f k bt289.1 bt289.2 a1).bind fun bt293 => ((laws_eqIntS.f k bt293.1 bt264.1).bind fun t297 => (if t297 = true then (if (bt293.2 != bt264.2) = true then (none) else ((laws_heldIntS.f k bt286.2 1).bind fun t298 => (if t298 < 0 then (none) else (if t298 = bt286.1 then (some true) else (none))))) else (none))))) else (none))))) else (none))))) else (none))))) else (none))))))))) (fun k => by first | rfl | simp only [laws_FnExactEdgesAt.f]) ?_)
  repeat' first
    | (with_reducible exact laws_szHyper.F_sup _ _ _)
    | (with_reducible exact laws_toHyper.F_sup _ _)
    | (with_reducible exact laws_eqIntS.F_sup _ _)
    | (with_reducible exact laws_eqHyper.F_sup _ _ _ _)
    | (with_reducible exact laws_markHyper.F_sup _ _ _)
    | (with_reducible exact laws_markIntS.F_sup _ _)
    | (with_reducible exact laws_heldIntS.F_sup _ _)
    | (with_reducible exact spec_EdgesAt.F_sup _ _ _)
    | (with_reducible exact impl_EdgesAt.F_sup _ _ _)
    | (with_reducible refine Sup.ite ?_ ?_)
    | (with_reducible refine Sup.bind ?_ (fun _ => ?_))
    | (with_reducible exact Sup.const _)
    | exact laws_szHyper.F_sup _ _ _
    | exact laws_toHyper.F_sup _ _
    | exact laws_eqIntS.F_sup _ _
    | exact laws_eqHyper.F_sup _ _ _ _
    | exact laws_markHyper.F_sup _ _ _
    | exact laws_markIntS.F_sup _ _
    | exact laws_heldIntS.F_sup _ _
    | exact spec_EdgesAt.F_sup _ _ _
    | exact impl_EdgesAt.F_sup _ _ _
    | exact Sup.const _
set_option maxHeartbeats 8000000 in
set_option maxRecDepth 100000 in
theorem laws_FnExactEdgesAt.calls (k : Nat) (a0_0 : Int) (A0_1 : Option Addr) (c0_1 : Nat) (l0_1 : List (List Int)) (a1 : Int) (r : Bool) (w : World) (hr0_1 : Kd.C (Kd.slice 3 (Kd.int .i64)) w A0_1 l0_1.length l0_1) (hc0_1 : l0_1.length ≤ c0_1) (h : laws_FnExactEdgesAt.f k a0_0 l0_1 a1 = some r) :
    Calls Try.prog 4 #[.agg #[.int .i64 a0_0, .slice A0_1 l0_1.length c0_1], .int .i64 a1] w fun e w' => e = .returned (.bool r) ∧ Below w.heap.size w w' := by
  have hu24 := Try.underlying24
  have hu29 := Try.underlying29
  have HR0_1 := Aside0.mk hr0_1
  have HC0_1 := Aside0.mk hc0_1
  clear hr0_1 hc0_1
  have HB := Aside0.mk (Below.refl w.heap.size w)
  have H : ((laws_szHyper.f k a0_0 l0_1 1048576).bind fun t259 => (if t259 < 0 then (some true) else ((laws_toHyper.f k a0_0 l0_1).bind fun bt260 => ((spec_EdgesAt.f k bt260.1 bt260.2 a1).bind fun bt264 => ((laws_toHyper.f k a0_0 l0_1).bind fun bt268 => ((impl_EdgesAt.f k bt268.1 bt268.2 a1).bind fun bt273 => ((laws_eqIntS.f k bt273.1 bt264.1).bind fun t277 => (if t277 = true then (if (bt273.2 != bt264.2) = true then (none) else ((laws_toHyper.f k a0_0 l0_1).bind fun bt278 => ((laws_eqHyper.f k bt268.1 bt268.2 bt278.1 bt278.2).bind fun t282 => (if t282 = true then ((laws_markHyper.f k bt268.1 bt268.2 1).bind fun bt283 => (if bt283.1 < 0 then (none) else ((laws_eqIntS.f k bt273.1 bt264.1).bind fun t285 => (if t285 = true then ((laws_markIntS.f k bt273.1 1).bind fun bt286 => ((laws_heldIntS.f k bt286.2 1).bind fun t288 => (if t288 < 0 then (none) else (if t288 = bt286.1 then ((laws_toHyper.f k a0_0 l0_1).bind fun bt289 => ((impl_EdgesAt.f k bt289.1 bt289.2 a1).bind fun bt293 => ((laws_eqIntS.f k bt293.1 bt264.1).bind fun t297 => (if t297 = true then (if (bt293.2 != bt264.2) = true then (none) else ((laws_heldIntS.f k bt286.2 1).bind fun t298 => (if t298 < 0 then (none) else (if t298 = bt286.1 then (some true) else (none))))) else (none))))) else (none))))) else (none))))) else (none))))) else (none))))))))) = some r := h
  clear h
  replace H := Option.bind_eq_some_iff.mp H
  obtain ⟨t259, A30, H⟩ := H
  replace H : (if t259 < 0 then (some true) else ((laws_toHyper.f k a0_0 l0_1).bind fun bt260 => ((spec_EdgesAt.f k bt260.1 bt260.2 a1).bind fun bt264 => ((laws_toHyper.f k a0_0 l0_1).bind fun bt268 => ((impl_EdgesAt.f k bt268.1 bt268.2 a1).bind fun bt273 => ((laws_eqIntS.f k bt273.1 bt264.1).bind fun t277 => (if t277 = true then (if (bt273.2 != bt264.2) = true then (none) else ((laws_toHyper.f k a0_0 l0_1).bind fun bt278 => ((laws_eqHyper.f k bt268.1 bt268.2 bt278.1 bt278.2).bind fun t282 => (if t282 = true then ((laws_markHyper.f k bt268.1 bt268.2 1).bind fun bt283 => (if bt283.1 < 0 then (none) else ((laws_eqIntS.f k bt273.1 bt264.1).bind fun t285 => (if t285 = true then ((laws_markIntS.f k bt273.1 1).bind fun bt286 => ((laws_heldIntS.f k bt286.2 1).bind fun t288 => (if t288 < 0 then (none) else (if t288 = bt286.1 then ((laws_toHyper.f k a0_0 l0_1).bind fun bt289 => ((impl_EdgesAt.f k bt289.1 bt289.2 a1).bind fun bt293 => ((laws_eqIntS.f k bt293.1 bt264.1).bind fun t297 => (if t297 = true then (if (bt293.2 != bt264.2) = true then (none) else ((laws_heldIntS.f k bt286.2 1).bind fun t298 => (if t298 < 0 then (none) else (if t298 = bt286.1 then (some true) else (none))))) else (none))))) else (none))))) else (none))))) else (none))))) else (none)))))))) = some r := H
  have A3 := Aside0.mk A30
  clear A30
  by_cases c4 : t259 < 0
  ·rw [if_pos c4] at H
   have c4b0 : decide (t259 < 0) = true := decide_eq_true c4
   clear c4
   obtain rfl := Option.some.inj H
   go_enter Try.func4, Try.ntmps4
   go_wp2_with (first | ((with_reducible refine gate_dst (N := 2) rfl ?_); refine box_event ?hg (N := 2) ?hd (cs := #[.int .i64 a0_0, .slice A0_1 l0_1.length c0_1]) (t := 24) ?hr ?_; (case hd => rfl); (case hg => rfl); (case hr => first | (go_simp; done) | (go_simp; rfl)); intro gb258 hg w5 hbox hb; have n0_ := Aside0.mk (below_step (by repeat (first | (with_reducible first | exact HB.out | apply below_alloc | apply pw_below_drewN | apply below_drew1) | exact HB.out)) hb); have n1_ := Aside0.mk (hbox); have n2_ := Aside0.mk ((by rw [hg]; exact (below_size (by repeat (first | (with_reducible first | exact HB.out | apply below_alloc | apply pw_below_drewN | apply below_drew1) | exact HB.out))) : w.heap.size ≤ gb258)); have n3_ := Aside0.mk ((by rw [hg]; exact (below_size (by repeat (first | (with_reducible first | exact HB.out | apply below_alloc | apply pw_below_drewN | apply below_drew1) | exact HB.out))) : w.heap.size ≤ gb258)); clear HB; have HB := n0_; have BK258 := n1_; have GW258 := n2_; have GE258 := n3_; clear n0_ n1_ n2_ n3_; clear hb hbox hg; have hcz6_0 : w5.cell? ⟨gb258, 0, none⟩ = some (.int .i64 a0_0) := (blk_cell BK258.out 0).trans rfl; have hcz6_1 : w5.cell? ⟨gb258, 1, none⟩ = some (.slice A0_1 l0_1.length c0_1) := (blk_cell BK258.out 1).trans rfl; have hfz6_0 := blk_frozen BK258.out 0; have hfz6_1 := blk_frozen BK258.out 1) | ((with_reducible refine gate_callee (f := 17) rfl ?_); refine goesL_ (some 18) rfl rfl Try.func17 (by kernel_rfl) rfl #[.agg #[.int .i64 a0_0, .slice A0_1 l0_1.length c0_1], .int .i64 1048576] rfl (by (try simp only [List.map_toArray, List.map_cons, List.map_nil]); first | done | rfl | (simp only [List.length_drop, List.length_take]; rfl)) ?_; (with_reducible refine (laws_szHyper.calls k a0_0 _ _ l0_1 1048576 t259 _ ?side1 ?side2 A3.out).mono ?_); (case side1 => repeat (first | exact (Kd.C_below HR0_1.out HB.out) | (with_reducible refine Kd.C_alloc ?_ _) | (with_reducible refine Kd.C_drewN ?_ _) | (with_reducible refine Kd.C_drew ?_))); (case side2 => exact HC0_1.out); rintro e w7 ⟨rfl, hb⟩; refine ⟨_, rfl, ?_⟩; have n0_ := Aside0.mk (blk_below (g := gb258) (o := .cells #[.int .i64 a0_0, .slice A0_1 l0_1.length c0_1] 24 (0, 0)) (by (with_reducible repeat (first | refine blk_drewN ?_ _ | refine blk_drew ?_ | refine blk_alloc ?_ _)); exact BK258.out) hb); have n1_ := Aside0.mk (below_step (by repeat (first | (with_reducible first | exact HB.out | apply below_alloc | apply pw_below_drewN | apply below_drew1 | refine below_set ?_ GE258.out) | exact HB.out)) hb); clear BK258; clear HB; have BK258 := n0_; have HB := n1_; clear n0_ n1_; (try clear hb); (try clear hb2); (try clear hk); (try clear hi)))
   go_ret
   exact ⟨by first | rfl | (simp [errW_none, errW_some] <;> rfl) | (simp [*, errW_none, errW_some] <;> rfl), by repeat (first | (with_reducible first | exact HB.out | apply below_alloc | apply pw_below_drewN | apply below_drew1 | refine below_set ?_ GE258.out) | exact HB.out)⟩
  ·rw [if_neg c4] at H
   have c4b0 : decide (t259 < 0) = false := decide_eq_false c4
   clear c4
   replace H := Option.bind_eq_some_iff.mp H
   obtain ⟨⟨t260, t261⟩, A80, H⟩ := H
   replace H : ((spec_EdgesAt.f k t260 t261 a1).bind fun bt264 => ((laws_toHyper.f k a0_0 l0_1).bind fun bt268 => ((impl_EdgesAt.f k bt268.1 bt268.2 a1).bind fun bt273 => ((laws_eqIntS.f k bt273.1 bt264.1).bind fun t277 => (if t277 = true then (if (bt273.2 != bt264.2) = true then (none) else ((laws_toHyper.f k a0_0 l0_1).bind fun bt278 => ((laws_eqHyper.f k bt268.1 bt268.2 bt278.1 bt278.2).bind fun t282 => (if t282 = true then ((laws_markHyper.f k bt268.1 bt268.2 1).bind fun bt283 => (if bt283.1 < 0 then (none) else ((laws_eqIntS.f k bt273.1 bt264.1).bind fun t285 => (if t285 = true then ((laws_markIntS.f k bt273.1 1).bind fun bt286 => ((laws_heldIntS.f k bt286.2 1).bind fun t288 => (if t288 < 0 then (none) else (if t288 = bt286.1 then ((laws_toHyper.f k a0_0 l0_1).bind fun bt289 => ((impl_EdgesAt.f k bt289.1 bt289.2 a1).bind fun bt293 => ((laws_eqIntS.f k bt293.1 bt264.1).bind fun t297 => (if t297 = true then (if (bt293.2 != bt264.2) = true then (none) else ((laws_heldIntS.f k bt286.2 1).bind fun t298 => (if t298 < 0 then (none) else (if t298 = bt286.1 then (some true) else (none))))) else (none))))) else (none))))) else (none))))) else (none))))) else (none)))))) = some r := H
   have A8 := Aside0.mk A80
   clear A80
   replace H := Option.bind_eq_some_iff.mp H
   obtain ⟨⟨t264, t267⟩, A90, H⟩ := H
   replace H : ((laws_toHyper.f k a0_0 l0_1).bind fun bt268 => ((impl_EdgesAt.f k bt268.1 bt268.2 a1).bind fun bt273 => ((laws_eqIntS.f k bt273.1 t264).bind fun t277 => (if t277 = true then (if (bt273.2 != t267) = true then (none) else ((laws_toHyper.f k a0_0 l0_1).bind fun bt278 => ((laws_eqHyper.f k bt268.1 bt268.2 bt278.1 bt278.2).bind fun t282 => (if t282 = true then ((laws_markHyper.f k bt268.1 bt268.2 1).bind fun bt283 => (if bt283.1 < 0 then (none) else ((laws_eqIntS.f k bt273.1 t264).bind fun t285 => (if t285 = true then ((laws_markIntS.f k bt273.1 1).bind fun bt286 => ((laws_heldIntS.f k bt286.2 1).bind fun t288 => (if t288 < 0 then (none) else (if t288 = bt286.1 then ((laws_toHyper.f k a0_0 l0_1).bind fun bt289 => ((impl_EdgesAt.f k bt289.1 bt289.2 a1).bind fun bt293 => ((laws_eqIntS.f k bt293.1 t264).bind fun t297 => (if t297 = true then (if (bt293.2 != t267) = true then (none) else ((laws_heldIntS.f k bt286.2 1).bind fun t298 => (if t298 < 0 then (none) else (if t298 = bt286.1 then (some true) else (none))))) else (none))))) else (none))))) else (none))))) else (none))))) else (none))))) = some r := H
   have A9 := Aside0.mk A90
   clear A90
   replace H := Option.bind_eq_some_iff.mp H
   obtain ⟨⟨t268, t269⟩, A100, H⟩ := H
   replace H : ((impl_EdgesAt.f k t268 t269 a1).bind fun bt273 => ((laws_eqIntS.f k bt273.1 t264).bind fun t277 => (if t277 = true then (if (bt273.2 != t267) = true then (none) else ((laws_toHyper.f k a0_0 l0_1).bind fun bt278 => ((laws_eqHyper.f k t268 t269 bt278.1 bt278.2).bind fun t282 => (if t282 = true then ((laws_markHyper.f k t268 t269 1).bind fun bt283 => (if bt283.1 < 0 then (none) else ((laws_eqIntS.f k bt273.1 t264).bind fun t285 => (if t285 = true then ((laws_markIntS.f k bt273.1 1).bind fun bt286 => ((laws_heldIntS.f k bt286.2 1).bind fun t288 => (if t288 < 0 then (none) else (if t288 = bt286.1 then ((laws_toHyper.f k a0_0 l0_1).bind fun bt289 => ((impl_EdgesAt.f k bt289.1 bt289.2 a1).bind fun bt293 => ((laws_eqIntS.f k bt293.1 t264).bind fun t297 => (if t297 = true then (if (bt293.2 != t267) = true then (none) else ((laws_heldIntS.f k bt286.2 1).bind fun t298 => (if t298 < 0 then (none) else (if t298 = bt286.1 then (some true) else (none))))) else (none))))) else (none))))) else (none))))) else (none))))) else (none)))) = some r := H
   have A10 := Aside0.mk A100
   clear A100
   replace H := Option.bind_eq_some_iff.mp H
   obtain ⟨⟨t273, t276⟩, A110, H⟩ := H
   replace H : ((laws_eqIntS.f k t273 t264).bind fun t277 => (if t277 = true then (if (t276 != t267) = true then (none) else ((laws_toHyper.f k a0_0 l0_1).bind fun bt278 => ((laws_eqHyper.f k t268 t269 bt278.1 bt278.2).bind fun t282 => (if t282 = true then ((laws_markHyper.f k t268 t269 1).bind fun bt283 => (if bt283.1 < 0 then (none) else ((laws_eqIntS.f k t273 t264).bind fun t285 => (if t285 = true then ((laws_markIntS.f k t273 1).bind fun bt286 => ((laws_heldIntS.f k bt286.2 1).bind fun t288 => (if t288 < 0 then (none) else (if t288 = bt286.1 then ((laws_toHyper.f k a0_0 l0_1).bind fun bt289 => ((impl_EdgesAt.f k bt289.1 bt289.2 a1).bind fun bt293 => ((laws_eqIntS.f k bt293.1 t264).bind fun t297 => (if t297 = true then (if (bt293.2 != t267) = true then (none) else ((laws_heldIntS.f k bt286.2 1).bind fun t298 => (if t298 < 0 then (none) else (if t298 = bt286.1 then (some true) else (none))))) else (none))))) else (none))))) else (none))))) else (none))))) else (none))) = some r := H
   have A11 := Aside0.mk A110
   clear A110
   replace H := Option.bind_eq_some_iff.mp H
   obtain ⟨t277, A120, H⟩ := H
   replace H : (if t277 = true then (if (t276 != t267) = true then (none) else ((laws_toHyper.f k a0_0 l0_1).bind fun bt278 => ((laws_eqHyper.f k t268 t269 bt278.1 bt278.2).bind fun t282 => (if t282 = true then ((laws_markHyper.f k t268 t269 1).bind fun bt283 => (if bt283.1 < 0 then (none) else ((laws_eqIntS.f k t273 t264).bind fun t285 => (if t285 = true then ((laws_markIntS.f k t273 1).bind fun bt286 => ((laws_heldIntS.f k bt286.2 1).bind fun t288 => (if t288 < 0 then (none) else (if t288 = bt286.1 then ((laws_toHyper.f k a0_0 l0_1).bind fun bt289 => ((impl_EdgesAt.f k bt289.1 bt289.2 a1).bind fun bt293 => ((laws_eqIntS.f k bt293.1 t264).bind fun t297 => (if t297 = true then (if (bt293.2 != t267) = true then (none) else ((laws_heldIntS.f k bt286.2 1).bind fun t298 => (if t298 < 0 then (none) else (if t298 = bt286.1 then (some true) else (none))))) else (none))))) else (none))))) else (none))))) else (none))))) else (none)) = some r := H
   have A12 := Aside0.mk A120
   clear A120
   by_cases c13 : t277 = true
   ·subst c13
    have H1 : (if (t276 != t267) = true then (none) else ((laws_toHyper.f k a0_0 l0_1).bind fun bt278 => ((laws_eqHyper.f k t268 t269 bt278.1 bt278.2).bind fun t282 => (if t282 = true then ((laws_markHyper.f k t268 t269 1).bind fun bt283 => (if bt283.1 < 0 then (none) else ((laws_eqIntS.f k t273 t264).bind fun t285 => (if t285 = true then ((laws_markIntS.f k t273 1).bind fun bt286 => ((laws_heldIntS.f k bt286.2 1).bind fun t288 => (if t288 < 0 then (none) else (if t288 = bt286.1 then ((laws_toHyper.f k a0_0 l0_1).bind fun bt289 => ((impl_EdgesAt.f k bt289.1 bt289.2 a1).bind fun bt293 => ((laws_eqIntS.f k bt293.1 t264).bind fun t297 => (if t297 = true then (if (bt293.2 != t267) = true then (none) else ((laws_heldIntS.f k bt286.2 1).bind fun t298 => (if t298 < 0 then (none) else (if t298 = bt286.1 then (some true) else (none))))) else (none))))) else (none))))) else (none))))) else (none))))) = some r := by rw [if_pos rfl] at H; exact H
    clear H
    have H := H1
    clear H1
    by_cases c14 : (t276 != t267) = true
    ·rw [if_pos c14] at H
     exact absurd H (by simp)
    ·rw [if_neg c14] at H
     have c14b0 : (t276 != t267) = false := by simpa using c14
     (try (have c14b1 : decide (t276 = t267) = true := by simpa using c14))
     (try (have c14b2 : (t276 == t267) = true := by simpa using c14))
     clear c14
     replace H := Option.bind_eq_some_iff.mp H
     obtain ⟨⟨t278, t279⟩, A150, H⟩ := H
     replace H : ((laws_eqHyper.f k t268 t269 t278 t279).bind fun t282 => (if t282 = true then ((laws_markHyper.f k t268 t269 1).bind fun bt283 => (if bt283.1 < 0 then (none) else ((laws_eqIntS.f k t273 t264).bind fun t285 => (if t285 = true then ((laws_markIntS.f k t273 1).bind fun bt286 => ((laws_heldIntS.f k bt286.2 1).bind fun t288 => (if t288 < 0 then (none) else (if t288 = bt286.1 then ((laws_toHyper.f k a0_0 l0_1).bind fun bt289 => ((impl_EdgesAt.f k bt289.1 bt289.2 a1).bind fun bt293 => ((laws_eqIntS.f k bt293.1 t264).bind fun t297 => (if t297 = true then (if (bt293.2 != t267) = true then (none) else ((laws_heldIntS.f k bt286.2 1).bind fun t298 => (if t298 < 0 then (none) else (if t298 = bt286.1 then (some true) else (none))))) else (none))))) else (none))))) else (none))))) else (none))) = some r := H
     have A15 := Aside0.mk A150
     clear A150
     replace H := Option.bind_eq_some_iff.mp H
     obtain ⟨t282, A160, H⟩ := H
     replace H : (if t282 = true then ((laws_markHyper.f k t268 t269 1).bind fun bt283 => (if bt283.1 < 0 then (none) else ((laws_eqIntS.f k t273 t264).bind fun t285 => (if t285 = true then ((laws_markIntS.f k t273 1).bind fun bt286 => ((laws_heldIntS.f k bt286.2 1).bind fun t288 => (if t288 < 0 then (none) else (if t288 = bt286.1 then ((laws_toHyper.f k a0_0 l0_1).bind fun bt289 => ((impl_EdgesAt.f k bt289.1 bt289.2 a1).bind fun bt293 => ((laws_eqIntS.f k bt293.1 t264).bind fun t297 => (if t297 = true then (if (bt293.2 != t267) = true then (none) else ((laws_heldIntS.f k bt286.2 1).bind fun t298 => (if t298 < 0 then (none) else (if t298 = bt286.1 then (some true) else (none))))) else (none))))) else (none))))) else (none))))) else (none)) = some r := H
     have A16 := Aside0.mk A160
     clear A160
     by_cases c17 : t282 = true
     ·subst c17
      have H1 : ((laws_markHyper.f k t268 t269 1).bind fun bt283 => (if bt283.1 < 0 then (none) else ((laws_eqIntS.f k t273 t264).bind fun t285 => (if t285 = true then ((laws_markIntS.f k t273 1).bind fun bt286 => ((laws_heldIntS.f k bt286.2 1).bind fun t288 => (if t288 < 0 then (none) else (if t288 = bt286.1 then ((laws_toHyper.f k a0_0 l0_1).bind fun bt289 => ((impl_EdgesAt.f k bt289.1 bt289.2 a1).bind fun bt293 => ((laws_eqIntS.f k bt293.1 t264).bind fun t297 => (if t297 = true then (if (bt293.2 != t267) = true then (none) else ((laws_heldIntS.f k bt286.2 1).bind fun t298 => (if t298 < 0 then (none) else (if t298 = bt286.1 then (some true) else (none))))) else (none))))) else (none))))) else (none))))) = some r := by rw [if_pos rfl] at H; exact H
      clear H
      have H := H1
      clear H1
      replace H := Option.bind_eq_some_iff.mp H
      obtain ⟨⟨t283, t284⟩, A180, H⟩ := H
      replace H : (if t283 < 0 then (none) else ((laws_eqIntS.f k t273 t264).bind fun t285 => (if t285 = true then ((laws_markIntS.f k t273 1).bind fun bt286 => ((laws_heldIntS.f k bt286.2 1).bind fun t288 => (if t288 < 0 then (none) else (if t288 = bt286.1 then ((laws_toHyper.f k a0_0 l0_1).bind fun bt289 => ((impl_EdgesAt.f k bt289.1 bt289.2 a1).bind fun bt293 => ((laws_eqIntS.f k bt293.1 t264).bind fun t297 => (if t297 = true then (if (bt293.2 != t267) = true then (none) else ((laws_heldIntS.f k bt286.2 1).bind fun t298 => (if t298 < 0 then (none) else (if t298 = bt286.1 then (some true) else (none))))) else (none))))) else (none))))) else (none)))) = some r := H
      have A18 := Aside0.mk A180
      clear A180
      by_cases c19 : t283 < 0
      ·rw [if_pos c19] at H
       exact absurd H (by simp)
      ·rw [if_neg c19] at H
       have c19b0 : decide (t283 < 0) = false := decide_eq_false c19
       clear c19
       replace H := Option.bind_eq_some_iff.mp H
       obtain ⟨t285, A200, H⟩ := H
       replace H : (if t285 = true then ((laws_markIntS.f k t273 1).bind fun bt286 => ((laws_heldIntS.f k bt286.2 1).bind fun t288 => (if t288 < 0 then (none) else (if t288 = bt286.1 then ((laws_toHyper.f k a0_0 l0_1).bind fun bt289 => ((impl_EdgesAt.f k bt289.1 bt289.2 a1).bind fun bt293 => ((laws_eqIntS.f k bt293.1 t264).bind fun t297 => (if t297 = true then (if (bt293.2 != t267) = true then (none) else ((laws_heldIntS.f k bt286.2 1).bind fun t298 => (if t298 < 0 then (none) else (if t298 = bt286.1 then (some true) else (none))))) else (none))))) else (none))))) else (none)) = some r := H
       have A20 := Aside0.mk A200
       clear A200
       by_cases c21 : t285 = true
       ·subst c21
        have H1 : ((laws_markIntS.f k t273 1).bind fun bt286 => ((laws_heldIntS.f k bt286.2 1).bind fun t288 => (if t288 < 0 then (none) else (if t288 = bt286.1 then ((laws_toHyper.f k a0_0 l0_1).bind fun bt289 => ((impl_EdgesAt.f k bt289.1 bt289.2 a1).bind fun bt293 => ((laws_eqIntS.f k bt293.1 t264).bind fun t297 => (if t297 = true then (if (bt293.2 != t267) = true then (none) else ((laws_heldIntS.f k bt286.2 1).bind fun t298 => (if t298 < 0 then (none) else (if t298 = bt286.1 then (some true) else (none))))) else (none))))) else (none))))) = some r := by rw [if_pos rfl] at H; exact H
        clear H
        have H := H1
        clear H1
        replace H := Option.bind_eq_some_iff.mp H
        obtain ⟨⟨t286, t287⟩, A220, H⟩ := H
        replace H : ((laws_heldIntS.f k t287 1).bind fun t288 => (if t288 < 0 then (none) else (if t288 = t286 then ((laws_toHyper.f k a0_0 l0_1).bind fun bt289 => ((impl_EdgesAt.f k bt289.1 bt289.2 a1).bind fun bt293 => ((laws_eqIntS.f k bt293.1 t264).bind fun t297 => (if t297 = true then (if (bt293.2 != t267) = true then (none) else ((laws_heldIntS.f k t287 1).bind fun t298 => (if t298 < 0 then (none) else (if t298 = t286 then (some true) else (none))))) else (none))))) else (none)))) = some r := H
        have A22 := Aside0.mk A220
        clear A220
        replace H := Option.bind_eq_some_iff.mp H
        obtain ⟨t288, A230, H⟩ := H
        replace H : (if t288 < 0 then (none) else (if t288 = t286 then ((laws_toHyper.f k a0_0 l0_1).bind fun bt289 => ((impl_EdgesAt.f k bt289.1 bt289.2 a1).bind fun bt293 => ((laws_eqIntS.f k bt293.1 t264).bind fun t297 => (if t297 = true then (if (bt293.2 != t267) = true then (none) else ((laws_heldIntS.f k t287 1).bind fun t298 => (if t298 < 0 then (none) else (if t298 = t286 then (some true) else (none))))) else (none))))) else (none))) = some r := H
        have A23 := Aside0.mk A230
        clear A230
        by_cases c24 : t288 < 0
        ·rw [if_pos c24] at H
         exact absurd H (by simp)
        ·rw [if_neg c24] at H
         have c24b0 : decide (t288 < 0) = false := decide_eq_false c24
         clear c24
         by_cases c25 : t288 = t286
         ·rw [if_pos c25] at H
          have c25b0 : (t288 == t286) = true := beq_iff_eq.mpr c25
          have c25b1 : (t288 != t286) = false := bne_eq_false_iff_eq.mpr c25
          clear c25
          replace H := Option.bind_eq_some_iff.mp H
          obtain ⟨⟨t289, t290⟩, A260, H⟩ := H
          replace H : ((impl_EdgesAt.f k t289 t290 a1).bind fun bt293 => ((laws_eqIntS.f k bt293.1 t264).bind fun t297 => (if t297 = true then (if (bt293.2 != t267) = true then (none) else ((laws_heldIntS.f k t287 1).bind fun t298 => (if t298 < 0 then (none) else (if t298 = t286 then (some true) else (none))))) else (none)))) = some r := H
          have A26 := Aside0.mk A260
          clear A260
          replace H := Option.bind_eq_some_iff.mp H
          obtain ⟨⟨t293, t296⟩, A270, H⟩ := H
          replace H : ((laws_eqIntS.f k t293 t264).bind fun t297 => (if t297 = true then (if (t296 != t267) = true then (none) else ((laws_heldIntS.f k t287 1).bind fun t298 => (if t298 < 0 then (none) else (if t298 = t286 then (some true) else (none))))) else (none))) = some r := H
          have A27 := Aside0.mk A270
          clear A270
          replace H := Option.bind_eq_some_iff.mp H
          obtain ⟨t297, A280, H⟩ := H
          replace H : (if t297 = true then (if (t296 != t267) = true then (none) else ((laws_heldIntS.f k t287 1).bind fun t298 => (if t298 < 0 then (none) else (if t298 = t286 then (some true) else (none))))) else (none)) = some r := H
          have A28 := Aside0.mk A280
          clear A280
          by_cases c29 : t297 = true
          ·subst c29
           have H1 : (if (t296 != t267) = true then (none) else ((laws_heldIntS.f k t287 1).bind fun t298 => (if t298 < 0 then (none) else (if t298 = t286 then (some true) else (none))))) = some r := by rw [if_pos rfl] at H; exact H
           clear H
           have H := H1
           clear H1
           by_cases c30 : (t296 != t267) = true
           ·rw [if_pos c30] at H
            exact absurd H (by simp)
           ·rw [if_neg c30] at H
            have c30b0 : (t296 != t267) = false := by simpa using c30
            (try (have c30b1 : decide (t296 = t267) = true := by simpa using c30))
            (try (have c30b2 : (t296 == t267) = true := by simpa using c30))
            clear c30
            replace H := Option.bind_eq_some_iff.mp H
            obtain ⟨t298, A310, H⟩ := H
            replace H : (if t298 < 0 then (none) else (if t298 = t286 then (some true) else (none))) = some r := H
            have A31 := Aside0.mk A310
            clear A310
            by_cases c32 : t298 < 0
            ·rw [if_pos c32] at H
             exact absurd H (by simp)
            ·rw [if_neg c32] at H
             have c32b0 : decide (t298 < 0) = false := decide_eq_false c32
             clear c32
             by_cases c33 : t298 = t286
             ·rw [if_pos c33] at H
              have c33b0 : (t298 == t286) = true := beq_iff_eq.mpr c33
              have c33b1 : (t298 != t286) = false := bne_eq_false_iff_eq.mpr c33
              clear c33
              obtain rfl := Option.some.inj H
              go_enter Try.func4, Try.ntmps4
              go_wp2_with (first | ((with_reducible refine gate_dst (N := 2) rfl ?_); refine box_event ?hg (N := 2) ?hd (cs := #[.int .i64 a0_0, .slice A0_1 l0_1.length c0_1]) (t := 24) ?hr ?_; (case hd => rfl); (case hg => rfl); (case hr => first | (go_simp; done) | (go_simp; rfl)); intro gb258 hg w34 hbox hb; have n0_ := Aside0.mk (below_step (by repeat (first | (with_reducible first | exact HB.out | apply below_alloc | apply pw_below_drewN | apply below_drew1) | exact HB.out)) hb); have n1_ := Aside0.mk (show w34.heap[gb258]? = some (.cells #[.int .i64 a0_0, .slice A0_1 l0_1.length c0_1] 24 (0, 0)) from hbox); have n2_ := Aside0.mk (show w.heap.size ≤ gb258 from (by rw [hg]; exact Nat.le_refl _)); have n3_ := Aside0.mk (show gb258 < w34.heap.size from blk_lt hbox); have n4_ := Aside0.mk (show w.heap.size ≤ w34.heap.size from hb.size); clear HB; have HB := n0_; have BKgb258 := n1_; have GLgb258 := n2_; have GUgb258 := n3_; have LEw34 := n4_; clear n0_ n1_ n2_ n3_ n4_; clear hb hbox hg; (try clear hcz_gb258_0); (try clear hfz_gb258_0); have hcz_gb258_0 : w34.cell? ⟨gb258, 0, none⟩ = some (.int .i64 a0_0) := (blk_cell BKgb258.out 0).trans rfl; have hfz_gb258_0 := blk_frozen BKgb258.out 0; (try clear hcz_gb258_1); (try clear hfz_gb258_1); have hcz_gb258_1 : w34.cell? ⟨gb258, 1, none⟩ = some (.slice A0_1 l0_1.length c0_1) := (blk_cell BKgb258.out 1).trans rfl; have hfz_gb258_1 := blk_frozen BKgb258.out 1) | ((with_reducible refine gate_callee (f := 17) rfl ?_); refine goesL_ (some 18) rfl rfl Try.func17 (by kernel_rfl) rfl #[.agg #[.int .i64 a0_0, .slice A0_1 l0_1.length c0_1], .int .i64 1048576] rfl (by (try simp only [List.map_toArray, List.map_cons, List.map_nil]); first | done | rfl | (simp only [List.length_drop, List.length_take]; rfl)) ?_; (with_reducible refine (laws_szHyper.calls k a0_0 _ _ l0_1 1048576 t259 _ ?side1 ?side2 A3.out).mono ?_); (case side1 => repeat (first | exact (Kd.C_below HR0_1.out (by repeat (first | (with_reducible first | exact HB.out | apply below_alloc | apply pw_below_drewN | apply below_drew1) | exact HB.out))) | (with_reducible refine Kd.C_alloc ?_ _) | (with_reducible refine Kd.C_drewN ?_ _) | (with_reducible refine Kd.C_drew ?_))); (case side2 => exact HC0_1.out); rintro e w35 ⟨rfl, hb⟩; refine ⟨_, rfl, ?_⟩; have n0_ := Aside0.mk (show w35.heap[gb258]? = some (.cells #[.int .i64 a0_0, .slice A0_1 l0_1.length c0_1] 24 (0, 0)) from blk_below (by (with_reducible repeat (first | refine blk_drewN ?_ _ | refine blk_drew ?_ | refine blk_alloc ?_ _)); exact BKgb258.out) hb); have n1_ := Aside0.mk (below_step (by repeat (first | (with_reducible first | exact HB.out | apply below_alloc | apply pw_below_drewN | apply below_drew1) | exact HB.out)) hb); have LEw35 := Aside0.mk (show w34.heap.size ≤ w35.heap.size from hb.size); clear BKgb258; clear HB; have BKgb258 := n0_; have HB := n1_; clear n0_ n1_; (try clear hb); (try clear hcz_gb258_0); (try clear hfz_gb258_0); have hcz_gb258_0 : w35.cell? ⟨gb258, 0, none⟩ = some (.int .i64 a0_0) := (blk_cell BKgb258.out 0).trans rfl; have hfz_gb258_0 := blk_frozen BKgb258.out 0; (try clear hcz_gb258_1); (try clear hfz_gb258_1); have hcz_gb258_1 : w35.cell? ⟨gb258, 1, none⟩ = some (.slice A0_1 l0_1.length c0_1) := (blk_cell BKgb258.out 1).trans rfl; have hfz_gb258_1 := blk_frozen BKgb258.out 1) | ((with_reducible refine gate_callee (f := 19) rfl ?_); refine goesL_ (some 23) rfl rfl Try.func19 (by kernel_rfl) rfl #[.agg #[.int .i64 a0_0, .slice A0_1 l0_1.length c0_1]] rfl (by (try simp only [List.map_toArray, List.map_cons, List.map_nil]); first | done | rfl | (simp only [List.length_drop, List.length_take]; rfl)) ?_; (with_reducible refine (laws_toHyper.calls k a0_0 _ _ l0_1 t260 t261 _ ?side1 ?side2 A8.out).mono ?_); (case side1 => repeat (first | exact (Kd.C_below HR0_1.out (by repeat (first | (with_reducible first | exact HB.out | apply below_alloc | apply pw_below_drewN | apply below_drew1) | exact HB.out))) | (with_reducible refine Kd.C_alloc ?_ _) | (with_reducible refine Kd.C_drewN ?_ _) | (with_reducible refine Kd.C_drew ?_))); (case side2 => exact HC0_1.out); rintro e w36 ⟨v262, rfl, ho0, hb⟩; refine ⟨_, rfl, ?_⟩; have n0_ := Aside0.mk (show w36.heap[gb258]? = some (.cells #[.int .i64 a0_0, .slice A0_1 l0_1.length c0_1] 24 (0, 0)) from blk_below (by (with_reducible repeat (first | refine blk_drewN ?_ _ | refine blk_drew ?_ | refine blk_alloc ?_ _)); exact BKgb258.out) hb); have n1_ := Aside0.mk (show Kd.S (Kd.slice 3 (Kd.int .i64)) 26 w36 w.heap.size (fun k_ => w35.heap.size ≤ k_ ∧ k_ < w36.heap.size) v262 t261 from lw_S ho0 (below_size (by repeat (first | (with_reducible first | exact HB.out | apply below_alloc | apply pw_below_drewN | apply below_drew1) | exact HB.out)))); have n2_ := Aside0.mk (below_step (by repeat (first | (with_reducible first | exact HB.out | apply below_alloc | apply pw_below_drewN | apply below_drew1) | exact HB.out)) hb); have LEw36 := Aside0.mk (show w35.heap.size ≤ w36.heap.size from hb.size); clear BKgb258; clear HB; have BKgb258 := n0_; have HO263 := n1_; have HB := n2_; clear n0_ n1_ n2_; (try clear hb); (try clear ho0); obtain ⟨Aoo37, coo37, eoo37⟩ := Kd.R_slice (Kd.S_R HO263.out); subst eoo37; (try clear hcz_gb258_0); (try clear hfz_gb258_0); have hcz_gb258_0 : w36.cell? ⟨gb258, 0, none⟩ = some (.int .i64 a0_0) := (blk_cell BKgb258.out 0).trans rfl; have hfz_gb258_0 := blk_frozen BKgb258.out 0; (try clear hcz_gb258_1); (try clear hfz_gb258_1); have hcz_gb258_1 : w36.cell? ⟨gb258, 1, none⟩ = some (.slice A0_1 l0_1.length c0_1) := (blk_cell BKgb258.out 1).trans rfl; have hfz_gb258_1 := blk_frozen BKgb258.out 1) | ((with_reducible refine gate_callee (f := 26) rfl ?_); refine goesL_ (some 25) rfl rfl Try.func26 (by kernel_rfl) rfl #[.agg #[.int .i64 t260, .slice Aoo37 t261.length coo37], .int .i64 a1] rfl (by (try simp only [List.map_toArray, List.map_cons, List.map_nil]); first | done | rfl | (simp only [List.length_drop, List.length_take]; rfl)) ?_; (with_reducible refine (spec_EdgesAt.calls k t260 _ _ t261 a1 t264 t267 _ ?side1 ?side2 A9.out).mono ?_); (case side1 => repeat (first | exact (Kd.R_reads' (Kd.S_R HO263.out)).2.2 | (with_reducible refine Kd.C_alloc ?_ _) | (with_reducible refine Kd.C_drewN ?_ _) | (with_reducible refine Kd.C_drew ?_))); (case side2 => exact (Kd.R_reads' (Kd.S_R HO263.out)).2.1); rintro e w38 ⟨v265, rfl, ho0, hb⟩; refine ⟨_, rfl, ?_⟩; have n0_ := Aside0.mk (show Kd.S (Kd.slice 3 (Kd.int .i64)) 26 w38 w.heap.size (fun k_ => w35.heap.size ≤ k_ ∧ k_ < w36.heap.size) (.slice Aoo37 t261.length coo37) t261 from Kd.S_below (by (with_reducible repeat (first | apply Kd.S_alloc | apply Kd.S_drewN | apply Kd.S_drew)); exact HO263.out) hb); have n1_ := Aside0.mk (show w38.heap[gb258]? = some (.cells #[.int .i64 a0_0, .slice A0_1 l0_1.length c0_1] 24 (0, 0)) from blk_below (by (with_reducible repeat (first | refine blk_drewN ?_ _ | refine blk_drew ?_ | refine blk_alloc ?_ _)); exact BKgb258.out) hb); have n2_ := Aside0.mk (show Kd.R (Kd.int .i64) 3 w38 w.heap.size (fun k_ => w36.heap.size ≤ k_ ∧ k_ < w38.heap.size) v265 t264 from lw_R ho0 (below_size (by repeat (first | (with_reducible first | exact HB.out | apply below_alloc | apply pw_below_drewN | apply below_drew1) | exact HB.out)))); have n3_ := Aside0.mk (below_step (by repeat (first | (with_reducible first | exact HB.out | apply below_alloc | apply pw_below_drewN | apply below_drew1) | exact HB.out)) hb); have LEw38 := Aside0.mk (show w36.heap.size ≤ w38.heap.size from hb.size); clear HO263; clear BKgb258; clear HB; have HO263 := n0_; have BKgb258 := n1_; have HO266 := n2_; have HB := n3_; clear n0_ n1_ n2_ n3_; (try clear hb); (try clear ho0); obtain ⟨Aoo39, coo39, eoo39⟩ := Kd.R_slice HO266.out; subst eoo39; (try clear hcz_gb258_0); (try clear hfz_gb258_0); have hcz_gb258_0 : w38.cell? ⟨gb258, 0, none⟩ = some (.int .i64 a0_0) := (blk_cell BKgb258.out 0).trans rfl; have hfz_gb258_0 := blk_frozen BKgb258.out 0; (try clear hcz_gb258_1); (try clear hfz_gb258_1); have hcz_gb258_1 : w38.cell? ⟨gb258, 1, none⟩ = some (.slice A0_1 l0_1.length c0_1) := (blk_cell BKgb258.out 1).trans rfl; have hfz_gb258_1 := blk_frozen BKgb258.out 1) | ((with_reducible refine gate_callee (f := 19) rfl ?_); refine goesL_ (some 29) rfl rfl Try.func19 (by kernel_rfl) rfl #[.agg #[.int .i64 a0_0, .slice A0_1 l0_1.length c0_1]] rfl (by (try simp only [List.map_toArray, List.map_cons, List.map_nil]); first | done | rfl | (simp only [List.length_drop, List.length_take]; rfl)) ?_; (with_reducible refine (laws_toHyper.calls k a0_0 _ _ l0_1 t268 t269 _ ?side1 ?side2 A10.out).mono ?_); (case side1 => repeat (first | exact (Kd.C_below HR0_1.out (by repeat (first | (with_reducible first | exact HB.out | apply below_alloc | apply pw_below_drewN | apply below_drew1) | exact HB.out))) | (with_reducible refine Kd.C_alloc ?_ _) | (with_reducible refine Kd.C_drewN ?_ _) | (with_reducible refine Kd.C_drew ?_))); (case side2 => exact HC0_1.out); rintro e w40 ⟨v270, rfl, ho0, hb⟩; refine ⟨_, rfl, ?_⟩; have n0_ := Aside0.mk (show Kd.S (Kd.slice 3 (Kd.int .i64)) 26 w40 w.heap.size (fun k_ => w35.heap.size ≤ k_ ∧ k_ < w36.heap.size) (.slice Aoo37 t261.length coo37) t261 from Kd.S_below (by (with_reducible repeat (first | apply Kd.S_alloc | apply Kd.S_drewN | apply Kd.S_drew)); exact HO263.out) hb); have n1_ := Aside0.mk (show Kd.R (Kd.int .i64) 3 w40 w.heap.size (fun k_ => w36.heap.size ≤ k_ ∧ k_ < w38.heap.size) (.slice Aoo39 t264.length coo39) t264 from Kd.R_below (by (with_reducible repeat (first | apply Kd.R_alloc | apply Kd.R_drewN | apply Kd.R_drew)); exact HO266.out) hb); have n2_ := Aside0.mk (show w40.heap[gb258]? = some (.cells #[.int .i64 a0_0, .slice A0_1 l0_1.length c0_1] 24 (0, 0)) from blk_below (by (with_reducible repeat (first | refine blk_drewN ?_ _ | refine blk_drew ?_ | refine blk_alloc ?_ _)); exact BKgb258.out) hb); have n3_ := Aside0.mk (show Kd.S (Kd.slice 3 (Kd.int .i64)) 26 w40 w.heap.size (fun k_ => w38.heap.size ≤ k_ ∧ k_ < w40.heap.size) v270 t269 from lw_S ho0 (below_size (by repeat (first | (with_reducible first | exact HB.out | apply below_alloc | apply pw_below_drewN | apply below_drew1) | exact HB.out)))); have n4_ := Aside0.mk (below_step (by repeat (first | (with_reducible first | exact HB.out | apply below_alloc | apply pw_below_drewN | apply below_drew1) | exact HB.out)) hb); have LEw40 := Aside0.mk (show w38.heap.size ≤ w40.heap.size from hb.size); clear HO263; clear HO266; clear BKgb258; clear HB; have HO263 := n0_; have HO266 := n1_; have BKgb258 := n2_; have HO271 := n3_; have HB := n4_; clear n0_ n1_ n2_ n3_ n4_; (try clear hb); (try clear ho0); obtain ⟨Aoo41, coo41, eoo41⟩ := Kd.R_slice (Kd.S_R HO271.out); subst eoo41; (try clear hcz_gb258_0); (try clear hfz_gb258_0); have hcz_gb258_0 : w40.cell? ⟨gb258, 0, none⟩ = some (.int .i64 a0_0) := (blk_cell BKgb258.out 0).trans rfl; have hfz_gb258_0 := blk_frozen BKgb258.out 0; (try clear hcz_gb258_1); (try clear hfz_gb258_1); have hcz_gb258_1 : w40.cell? ⟨gb258, 1, none⟩ = some (.slice A0_1 l0_1.length c0_1) := (blk_cell BKgb258.out 1).trans rfl; have hfz_gb258_1 := blk_frozen BKgb258.out 1) | ((with_reducible refine gate_dst (N := 8) rfl ?_); refine box_event ?hg (N := 8) ?hd (cs := #[.int .i64 0, .slice none 0 0]) (t := 29) ?hr ?_; (case hd => rfl); (case hg => rfl); (case hr => first | (go_simp; done) | (go_simp; rfl)); intro gb272 hg w42 hbox hb; have n0_ := Aside0.mk (show Kd.S (Kd.slice 3 (Kd.int .i64)) 26 w42 w.heap.size (fun k_ => w35.heap.size ≤ k_ ∧ k_ < w36.heap.size) (.slice Aoo37 t261.length coo37) t261 from Kd.S_below (by (with_reducible repeat (first | apply Kd.S_alloc | apply Kd.S_drewN | apply Kd.S_drew)); exact HO263.out) hb); have n1_ := Aside0.mk (show Kd.R (Kd.int .i64) 3 w42 w.heap.size (fun k_ => w36.heap.size ≤ k_ ∧ k_ < w38.heap.size) (.slice Aoo39 t264.length coo39) t264 from Kd.R_below (by (with_reducible repeat (first | apply Kd.R_alloc | apply Kd.R_drewN | apply Kd.R_drew)); exact HO266.out) hb); have n2_ := Aside0.mk (show Kd.S (Kd.slice 3 (Kd.int .i64)) 26 w42 w.heap.size (fun k_ => w38.heap.size ≤ k_ ∧ k_ < w40.heap.size) (.slice Aoo41 t269.length coo41) t269 from Kd.S_below (by (with_reducible repeat (first | apply Kd.S_alloc | apply Kd.S_drewN | apply Kd.S_drew)); exact HO271.out) hb); have n3_ := Aside0.mk (show w42.heap[gb258]? = some (.cells #[.int .i64 a0_0, .slice A0_1 l0_1.length c0_1] 24 (0, 0)) from blk_below (by (with_reducible repeat (first | refine blk_drewN ?_ _ | refine blk_drew ?_ | refine blk_alloc ?_ _)); exact BKgb258.out) hb); have n4_ := Aside0.mk (below_step (by repeat (first | (with_reducible first | exact HB.out | apply below_alloc | apply pw_below_drewN | apply below_drew1) | exact HB.out)) hb); have n5_ := Aside0.mk (show w42.heap[gb272]? = some (.cells #[.int .i64 0, .slice none 0 0] 29 (0, 0)) from hbox); have n6_ := Aside0.mk (show w40.heap.size ≤ gb272 from (by rw [hg]; exact Nat.le_refl _)); have n7_ := Aside0.mk (show gb272 < w42.heap.size from blk_lt hbox); have n8_ := Aside0.mk (show w40.heap.size ≤ w42.heap.size from hb.size); clear HO263; clear HO266; clear HO271; clear BKgb258; clear HB; have HO263 := n0_; have HO266 := n1_; have HO271 := n2_; have BKgb258 := n3_; have HB := n4_; have BKgb272 := n5_; have GLgb272 := n6_; have GUgb272 := n7_; have LEw42 := n8_; clear n0_ n1_ n2_ n3_ n4_ n5_ n6_ n7_ n8_; clear hb hbox hg; (try clear hcz_gb258_0); (try clear hfz_gb258_0); have hcz_gb258_0 : w42.cell? ⟨gb258, 0, none⟩ = some (.int .i64 a0_0) := (blk_cell BKgb258.out 0).trans rfl; have hfz_gb258_0 := blk_frozen BKgb258.out 0; (try clear hcz_gb258_1); (try clear hfz_gb258_1); have hcz_gb258_1 : w42.cell? ⟨gb258, 1, none⟩ = some (.slice A0_1 l0_1.length c0_1) := (blk_cell BKgb258.out 1).trans rfl; have hfz_gb258_1 := blk_frozen BKgb258.out 1; (try clear hcz_gb272_0); (try clear hfz_gb272_0); have hcz_gb272_0 : w42.cell? ⟨gb272, 0, none⟩ = some (.int .i64 0) := (blk_cell BKgb272.out 0).trans rfl; have hfz_gb272_0 := blk_frozen BKgb272.out 0; (try clear hcz_gb272_1); (try clear hfz_gb272_1); have hcz_gb272_1 : w42.cell? ⟨gb272, 1, none⟩ = some (.slice none 0 0) := (blk_cell BKgb272.out 1).trans rfl; have hfz_gb272_1 := blk_frozen BKgb272.out 1) | ((with_reducible refine gate_store (t := 29) (p := 8) rfl ?_); refine store_event (t := 29) (p := 8) (v := ?vo_w43) (w1 := ((w42.setCell ⟨gb272, 0, none⟩ (.int .i64 t268)).setCell ⟨gb272, 1, none⟩ (.slice Aoo41 t269.length coo41))) ?hg ?ho ?hn ?hr ?_; (case ho => rfl); (case hg => rfl); (case hn => rfl); (case hr => first | (go_simp; done) | (go_simp; rfl)); intro w43 hw; have hkp : Kept w42 w43 (fun k_ => gb272 ≤ k_ ∧ k_ < gb272 + 1) := (by rw [hw]; exact Kept.setCell (Kept.setCell (Kept.refl _ _) (.inl ⟨Nat.le_refl _, Nat.lt_succ_self _⟩) _) (.inl ⟨Nat.le_refl _, Nat.lt_succ_self _⟩) _); have n0_ := Aside0.mk (show Kd.S (Kd.slice 3 (Kd.int .i64)) 26 w43 w.heap.size (fun k_ => w35.heap.size ≤ k_ ∧ k_ < w36.heap.size) (.slice Aoo37 t261.length coo37) t261 from lw_keptS HO263.out hkp (by have hLEw34_ := LEw34.out; have hLEw35_ := LEw35.out; have hLEw36_ := LEw36.out; have hLEw38_ := LEw38.out; have hLEw40_ := LEw40.out; have hLEw42_ := LEw42.out; have hGLgb258_ := GLgb258.out; have hGUgb258_ := GUgb258.out; have hGLgb272_ := GLgb272.out; have hGUgb272_ := GUgb272.out; omega)); have n1_ := Aside0.mk (show Kd.R (Kd.int .i64) 3 w43 w.heap.size (fun k_ => w36.heap.size ≤ k_ ∧ k_ < w38.heap.size) (.slice Aoo39 t264.length coo39) t264 from lw_keptR HO266.out hkp (by have hLEw34_ := LEw34.out; have hLEw35_ := LEw35.out; have hLEw36_ := LEw36.out; have hLEw38_ := LEw38.out; have hLEw40_ := LEw40.out; have hLEw42_ := LEw42.out; have hGLgb258_ := GLgb258.out; have hGUgb258_ := GUgb258.out; have hGLgb272_ := GLgb272.out; have hGUgb272_ := GUgb272.out; omega)); have n2_ := Aside0.mk (show Kd.S (Kd.slice 3 (Kd.int .i64)) 26 w43 w.heap.size (fun k_ => w38.heap.size ≤ k_ ∧ k_ < w40.heap.size) (.slice Aoo41 t269.length coo41) t269 from lw_keptS HO271.out hkp (by have hLEw34_ := LEw34.out; have hLEw35_ := LEw35.out; have hLEw36_ := LEw36.out; have hLEw38_ := LEw38.out; have hLEw40_ := LEw40.out; have hLEw42_ := LEw42.out; have hGLgb258_ := GLgb258.out; have hGUgb258_ := GUgb258.out; have hGLgb272_ := GLgb272.out; have hGUgb272_ := GUgb272.out; omega)); have n3_ := Aside0.mk (show w43.heap[gb258]? = some (.cells #[.int .i64 a0_0, .slice A0_1 l0_1.length c0_1] 24 (0, 0)) from blk_kept BKgb258.out hkp (fun hs_ => by have h1_ : gb272 ≤ gb258 ∧ gb258 < gb272 + 1 := hs_; have hLEw34_ := LEw34.out; have hLEw35_ := LEw35.out; have hLEw36_ := LEw36.out; have hLEw38_ := LEw38.out; have hLEw40_ := LEw40.out; have hLEw42_ := LEw42.out; have hGLgb258_ := GLgb258.out; have hGUgb258_ := GUgb258.out; have hGLgb272_ := GLgb272.out; have hGUgb272_ := GUgb272.out; omega)); have n4_ := Aside0.mk (show w43.heap[gb272]? = some (.cells #[.int .i64 t268, .slice Aoo41 t269.length coo41] 29 (0, 0)) from (by rw [hw]; refine blk_put (cs := #[.int .i64 t268, .slice none 0 0]) ?_ 1 _ rfl; refine blk_put (cs := #[.int .i64 0, .slice none 0 0]) ?_ 0 _ rfl; exact BKgb272.out)); have n5_ := Aside0.mk (show Below w.heap.size w w43 from (by rw [hw]; exact below_set (below_set (by repeat (first | (with_reducible first | exact HB.out | apply below_alloc | apply pw_below_drewN | apply below_drew1) | exact HB.out)) (by have hLEw34_ := LEw34.out; have hLEw35_ := LEw35.out; have hLEw36_ := LEw36.out; have hLEw38_ := LEw38.out; have hLEw40_ := LEw40.out; have hLEw42_ := LEw42.out; have hGLgb258_ := GLgb258.out; have hGUgb258_ := GUgb258.out; have hGLgb272_ := GLgb272.out; have hGUgb272_ := GUgb272.out; omega)) (by have hLEw34_ := LEw34.out; have hLEw35_ := LEw35.out; have hLEw36_ := LEw36.out; have hLEw38_ := LEw38.out; have hLEw40_ := LEw40.out; have hLEw42_ := LEw42.out; have hGLgb258_ := GLgb258.out; have hGUgb258_ := GUgb258.out; have hGLgb272_ := GLgb272.out; have hGUgb272_ := GUgb272.out; omega))); have n6_ := Aside0.mk (show w42.heap.size ≤ w43.heap.size from hkp.1); clear HO263; clear HO266; clear HO271; clear BKgb258; clear BKgb272; clear HB; have HO263 := n0_; have HO266 := n1_; have HO271 := n2_; have BKgb258 := n3_; have BKgb272 := n4_; have HB := n5_; have LEw43 := n6_; clear n0_ n1_ n2_ n3_ n4_ n5_ n6_; clear hkp hw; (try clear hcz_gb258_0); (try clear hfz_gb258_0); have hcz_gb258_0 : w43.cell? ⟨gb258, 0, none⟩ = some (.int .i64 a0_0) := (blk_cell BKgb258.out 0).trans rfl; have hfz_gb258_0 := blk_frozen BKgb258.out 0; (try clear hcz_gb258_1); (try clear hfz_gb258_1); have hcz_gb258_1 : w43.cell? ⟨gb258, 1, none⟩ = some (.slice A0_1 l0_1.length c0_1) := (blk_cell BKgb258.out 1).trans rfl; have hfz_gb258_1 := blk_frozen BKgb258.out 1; (try clear hcz_gb272_0); (try clear hfz_gb272_0); have hcz_gb272_0 : w43.cell? ⟨gb272, 0, none⟩ = some (.int .i64 t268) := (blk_cell BKgb272.out 0).trans rfl; have hfz_gb272_0 := blk_frozen BKgb272.out 0; (try clear hcz_gb272_1); (try clear hfz_gb272_1); have hcz_gb272_1 : w43.cell? ⟨gb272, 1, none⟩ = some (.slice Aoo41 t269.length coo41) := (blk_cell BKgb272.out 1).trans rfl; have hfz_gb272_1 := blk_frozen BKgb272.out 1) | ((with_reducible refine gate_callee (f := 27) rfl ?_); refine goesL_ (some 33) rfl rfl Try.func27 (by kernel_rfl) rfl #[.agg #[.int .i64 t268, .slice Aoo41 t269.length coo41], .int .i64 a1] rfl (by (try simp only [List.map_toArray, List.map_cons, List.map_nil]); first | done | rfl | (simp only [List.length_drop, List.length_take]; rfl)) ?_; (with_reducible refine (impl_EdgesAt.calls k t268 _ _ t269 a1 t273 t276 _ ?side1 ?side2 A11.out).mono ?_); (case side1 => repeat (first | exact (Kd.R_reads' (Kd.S_R HO271.out)).2.2 | (with_reducible refine Kd.C_alloc ?_ _) | (with_reducible refine Kd.C_drewN ?_ _) | (with_reducible refine Kd.C_drew ?_))); (case side2 => exact (Kd.R_reads' (Kd.S_R HO271.out)).2.1); rintro e w44 ⟨v274, rfl, ho0, hb⟩; refine ⟨_, rfl, ?_⟩; have n0_ := Aside0.mk (show Kd.S (Kd.slice 3 (Kd.int .i64)) 26 w44 w.heap.size (fun k_ => w35.heap.size ≤ k_ ∧ k_ < w36.heap.size) (.slice Aoo37 t261.length coo37) t261 from Kd.S_below (by (with_reducible repeat (first | apply Kd.S_alloc | apply Kd.S_drewN | apply Kd.S_drew)); exact HO263.out) hb); have n1_ := Aside0.mk (show Kd.R (Kd.int .i64) 3 w44 w.heap.size (fun k_ => w36.heap.size ≤ k_ ∧ k_ < w38.heap.size) (.slice Aoo39 t264.length coo39) t264 from Kd.R_below (by (with_reducible repeat (first | apply Kd.R_alloc | apply Kd.R_drewN | apply Kd.R_drew)); exact HO266.out) hb); have n2_ := Aside0.mk (show Kd.S (Kd.slice 3 (Kd.int .i64)) 26 w44 w.heap.size (fun k_ => w38.heap.size ≤ k_ ∧ k_ < w40.heap.size) (.slice Aoo41 t269.length coo41) t269 from Kd.S_below (by (with_reducible repeat (first | apply Kd.S_alloc | apply Kd.S_drewN | apply Kd.S_drew)); exact HO271.out) hb); have n3_ := Aside0.mk (show w44.heap[gb258]? = some (.cells #[.int .i64 a0_0, .slice A0_1 l0_1.length c0_1] 24 (0, 0)) from blk_below (by (with_reducible repeat (first | refine blk_drewN ?_ _ | refine blk_drew ?_ | refine blk_alloc ?_ _)); exact BKgb258.out) hb); have n4_ := Aside0.mk (show w44.heap[gb272]? = some (.cells #[.int .i64 t268, .slice Aoo41 t269.length coo41] 29 (0, 0)) from blk_below (by (with_reducible repeat (first | refine blk_drewN ?_ _ | refine blk_drew ?_ | refine blk_alloc ?_ _)); exact BKgb272.out) hb); have n5_ := Aside0.mk (show Kd.R (Kd.int .i64) 3 w44 w.heap.size (fun k_ => w43.heap.size ≤ k_ ∧ k_ < w44.heap.size) v274 t273 from lw_R ho0 (below_size (by repeat (first | (with_reducible first | exact HB.out | apply below_alloc | apply pw_below_drewN | apply below_drew1) | exact HB.out)))); have n6_ := Aside0.mk (below_step (by repeat (first | (with_reducible first | exact HB.out | apply below_alloc | apply pw_below_drewN | apply below_drew1) | exact HB.out)) hb); have LEw44 := Aside0.mk (show w43.heap.size ≤ w44.heap.size from hb.size); clear HO263; clear HO266; clear HO271; clear BKgb258; clear BKgb272; clear HB; have HO263 := n0_; have HO266 := n1_; have HO271 := n2_; have BKgb258 := n3_; have BKgb272 := n4_; have HO275 := n5_; have HB := n6_; clear n0_ n1_ n2_ n3_ n4_ n5_ n6_; (try clear hb); (try clear ho0); obtain ⟨Aoo45, coo45, eoo45⟩ := Kd.R_slice HO275.out; subst eoo45; (try clear hcz_gb258_0); (try clear hfz_gb258_0); have hcz_gb258_0 : w44.cell? ⟨gb258, 0, none⟩ = some (.int .i64 a0_0) := (blk_cell BKgb258.out 0).trans rfl; have hfz_gb258_0 := blk_frozen BKgb258.out 0; (try clear hcz_gb258_1); (try clear hfz_gb258_1); have hcz_gb258_1 : w44.cell? ⟨gb258, 1, none⟩ = some (.slice A0_1 l0_1.length c0_1) := (blk_cell BKgb258.out 1).trans rfl; have hfz_gb258_1 := blk_frozen BKgb258.out 1; (try clear hcz_gb272_0); (try clear hfz_gb272_0); have hcz_gb272_0 : w44.cell? ⟨gb272, 0, none⟩ = some (.int .i64 t268) := (blk_cell BKgb272.out 0).trans rfl; have hfz_gb272_0 := blk_frozen BKgb272.out 0; (try clear hcz_gb272_1); (try clear hfz_gb272_1); have hcz_gb272_1 : w44.cell? ⟨gb272, 1, none⟩ = some (.slice Aoo41 t269.length coo41) := (blk_cell BKgb272.out 1).trans rfl; have hfz_gb272_1 := blk_frozen BKgb272.out 1) | ((with_reducible refine gate_callee (f := 21) rfl ?_); refine goesL_ (some 38) rfl rfl Try.func21 (by kernel_rfl) rfl #[.slice Aoo45 t273.length coo45, .slice Aoo39 t264.length coo39] rfl (by (try simp only [List.map_toArray, List.map_cons, List.map_nil]); first | done | rfl | (simp only [List.length_drop, List.length_take]; rfl)) ?_; (with_reducible refine (laws_eqIntS.calls k _ _ t273 _ _ t264 true _ ?side1 ?side2 ?side3 ?side4 A12.out).mono ?_); (case side1 => repeat (first | exact (Kd.R_reads' HO275.out).2.2 | (with_reducible refine Kd.C_alloc ?_ _) | (with_reducible refine Kd.C_drewN ?_ _) | (with_reducible refine Kd.C_drew ?_))); (case side2 => exact (Kd.R_reads' HO275.out).2.1); (case side3 => repeat (first | exact (Kd.R_reads' HO266.out).2.2 | (with_reducible refine Kd.C_alloc ?_ _) | (with_reducible refine Kd.C_drewN ?_ _) | (with_reducible refine Kd.C_drew ?_))); (case side4 => exact (Kd.R_reads' HO266.out).2.1); rintro e w46 ⟨rfl, hd⟩; refine ⟨_, rfl, ?_⟩; have hb := Drawn0.below hd; have n0_ := Aside0.mk (show Kd.S (Kd.slice 3 (Kd.int .i64)) 26 w46 w.heap.size (fun k_ => w35.heap.size ≤ k_ ∧ k_ < w36.heap.size) (.slice Aoo37 t261.length coo37) t261 from Kd.S_below HO263.out hb); have n1_ := Aside0.mk (show Kd.R (Kd.int .i64) 3 w46 w.heap.size (fun k_ => w36.heap.size ≤ k_ ∧ k_ < w38.heap.size) (.slice Aoo39 t264.length coo39) t264 from Kd.R_below HO266.out hb); have n2_ := Aside0.mk (show Kd.S (Kd.slice 3 (Kd.int .i64)) 26 w46 w.heap.size (fun k_ => w38.heap.size ≤ k_ ∧ k_ < w40.heap.size) (.slice Aoo41 t269.length coo41) t269 from Kd.S_below HO271.out hb); have n3_ := Aside0.mk (show Kd.R (Kd.int .i64) 3 w46 w.heap.size (fun k_ => w43.heap.size ≤ k_ ∧ k_ < w44.heap.size) (.slice Aoo45 t273.length coo45) t273 from Kd.R_below HO275.out hb); have n4_ := Aside0.mk (show w46.heap[gb258]? = some (.cells #[.int .i64 a0_0, .slice A0_1 l0_1.length c0_1] 24 (0, 0)) from blk_below BKgb258.out hb); have n5_ := Aside0.mk (show w46.heap[gb272]? = some (.cells #[.int .i64 t268, .slice Aoo41 t269.length coo41] 29 (0, 0)) from blk_below BKgb272.out hb); have n6_ := Aside0.mk (below_step HB.out hb); have n7_ := Aside0.mk (show w44.heap.size ≤ w46.heap.size from hb.size); clear HO263; clear HO266; clear HO271; clear HO275; clear BKgb258; clear BKgb272; clear HB; have HO263 := n0_; have HO266 := n1_; have HO271 := n2_; have HO275 := n3_; have BKgb258 := n4_; have BKgb272 := n5_; have HB := n6_; have LEw46 := n7_; clear n0_ n1_ n2_ n3_ n4_ n5_ n6_ n7_; clear hb hd; (try clear hcz_gb258_0); (try clear hfz_gb258_0); have hcz_gb258_0 : w46.cell? ⟨gb258, 0, none⟩ = some (.int .i64 a0_0) := (blk_cell BKgb258.out 0).trans rfl; have hfz_gb258_0 := blk_frozen BKgb258.out 0; (try clear hcz_gb258_1); (try clear hfz_gb258_1); have hcz_gb258_1 : w46.cell? ⟨gb258, 1, none⟩ = some (.slice A0_1 l0_1.length c0_1) := (blk_cell BKgb258.out 1).trans rfl; have hfz_gb258_1 := blk_frozen BKgb258.out 1; (try clear hcz_gb272_0); (try clear hfz_gb272_0); have hcz_gb272_0 : w46.cell? ⟨gb272, 0, none⟩ = some (.int .i64 t268) := (blk_cell BKgb272.out 0).trans rfl; have hfz_gb272_0 := blk_frozen BKgb272.out 0; (try clear hcz_gb272_1); (try clear hfz_gb272_1); have hcz_gb272_1 : w46.cell? ⟨gb272, 1, none⟩ = some (.slice Aoo41 t269.length coo41) := (blk_cell BKgb272.out 1).trans rfl; have hfz_gb272_1 := blk_frozen BKgb272.out 1))
              have n0_ := Aside0.mk (Kd.S_drew HO263.out)
              have n1_ := Aside0.mk (Kd.R_drew HO266.out)
              have n2_ := Aside0.mk (Kd.S_drew HO271.out)
              have n3_ := Aside0.mk (Kd.R_drew HO275.out)
              have n4_ := Aside0.mk (blk_drew BKgb258.out)
              have n5_ := Aside0.mk (blk_drew BKgb272.out)
              have n6_ := Aside0.mk (below_drew1 HB.out)
              have n7_ := Aside0.mk (show w46.heap.size ≤ w46.drew.heap.size from Nat.le_refl _)
              clear HO263
              clear HO266
              clear HO271
              clear HO275
              clear BKgb258
              clear BKgb272
              clear HB
              have HO263 := n0_
              have HO266 := n1_
              have HO271 := n2_
              have HO275 := n3_
              have BKgb258 := n4_
              have BKgb272 := n5_
              have HB := n6_
              have LEw47 := n7_
              clear n0_ n1_ n2_ n3_ n4_ n5_ n6_ n7_
              try clear hcz_gb258_0
              try clear hfz_gb258_0
              try clear hcz_gb258_1
              try clear hfz_gb258_1
              try clear hcz_gb272_0
              try clear hfz_gb272_0
              try clear hcz_gb272_1
              try clear hfz_gb272_1
              refine start_ (n := 5) (S := fun w' => w'.cell? ⟨gb258, 0, none⟩ = some (.int .i64 a0_0) ∧ w'.cell? ⟨gb258, 1, none⟩ = some (.slice A0_1 l0_1.length c0_1) ∧ w'.cell? ⟨gb272, 0, none⟩ = some (.int .i64 t268) ∧ w'.cell? ⟨gb272, 1, none⟩ = some (.slice Aoo41 t269.length coo41)) (ds := []) #[false, false, false, false, false] (by kernel_rfl) rfl rfl ⟨(blk_cell BKgb258.out 0).trans rfl, (blk_cell BKgb258.out 1).trans rfl, (blk_cell BKgb272.out 0).trans rfl, (blk_cell BKgb272.out 1).trans rfl⟩ (fun hHeld => ?_)
              generalize w46.drew = w47 at HO263 HO266 HO271 HO275 BKgb258 BKgb272 HB LEw47 hHeld ⊢
              refine take_ (i := 0) (N := (some 45)) (v := ?_) (a' := ?_) (bsA 5 1) rfl rfl (by kernel_rfl) (fun _ _ _ h => h) (Or.inl ⟨by rfl, ?_⟩) hHeld ?_ ?_
              rotate_left
              ·rintro w' ⟨s0, s1, s2, s3⟩
               go_simp
               with_reducible rfl
              rotate_left
              ·simp only [Act.put, List.setIfInBounds_toArray, List.set_cons_zero, List.set_cons_succ, i64_w]
               rfl
              refine take_ (i := 1) (N := (some 46)) (v := ?_) (a' := ?_) (bsA 5 3) rfl rfl (by kernel_rfl) (fun _ _ _ h => h) (Or.inl ⟨by rfl, ?_⟩) hHeld ?_ ?_
              rotate_left
              ·rintro w' ⟨s0, s1, s2, s3⟩
               go_simp
               with_reducible rfl
              rotate_left
              ·simp only [Act.put, List.setIfInBounds_toArray, List.set_cons_zero, List.set_cons_succ, i64_w]
               rfl
              refine one_ (i := 2) (N := (some 47)) (bsA 5 7) rfl rfl (by kernel_rfl) (by decide) (fun K hK => ?_)
              refine goes_ Try.func19 (by kernel_rfl) rfl #[.agg #[.int .i64 a0_0, .slice A0_1 l0_1.length c0_1]] (by rfl) rfl rfl (by (try simp only [List.map_toArray, List.map_cons, List.map_nil]); first | done | rfl | (simp only [List.length_drop, List.length_take]; rfl)) ?_
              (with_reducible refine (laws_toHyper.calls k a0_0 _ _ l0_1 t278 t279 _ ?side1 ?side2 A15.out).mono ?_)
              (case side1 => repeat (first | exact (Kd.C_below HR0_1.out (by repeat (first | (with_reducible first | exact HB.out | apply below_alloc | apply pw_below_drewN | apply below_drew1) | exact HB.out))) | (with_reducible refine Kd.C_alloc ?_ _) | (with_reducible refine Kd.C_drewN ?_ _) | (with_reducible refine Kd.C_drew ?_)))
              (case side2 => exact HC0_1.out)
              rintro e w48 ⟨v280, rfl, ho0, hb⟩
              refine ⟨_, rfl, ?_⟩
              have n0_ := Aside0.mk (show Kd.S (Kd.slice 3 (Kd.int .i64)) 26 w48 w.heap.size (fun k_ => w35.heap.size ≤ k_ ∧ k_ < w36.heap.size) (.slice Aoo37 t261.length coo37) t261 from Kd.S_below (by (with_reducible repeat (first | apply Kd.S_alloc | apply Kd.S_drewN | apply Kd.S_drew)); exact HO263.out) hb)
              have n1_ := Aside0.mk (show Kd.R (Kd.int .i64) 3 w48 w.heap.size (fun k_ => w36.heap.size ≤ k_ ∧ k_ < w38.heap.size) (.slice Aoo39 t264.length coo39) t264 from Kd.R_below (by (with_reducible repeat (first | apply Kd.R_alloc | apply Kd.R_drewN | apply Kd.R_drew)); exact HO266.out) hb)
              have n2_ := Aside0.mk (show Kd.S (Kd.slice 3 (Kd.int .i64)) 26 w48 w.heap.size (fun k_ => w38.heap.size ≤ k_ ∧ k_ < w40.heap.size) (.slice Aoo41 t269.length coo41) t269 from Kd.S_below (by (with_reducible repeat (first | apply Kd.S_alloc | apply Kd.S_drewN | apply Kd.S_drew)); exact HO271.out) hb)
              have n3_ := Aside0.mk (show Kd.R (Kd.int .i64) 3 w48 w.heap.size (fun k_ => w43.heap.size ≤ k_ ∧ k_ < w44.heap.size) (.slice Aoo45 t273.length coo45) t273 from Kd.R_below (by (with_reducible repeat (first | apply Kd.R_alloc | apply Kd.R_drewN | apply Kd.R_drew)); exact HO275.out) hb)
              have n4_ := Aside0.mk (show w48.heap[gb258]? = some (.cells #[.int .i64 a0_0, .slice A0_1 l0_1.length c0_1] 24 (0, 0)) from blk_below (by (with_reducible repeat (first | refine blk_drewN ?_ _ | refine blk_drew ?_ | refine blk_alloc ?_ _)); exact BKgb258.out) hb)
              have n5_ := Aside0.mk (show w48.heap[gb272]? = some (.cells #[.int .i64 t268, .slice Aoo41 t269.length coo41] 29 (0, 0)) from blk_below (by (with_reducible repeat (first | refine blk_drewN ?_ _ | refine blk_drew ?_ | refine blk_alloc ?_ _)); exact BKgb272.out) hb)
              have n6_ := Aside0.mk (show Kd.S (Kd.slice 3 (Kd.int .i64)) 26 w48 w.heap.size (fun k_ => w47.heap.size ≤ k_ ∧ k_ < w48.heap.size) v280 t279 from lw_S ho0 (below_size (by repeat (first | (with_reducible first | exact HB.out | apply below_alloc | apply pw_below_drewN | apply below_drew1) | exact HB.out))))
              have n7_ := Aside0.mk (below_step (by repeat (first | (with_reducible first | exact HB.out | apply below_alloc | apply pw_below_drewN | apply below_drew1) | exact HB.out)) hb)
              have LEw48 := Aside0.mk (show w47.heap.size ≤ w48.heap.size from hb.size)
              clear HO263
              clear HO266
              clear HO271
              clear HO275
              clear BKgb258
              clear BKgb272
              clear HB
              have HO263 := n0_
              have HO266 := n1_
              have HO271 := n2_
              have HO275 := n3_
              have BKgb258 := n4_
              have BKgb272 := n5_
              have HO281 := n6_
              have HB := n7_
              clear n0_ n1_ n2_ n3_ n4_ n5_ n6_ n7_
              (try clear hb)
              (try clear ho0)
              obtain ⟨Aoo49, coo49, eoo49⟩ := Kd.R_slice (Kd.S_R HO281.out)
              subst eoo49
              refine hK _ _ ⟨(blk_cell BKgb258.out 0).trans rfl, (blk_cell BKgb258.out 1).trans rfl, (blk_cell BKgb272.out 0).trans rfl, (blk_cell BKgb272.out 1).trans rfl⟩ (fun hHeld => ?_)
              clear hK K
              refine norm_ (a' := ?_) ?_ ?_
              rotate_left
              ·show Act.put _ (some 47) _ = _
               simp only [Act.put, List.setIfInBounds_toArray, List.set_cons_zero, List.set_cons_succ, i64_w]
               rfl
              refine one_ (i := 3) (N := (some 48)) (bsA 5 15) rfl rfl (by kernel_rfl) (by decide) (fun K hK => ?_)
              refine goes_ Try.func22 (by kernel_rfl) rfl #[.agg #[.int .i64 t268, .slice Aoo41 t269.length coo41], .agg #[.int .i64 t278, .slice Aoo49 t279.length coo49]] (by rfl) rfl rfl (by (try simp only [List.map_toArray, List.map_cons, List.map_nil]); first | done | rfl | (simp only [List.length_drop, List.length_take]; rfl)) ?_
              (with_reducible refine (laws_eqHyper.calls k t268 _ _ t269 t278 _ _ t279 true _ ?side1 ?side2 ?side3 ?side4 A16.out).mono ?_)
              (case side1 => repeat (first | exact (Kd.R_reads' (Kd.S_R HO271.out)).2.2 | (with_reducible refine Kd.C_alloc ?_ _) | (with_reducible refine Kd.C_drewN ?_ _) | (with_reducible refine Kd.C_drew ?_)))
              (case side2 => exact (Kd.R_reads' (Kd.S_R HO271.out)).2.1)
              (case side3 => repeat (first | exact (Kd.R_reads' (Kd.S_R HO281.out)).2.2 | (with_reducible refine Kd.C_alloc ?_ _) | (with_reducible refine Kd.C_drewN ?_ _) | (with_reducible refine Kd.C_drew ?_)))
              (case side4 => exact (Kd.R_reads' (Kd.S_R HO281.out)).2.1)
              rintro e w50 ⟨rfl, hb⟩
              refine ⟨_, rfl, ?_⟩
              have n0_ := Aside0.mk (show Kd.S (Kd.slice 3 (Kd.int .i64)) 26 w50 w.heap.size (fun k_ => w35.heap.size ≤ k_ ∧ k_ < w36.heap.size) (.slice Aoo37 t261.length coo37) t261 from Kd.S_below (by (with_reducible repeat (first | apply Kd.S_alloc | apply Kd.S_drewN | apply Kd.S_drew)); exact HO263.out) hb)
              have n1_ := Aside0.mk (show Kd.R (Kd.int .i64) 3 w50 w.heap.size (fun k_ => w36.heap.size ≤ k_ ∧ k_ < w38.heap.size) (.slice Aoo39 t264.length coo39) t264 from Kd.R_below (by (with_reducible repeat (first | apply Kd.R_alloc | apply Kd.R_drewN | apply Kd.R_drew)); exact HO266.out) hb)
              have n2_ := Aside0.mk (show Kd.S (Kd.slice 3 (Kd.int .i64)) 26 w50 w.heap.size (fun k_ => w38.heap.size ≤ k_ ∧ k_ < w40.heap.size) (.slice Aoo41 t269.length coo41) t269 from Kd.S_below (by (with_reducible repeat (first | apply Kd.S_alloc | apply Kd.S_drewN | apply Kd.S_drew)); exact HO271.out) hb)
              have n3_ := Aside0.mk (show Kd.R (Kd.int .i64) 3 w50 w.heap.size (fun k_ => w43.heap.size ≤ k_ ∧ k_ < w44.heap.size) (.slice Aoo45 t273.length coo45) t273 from Kd.R_below (by (with_reducible repeat (first | apply Kd.R_alloc | apply Kd.R_drewN | apply Kd.R_drew)); exact HO275.out) hb)
              have n4_ := Aside0.mk (show Kd.S (Kd.slice 3 (Kd.int .i64)) 26 w50 w.heap.size (fun k_ => w47.heap.size ≤ k_ ∧ k_ < w48.heap.size) (.slice Aoo49 t279.length coo49) t279 from Kd.S_below (by (with_reducible repeat (first | apply Kd.S_alloc | apply Kd.S_drewN | apply Kd.S_drew)); exact HO281.out) hb)
              have n5_ := Aside0.mk (show w50.heap[gb258]? = some (.cells #[.int .i64 a0_0, .slice A0_1 l0_1.length c0_1] 24 (0, 0)) from blk_below (by (with_reducible repeat (first | refine blk_drewN ?_ _ | refine blk_drew ?_ | refine blk_alloc ?_ _)); exact BKgb258.out) hb)
              have n6_ := Aside0.mk (show w50.heap[gb272]? = some (.cells #[.int .i64 t268, .slice Aoo41 t269.length coo41] 29 (0, 0)) from blk_below (by (with_reducible repeat (first | refine blk_drewN ?_ _ | refine blk_drew ?_ | refine blk_alloc ?_ _)); exact BKgb272.out) hb)
              have n7_ := Aside0.mk (below_step (by repeat (first | (with_reducible first | exact HB.out | apply below_alloc | apply pw_below_drewN | apply below_drew1) | exact HB.out)) hb)
              have LEw50 := Aside0.mk (show w48.heap.size ≤ w50.heap.size from hb.size)
              clear HO263
              clear HO266
              clear HO271
              clear HO275
              clear HO281
              clear BKgb258
              clear BKgb272
              clear HB
              have HO263 := n0_
              have HO266 := n1_
              have HO271 := n2_
              have HO275 := n3_
              have HO281 := n4_
              have BKgb258 := n5_
              have BKgb272 := n6_
              have HB := n7_
              clear n0_ n1_ n2_ n3_ n4_ n5_ n6_ n7_
              (try clear hb)
              refine hK _ _ ⟨(blk_cell BKgb258.out 0).trans rfl, (blk_cell BKgb258.out 1).trans rfl, (blk_cell BKgb272.out 0).trans rfl, (blk_cell BKgb272.out 1).trans rfl⟩ (fun hHeld => ?_)
              clear hK K
              refine norm_ (a' := ?_) ?_ ?_
              rotate_left
              ·show Act.put _ (some 48) _ = _
               simp only [Act.put, List.setIfInBounds_toArray, List.set_cons_zero, List.set_cons_succ, i64_w]
               rfl
              refine pure_ (i := 4) (N := (some 49)) (v := ?_) (a' := ?_) (bsA 5 31) rfl rfl (by kernel_rfl) (fun _ _ _ h => h) (Or.inl ⟨by rfl, ?_⟩) ?_ ?_
              rotate_left
              ·intro w'
               go_simp
               with_reducible rfl
              rotate_left
              ·simp only [Act.put, List.setIfInBounds_toArray, List.set_cons_zero, List.set_cons_succ, i64_w]
               rfl
              refine done_ (by kernel_rfl) ?_
              (try clear hcz_gb258_0)
              (try clear hfz_gb258_0)
              have hcz_gb258_0 : w50.cell? ⟨gb258, 0, none⟩ = some (.int .i64 a0_0) := (blk_cell BKgb258.out 0).trans rfl
              have hfz_gb258_0 := blk_frozen BKgb258.out 0
              (try clear hcz_gb258_1)
              (try clear hfz_gb258_1)
              have hcz_gb258_1 : w50.cell? ⟨gb258, 1, none⟩ = some (.slice A0_1 l0_1.length c0_1) := (blk_cell BKgb258.out 1).trans rfl
              have hfz_gb258_1 := blk_frozen BKgb258.out 1
              (try clear hcz_gb272_0)
              (try clear hfz_gb272_0)
              have hcz_gb272_0 : w50.cell? ⟨gb272, 0, none⟩ = some (.int .i64 t268) := (blk_cell BKgb272.out 0).trans rfl
              have hfz_gb272_0 := blk_frozen BKgb272.out 0
              (try clear hcz_gb272_1)
              (try clear hfz_gb272_1)
              have hcz_gb272_1 : w50.cell? ⟨gb272, 1, none⟩ = some (.slice Aoo41 t269.length coo41) := (blk_cell BKgb272.out 1).trans rfl
              have hfz_gb272_1 := blk_frozen BKgb272.out 1
              go_wp2_with (first | ((with_reducible refine gate_callee (f := 23) rfl ?_); refine goesL_ (some 52) rfl rfl Try.func23 (by kernel_rfl) rfl #[.agg #[.int .i64 t268, .slice Aoo41 t269.length coo41], .int .i64 1] rfl (by (try simp only [List.map_toArray, List.map_cons, List.map_nil]); first | done | rfl | (simp only [List.length_drop, List.length_take]; rfl)) ?_; (with_reducible refine (laws_markHyper.calls k t268 (fun k_ => w38.heap.size ≤ k_ ∧ k_ < w40.heap.size) (.slice Aoo41 t269.length coo41) t269 1 t283 t284 w _ ?side1 ?side2 A18.out).mono ?_); (case side1 => repeat (first | (with_reducible first | exact HB.out | apply below_alloc | apply pw_below_drewN | apply below_drew1) | exact HB.out)); (case side2 => (with_reducible repeat (first | apply Kd.S_alloc | apply Kd.S_drewN | apply Kd.S_drew)); exact HO271.out); rintro e w51 ⟨rfl, hy0, hb, hkp⟩; refine ⟨_, rfl, ?_⟩; have n0_ := Aside0.mk (show Kd.S (Kd.slice 3 (Kd.int .i64)) 26 w51 w.heap.size (fun k_ => w35.heap.size ≤ k_ ∧ k_ < w36.heap.size) (.slice Aoo37 t261.length coo37) t261 from lw_keptS (by (with_reducible repeat (first | apply Kd.S_alloc | apply Kd.S_drewN | apply Kd.S_drew)); exact HO263.out) hkp (by have hLEw34_ := LEw34.out; have hLEw35_ := LEw35.out; have hLEw36_ := LEw36.out; have hLEw38_ := LEw38.out; have hLEw40_ := LEw40.out; have hLEw42_ := LEw42.out; have hLEw43_ := LEw43.out; have hLEw44_ := LEw44.out; have hLEw46_ := LEw46.out; have hLEw47_ := LEw47.out; have hLEw48_ := LEw48.out; have hLEw50_ := LEw50.out; have hGLgb258_ := GLgb258.out; have hGUgb258_ := GUgb258.out; have hGLgb272_ := GLgb272.out; have hGUgb272_ := GUgb272.out; omega)); have n1_ := Aside0.mk (show Kd.R (Kd.int .i64) 3 w51 w.heap.size (fun k_ => w36.heap.size ≤ k_ ∧ k_ < w38.heap.size) (.slice Aoo39 t264.length coo39) t264 from lw_keptR (by (with_reducible repeat (first | apply Kd.R_alloc | apply Kd.R_drewN | apply Kd.R_drew)); exact HO266.out) hkp (by have hLEw34_ := LEw34.out; have hLEw35_ := LEw35.out; have hLEw36_ := LEw36.out; have hLEw38_ := LEw38.out; have hLEw40_ := LEw40.out; have hLEw42_ := LEw42.out; have hLEw43_ := LEw43.out; have hLEw44_ := LEw44.out; have hLEw46_ := LEw46.out; have hLEw47_ := LEw47.out; have hLEw48_ := LEw48.out; have hLEw50_ := LEw50.out; have hGLgb258_ := GLgb258.out; have hGUgb258_ := GUgb258.out; have hGLgb272_ := GLgb272.out; have hGUgb272_ := GUgb272.out; omega)); have n2_ := Aside0.mk (show Kd.S (Kd.slice 3 (Kd.int .i64)) 26 w51 w.heap.size (fun k_ => w38.heap.size ≤ k_ ∧ k_ < w40.heap.size) (.slice Aoo41 t269.length coo41) t284 from hy0); have n3_ := Aside0.mk (show Kd.R (Kd.int .i64) 3 w51 w.heap.size (fun k_ => w43.heap.size ≤ k_ ∧ k_ < w44.heap.size) (.slice Aoo45 t273.length coo45) t273 from lw_keptR (by (with_reducible repeat (first | apply Kd.R_alloc | apply Kd.R_drewN | apply Kd.R_drew)); exact HO275.out) hkp (by have hLEw34_ := LEw34.out; have hLEw35_ := LEw35.out; have hLEw36_ := LEw36.out; have hLEw38_ := LEw38.out; have hLEw40_ := LEw40.out; have hLEw42_ := LEw42.out; have hLEw43_ := LEw43.out; have hLEw44_ := LEw44.out; have hLEw46_ := LEw46.out; have hLEw47_ := LEw47.out; have hLEw48_ := LEw48.out; have hLEw50_ := LEw50.out; have hGLgb258_ := GLgb258.out; have hGUgb258_ := GUgb258.out; have hGLgb272_ := GLgb272.out; have hGUgb272_ := GUgb272.out; omega)); have n4_ := Aside0.mk (show Kd.S (Kd.slice 3 (Kd.int .i64)) 26 w51 w.heap.size (fun k_ => w47.heap.size ≤ k_ ∧ k_ < w48.heap.size) (.slice Aoo49 t279.length coo49) t279 from lw_keptS (by (with_reducible repeat (first | apply Kd.S_alloc | apply Kd.S_drewN | apply Kd.S_drew)); exact HO281.out) hkp (by have hLEw34_ := LEw34.out; have hLEw35_ := LEw35.out; have hLEw36_ := LEw36.out; have hLEw38_ := LEw38.out; have hLEw40_ := LEw40.out; have hLEw42_ := LEw42.out; have hLEw43_ := LEw43.out; have hLEw44_ := LEw44.out; have hLEw46_ := LEw46.out; have hLEw47_ := LEw47.out; have hLEw48_ := LEw48.out; have hLEw50_ := LEw50.out; have hGLgb258_ := GLgb258.out; have hGUgb258_ := GUgb258.out; have hGLgb272_ := GLgb272.out; have hGUgb272_ := GUgb272.out; omega)); have n5_ := Aside0.mk (show w51.heap[gb258]? = some (.cells #[.int .i64 a0_0, .slice A0_1 l0_1.length c0_1] 24 (0, 0)) from blk_kept (by (with_reducible repeat (first | refine blk_drewN ?_ _ | refine blk_drew ?_ | refine blk_alloc ?_ _)); exact BKgb258.out) hkp (fun hs_ => by have h1_ : w38.heap.size ≤ gb258 ∧ gb258 < w40.heap.size := hs_; have hLEw34_ := LEw34.out; have hLEw35_ := LEw35.out; have hLEw36_ := LEw36.out; have hLEw38_ := LEw38.out; have hLEw40_ := LEw40.out; have hLEw42_ := LEw42.out; have hLEw43_ := LEw43.out; have hLEw44_ := LEw44.out; have hLEw46_ := LEw46.out; have hLEw47_ := LEw47.out; have hLEw48_ := LEw48.out; have hLEw50_ := LEw50.out; have hGLgb258_ := GLgb258.out; have hGUgb258_ := GUgb258.out; have hGLgb272_ := GLgb272.out; have hGUgb272_ := GUgb272.out; omega)); have n6_ := Aside0.mk (show w51.heap[gb272]? = some (.cells #[.int .i64 t268, .slice Aoo41 t269.length coo41] 29 (0, 0)) from blk_kept (by (with_reducible repeat (first | refine blk_drewN ?_ _ | refine blk_drew ?_ | refine blk_alloc ?_ _)); exact BKgb272.out) hkp (fun hs_ => by have h1_ : w38.heap.size ≤ gb272 ∧ gb272 < w40.heap.size := hs_; have hLEw34_ := LEw34.out; have hLEw35_ := LEw35.out; have hLEw36_ := LEw36.out; have hLEw38_ := LEw38.out; have hLEw40_ := LEw40.out; have hLEw42_ := LEw42.out; have hLEw43_ := LEw43.out; have hLEw44_ := LEw44.out; have hLEw46_ := LEw46.out; have hLEw47_ := LEw47.out; have hLEw48_ := LEw48.out; have hLEw50_ := LEw50.out; have hGLgb258_ := GLgb258.out; have hGUgb258_ := GUgb258.out; have hGLgb272_ := GLgb272.out; have hGUgb272_ := GUgb272.out; omega)); have n7_ := Aside0.mk (hb); have LEw51 := Aside0.mk (show w50.heap.size ≤ w51.heap.size from hkp.1); clear HO263; clear HO266; clear HO271; clear HO275; clear HO281; clear BKgb258; clear BKgb272; clear HB; have HO263 := n0_; have HO266 := n1_; have HO271 := n2_; have HO275 := n3_; have HO281 := n4_; have BKgb258 := n5_; have BKgb272 := n6_; have HB := n7_; clear n0_ n1_ n2_ n3_ n4_ n5_ n6_ n7_; (try clear hb); (try clear hkp); (try clear hkq); (try clear hy0); (try clear hcz_gb258_0); (try clear hfz_gb258_0); have hcz_gb258_0 : w51.cell? ⟨gb258, 0, none⟩ = some (.int .i64 a0_0) := (blk_cell BKgb258.out 0).trans rfl; have hfz_gb258_0 := blk_frozen BKgb258.out 0; (try clear hcz_gb258_1); (try clear hfz_gb258_1); have hcz_gb258_1 : w51.cell? ⟨gb258, 1, none⟩ = some (.slice A0_1 l0_1.length c0_1) := (blk_cell BKgb258.out 1).trans rfl; have hfz_gb258_1 := blk_frozen BKgb258.out 1; (try clear hcz_gb272_0); (try clear hfz_gb272_0); have hcz_gb272_0 : w51.cell? ⟨gb272, 0, none⟩ = some (.int .i64 t268) := (blk_cell BKgb272.out 0).trans rfl; have hfz_gb272_0 := blk_frozen BKgb272.out 0; (try clear hcz_gb272_1); (try clear hfz_gb272_1); have hcz_gb272_1 : w51.cell? ⟨gb272, 1, none⟩ = some (.slice Aoo41 t269.length coo41) := (blk_cell BKgb272.out 1).trans rfl; have hfz_gb272_1 := blk_frozen BKgb272.out 1) | (go_at_call 21; refine calls_of_args (args' := #[.slice Aoo45 t273.length coo45, .slice Aoo39 t264.length coo39]) (by first | rfl) ?_; (with_reducible refine (laws_eqIntS.calls k _ _ t273 _ _ t264 true _ ?side1 ?side2 ?side3 ?side4 A20.out).mono ?_); (case side1 => repeat (first | exact (Kd.R_reads' HO275.out).2.2 | (with_reducible refine Kd.C_alloc ?_ _) | (with_reducible refine Kd.C_drewN ?_ _) | (with_reducible refine Kd.C_drew ?_))); (case side2 => exact (Kd.R_reads' HO275.out).2.1); (case side3 => repeat (first | exact (Kd.R_reads' HO266.out).2.2 | (with_reducible refine Kd.C_alloc ?_ _) | (with_reducible refine Kd.C_drewN ?_ _) | (with_reducible refine Kd.C_drew ?_))); (case side4 => exact (Kd.R_reads' HO266.out).2.1); rintro e w52 ⟨rfl, hd⟩; have hb := Drawn0.below hd; have n0_ := Aside0.mk (show Kd.S (Kd.slice 3 (Kd.int .i64)) 26 w52 w.heap.size (fun k_ => w35.heap.size ≤ k_ ∧ k_ < w36.heap.size) (.slice Aoo37 t261.length coo37) t261 from Kd.S_below HO263.out hb); have n1_ := Aside0.mk (show Kd.R (Kd.int .i64) 3 w52 w.heap.size (fun k_ => w36.heap.size ≤ k_ ∧ k_ < w38.heap.size) (.slice Aoo39 t264.length coo39) t264 from Kd.R_below HO266.out hb); have n2_ := Aside0.mk (show Kd.S (Kd.slice 3 (Kd.int .i64)) 26 w52 w.heap.size (fun k_ => w38.heap.size ≤ k_ ∧ k_ < w40.heap.size) (.slice Aoo41 t269.length coo41) t284 from Kd.S_below HO271.out hb); have n3_ := Aside0.mk (show Kd.R (Kd.int .i64) 3 w52 w.heap.size (fun k_ => w43.heap.size ≤ k_ ∧ k_ < w44.heap.size) (.slice Aoo45 t273.length coo45) t273 from Kd.R_below HO275.out hb); have n4_ := Aside0.mk (show Kd.S (Kd.slice 3 (Kd.int .i64)) 26 w52 w.heap.size (fun k_ => w47.heap.size ≤ k_ ∧ k_ < w48.heap.size) (.slice Aoo49 t279.length coo49) t279 from Kd.S_below HO281.out hb); have n5_ := Aside0.mk (show w52.heap[gb258]? = some (.cells #[.int .i64 a0_0, .slice A0_1 l0_1.length c0_1] 24 (0, 0)) from blk_below BKgb258.out hb); have n6_ := Aside0.mk (show w52.heap[gb272]? = some (.cells #[.int .i64 t268, .slice Aoo41 t269.length coo41] 29 (0, 0)) from blk_below BKgb272.out hb); have n7_ := Aside0.mk (below_step HB.out hb); have n8_ := Aside0.mk (show w51.heap.size ≤ w52.heap.size from hb.size); clear HO263; clear HO266; clear HO271; clear HO275; clear HO281; clear BKgb258; clear BKgb272; clear HB; have HO263 := n0_; have HO266 := n1_; have HO271 := n2_; have HO275 := n3_; have HO281 := n4_; have BKgb258 := n5_; have BKgb272 := n6_; have HB := n7_; have LEw52 := n8_; clear n0_ n1_ n2_ n3_ n4_ n5_ n6_ n7_ n8_; clear hb hd; (try clear hcz_gb258_0); (try clear hfz_gb258_0); have hcz_gb258_0 : w52.cell? ⟨gb258, 0, none⟩ = some (.int .i64 a0_0) := (blk_cell BKgb258.out 0).trans rfl; have hfz_gb258_0 := blk_frozen BKgb258.out 0; (try clear hcz_gb258_1); (try clear hfz_gb258_1); have hcz_gb258_1 : w52.cell? ⟨gb258, 1, none⟩ = some (.slice A0_1 l0_1.length c0_1) := (blk_cell BKgb258.out 1).trans rfl; have hfz_gb258_1 := blk_frozen BKgb258.out 1; (try clear hcz_gb272_0); (try clear hfz_gb272_0); have hcz_gb272_0 : w52.cell? ⟨gb272, 0, none⟩ = some (.int .i64 t268) := (blk_cell BKgb272.out 0).trans rfl; have hfz_gb272_0 := blk_frozen BKgb272.out 0; (try clear hcz_gb272_1); (try clear hfz_gb272_1); have hcz_gb272_1 : w52.cell? ⟨gb272, 1, none⟩ = some (.slice Aoo41 t269.length coo41) := (blk_cell BKgb272.out 1).trans rfl; have hfz_gb272_1 := blk_frozen BKgb272.out 1) | ((with_reducible refine gate_callee (f := 24) rfl ?_); refine goesL_ (some 68) rfl rfl Try.func24 (by kernel_rfl) rfl #[.slice Aoo45 t273.length coo45, .int .i64 1] rfl (by (try simp only [List.map_toArray, List.map_cons, List.map_nil]); first | done | rfl | (simp only [List.length_drop, List.length_take]; rfl)) ?_; (with_reducible refine (laws_markIntS.calls k (fun k_ => w43.heap.size ≤ k_ ∧ k_ < w44.heap.size) (.slice Aoo45 t273.length coo45) t273 1 t286 t287 w _ ?side1 ?side2 A22.out).mono ?_); (case side1 => repeat (first | (with_reducible first | exact HB.out | apply below_alloc | apply pw_below_drewN | apply below_drew1) | exact HB.out)); (case side2 => (with_reducible repeat (first | apply Kd.R_alloc | apply Kd.R_drewN | apply Kd.R_drew)); exact HO275.out); rintro e w53 ⟨rfl, hy0, hb, hkp⟩; refine ⟨_, rfl, ?_⟩; have n0_ := Aside0.mk (show Kd.S (Kd.slice 3 (Kd.int .i64)) 26 w53 w.heap.size (fun k_ => w35.heap.size ≤ k_ ∧ k_ < w36.heap.size) (.slice Aoo37 t261.length coo37) t261 from lw_keptS (by (with_reducible repeat (first | apply Kd.S_alloc | apply Kd.S_drewN | apply Kd.S_drew)); exact HO263.out) hkp (by have hLEw34_ := LEw34.out; have hLEw35_ := LEw35.out; have hLEw36_ := LEw36.out; have hLEw38_ := LEw38.out; have hLEw40_ := LEw40.out; have hLEw42_ := LEw42.out; have hLEw43_ := LEw43.out; have hLEw44_ := LEw44.out; have hLEw46_ := LEw46.out; have hLEw47_ := LEw47.out; have hLEw48_ := LEw48.out; have hLEw50_ := LEw50.out; have hLEw51_ := LEw51.out; have hLEw52_ := LEw52.out; have hGLgb258_ := GLgb258.out; have hGUgb258_ := GUgb258.out; have hGLgb272_ := GLgb272.out; have hGUgb272_ := GUgb272.out; omega)); have n1_ := Aside0.mk (show Kd.R (Kd.int .i64) 3 w53 w.heap.size (fun k_ => w36.heap.size ≤ k_ ∧ k_ < w38.heap.size) (.slice Aoo39 t264.length coo39) t264 from lw_keptR (by (with_reducible repeat (first | apply Kd.R_alloc | apply Kd.R_drewN | apply Kd.R_drew)); exact HO266.out) hkp (by have hLEw34_ := LEw34.out; have hLEw35_ := LEw35.out; have hLEw36_ := LEw36.out; have hLEw38_ := LEw38.out; have hLEw40_ := LEw40.out; have hLEw42_ := LEw42.out; have hLEw43_ := LEw43.out; have hLEw44_ := LEw44.out; have hLEw46_ := LEw46.out; have hLEw47_ := LEw47.out; have hLEw48_ := LEw48.out; have hLEw50_ := LEw50.out; have hLEw51_ := LEw51.out; have hLEw52_ := LEw52.out; have hGLgb258_ := GLgb258.out; have hGUgb258_ := GUgb258.out; have hGLgb272_ := GLgb272.out; have hGUgb272_ := GUgb272.out; omega)); have n2_ := Aside0.mk (show Kd.S (Kd.slice 3 (Kd.int .i64)) 26 w53 w.heap.size (fun k_ => w38.heap.size ≤ k_ ∧ k_ < w40.heap.size) (.slice Aoo41 t269.length coo41) t284 from lw_keptS (by (with_reducible repeat (first | apply Kd.S_alloc | apply Kd.S_drewN | apply Kd.S_drew)); exact HO271.out) hkp (by have hLEw34_ := LEw34.out; have hLEw35_ := LEw35.out; have hLEw36_ := LEw36.out; have hLEw38_ := LEw38.out; have hLEw40_ := LEw40.out; have hLEw42_ := LEw42.out; have hLEw43_ := LEw43.out; have hLEw44_ := LEw44.out; have hLEw46_ := LEw46.out; have hLEw47_ := LEw47.out; have hLEw48_ := LEw48.out; have hLEw50_ := LEw50.out; have hLEw51_ := LEw51.out; have hLEw52_ := LEw52.out; have hGLgb258_ := GLgb258.out; have hGUgb258_ := GUgb258.out; have hGLgb272_ := GLgb272.out; have hGUgb272_ := GUgb272.out; omega)); have n3_ := Aside0.mk (show Kd.R (Kd.int .i64) 3 w53 w.heap.size (fun k_ => w43.heap.size ≤ k_ ∧ k_ < w44.heap.size) (.slice Aoo45 t273.length coo45) t287 from lw_mark rfl (by (with_reducible repeat (first | apply Kd.R_alloc | apply Kd.R_drewN | apply Kd.R_drew)); exact HO275.out) hy0); have n4_ := Aside0.mk (show Kd.S (Kd.slice 3 (Kd.int .i64)) 26 w53 w.heap.size (fun k_ => w47.heap.size ≤ k_ ∧ k_ < w48.heap.size) (.slice Aoo49 t279.length coo49) t279 from lw_keptS (by (with_reducible repeat (first | apply Kd.S_alloc | apply Kd.S_drewN | apply Kd.S_drew)); exact HO281.out) hkp (by have hLEw34_ := LEw34.out; have hLEw35_ := LEw35.out; have hLEw36_ := LEw36.out; have hLEw38_ := LEw38.out; have hLEw40_ := LEw40.out; have hLEw42_ := LEw42.out; have hLEw43_ := LEw43.out; have hLEw44_ := LEw44.out; have hLEw46_ := LEw46.out; have hLEw47_ := LEw47.out; have hLEw48_ := LEw48.out; have hLEw50_ := LEw50.out; have hLEw51_ := LEw51.out; have hLEw52_ := LEw52.out; have hGLgb258_ := GLgb258.out; have hGUgb258_ := GUgb258.out; have hGLgb272_ := GLgb272.out; have hGUgb272_ := GUgb272.out; omega)); have n5_ := Aside0.mk (show w53.heap[gb258]? = some (.cells #[.int .i64 a0_0, .slice A0_1 l0_1.length c0_1] 24 (0, 0)) from blk_kept (by (with_reducible repeat (first | refine blk_drewN ?_ _ | refine blk_drew ?_ | refine blk_alloc ?_ _)); exact BKgb258.out) hkp (fun hs_ => by have h1_ : w43.heap.size ≤ gb258 ∧ gb258 < w44.heap.size := hs_; have hLEw34_ := LEw34.out; have hLEw35_ := LEw35.out; have hLEw36_ := LEw36.out; have hLEw38_ := LEw38.out; have hLEw40_ := LEw40.out; have hLEw42_ := LEw42.out; have hLEw43_ := LEw43.out; have hLEw44_ := LEw44.out; have hLEw46_ := LEw46.out; have hLEw47_ := LEw47.out; have hLEw48_ := LEw48.out; have hLEw50_ := LEw50.out; have hLEw51_ := LEw51.out; have hLEw52_ := LEw52.out; have hGLgb258_ := GLgb258.out; have hGUgb258_ := GUgb258.out; have hGLgb272_ := GLgb272.out; have hGUgb272_ := GUgb272.out; omega)); have n6_ := Aside0.mk (show w53.heap[gb272]? = some (.cells #[.int .i64 t268, .slice Aoo41 t269.length coo41] 29 (0, 0)) from blk_kept (by (with_reducible repeat (first | refine blk_drewN ?_ _ | refine blk_drew ?_ | refine blk_alloc ?_ _)); exact BKgb272.out) hkp (fun hs_ => by have h1_ : w43.heap.size ≤ gb272 ∧ gb272 < w44.heap.size := hs_; have hLEw34_ := LEw34.out; have hLEw35_ := LEw35.out; have hLEw36_ := LEw36.out; have hLEw38_ := LEw38.out; have hLEw40_ := LEw40.out; have hLEw42_ := LEw42.out; have hLEw43_ := LEw43.out; have hLEw44_ := LEw44.out; have hLEw46_ := LEw46.out; have hLEw47_ := LEw47.out; have hLEw48_ := LEw48.out; have hLEw50_ := LEw50.out; have hLEw51_ := LEw51.out; have hLEw52_ := LEw52.out; have hGLgb258_ := GLgb258.out; have hGUgb258_ := GUgb258.out; have hGLgb272_ := GLgb272.out; have hGUgb272_ := GUgb272.out; omega)); have n7_ := Aside0.mk (hb); have LEw53 := Aside0.mk (show w52.heap.size ≤ w53.heap.size from hkp.1); clear HO263; clear HO266; clear HO271; clear HO275; clear HO281; clear BKgb258; clear BKgb272; clear HB; have HO263 := n0_; have HO266 := n1_; have HO271 := n2_; have HO275 := n3_; have HO281 := n4_; have BKgb258 := n5_; have BKgb272 := n6_; have HB := n7_; clear n0_ n1_ n2_ n3_ n4_ n5_ n6_ n7_; (try clear hb); (try clear hkp); (try clear hkq); (try clear hy0); (try clear hcz_gb258_0); (try clear hfz_gb258_0); have hcz_gb258_0 : w53.cell? ⟨gb258, 0, none⟩ = some (.int .i64 a0_0) := (blk_cell BKgb258.out 0).trans rfl; have hfz_gb258_0 := blk_frozen BKgb258.out 0; (try clear hcz_gb258_1); (try clear hfz_gb258_1); have hcz_gb258_1 : w53.cell? ⟨gb258, 1, none⟩ = some (.slice A0_1 l0_1.length c0_1) := (blk_cell BKgb258.out 1).trans rfl; have hfz_gb258_1 := blk_frozen BKgb258.out 1; (try clear hcz_gb272_0); (try clear hfz_gb272_0); have hcz_gb272_0 : w53.cell? ⟨gb272, 0, none⟩ = some (.int .i64 t268) := (blk_cell BKgb272.out 0).trans rfl; have hfz_gb272_0 := blk_frozen BKgb272.out 0; (try clear hcz_gb272_1); (try clear hfz_gb272_1); have hcz_gb272_1 : w53.cell? ⟨gb272, 1, none⟩ = some (.slice Aoo41 t269.length coo41) := (blk_cell BKgb272.out 1).trans rfl; have hfz_gb272_1 := blk_frozen BKgb272.out 1) | ((with_reducible refine gate_callee (f := 25) rfl ?_); refine goesL_ (some 71) rfl rfl Try.func25 (by kernel_rfl) rfl #[.slice Aoo45 t287.length coo45, .int .i64 1] rfl (by (try simp only [List.map_toArray, List.map_cons, List.map_nil]); first | done | (rw [show t287.length = t273.length from (Kd.R_reads' HO275.out).1.symm] <;> rfl) | rfl | (simp only [List.length_drop, List.length_take]; rfl)) ?_; (with_reducible refine (laws_heldIntS.calls k _ _ t287 1 t288 _ ?side1 ?side2 A23.out).mono ?_); (case side1 => repeat (first | exact (Kd.R_reads' HO275.out).2.2 | (with_reducible refine Kd.C_alloc ?_ _) | (with_reducible refine Kd.C_drewN ?_ _) | (with_reducible refine Kd.C_drew ?_))); (case side2 => rw [show t287.length = t273.length from (Kd.R_reads' HO275.out).1.symm]; exact (Kd.R_reads' HO275.out).2.1); rintro e w54 ⟨rfl, hd⟩; refine ⟨_, rfl, ?_⟩; have hb := Drawn0.below hd; have n0_ := Aside0.mk (show Kd.S (Kd.slice 3 (Kd.int .i64)) 26 w54 w.heap.size (fun k_ => w35.heap.size ≤ k_ ∧ k_ < w36.heap.size) (.slice Aoo37 t261.length coo37) t261 from Kd.S_below HO263.out hb); have n1_ := Aside0.mk (show Kd.R (Kd.int .i64) 3 w54 w.heap.size (fun k_ => w36.heap.size ≤ k_ ∧ k_ < w38.heap.size) (.slice Aoo39 t264.length coo39) t264 from Kd.R_below HO266.out hb); have n2_ := Aside0.mk (show Kd.S (Kd.slice 3 (Kd.int .i64)) 26 w54 w.heap.size (fun k_ => w38.heap.size ≤ k_ ∧ k_ < w40.heap.size) (.slice Aoo41 t269.length coo41) t284 from Kd.S_below HO271.out hb); have n3_ := Aside0.mk (show Kd.R (Kd.int .i64) 3 w54 w.heap.size (fun k_ => w43.heap.size ≤ k_ ∧ k_ < w44.heap.size) (.slice Aoo45 t273.length coo45) t287 from Kd.R_below HO275.out hb); have n4_ := Aside0.mk (show Kd.S (Kd.slice 3 (Kd.int .i64)) 26 w54 w.heap.size (fun k_ => w47.heap.size ≤ k_ ∧ k_ < w48.heap.size) (.slice Aoo49 t279.length coo49) t279 from Kd.S_below HO281.out hb); have n5_ := Aside0.mk (show w54.heap[gb258]? = some (.cells #[.int .i64 a0_0, .slice A0_1 l0_1.length c0_1] 24 (0, 0)) from blk_below BKgb258.out hb); have n6_ := Aside0.mk (show w54.heap[gb272]? = some (.cells #[.int .i64 t268, .slice Aoo41 t269.length coo41] 29 (0, 0)) from blk_below BKgb272.out hb); have n7_ := Aside0.mk (below_step HB.out hb); have n8_ := Aside0.mk (show w53.heap.size ≤ w54.heap.size from hb.size); clear HO263; clear HO266; clear HO271; clear HO275; clear HO281; clear BKgb258; clear BKgb272; clear HB; have HO263 := n0_; have HO266 := n1_; have HO271 := n2_; have HO275 := n3_; have HO281 := n4_; have BKgb258 := n5_; have BKgb272 := n6_; have HB := n7_; have LEw54 := n8_; clear n0_ n1_ n2_ n3_ n4_ n5_ n6_ n7_ n8_; clear hb hd; (try clear hcz_gb258_0); (try clear hfz_gb258_0); have hcz_gb258_0 : w54.cell? ⟨gb258, 0, none⟩ = some (.int .i64 a0_0) := (blk_cell BKgb258.out 0).trans rfl; have hfz_gb258_0 := blk_frozen BKgb258.out 0; (try clear hcz_gb258_1); (try clear hfz_gb258_1); have hcz_gb258_1 : w54.cell? ⟨gb258, 1, none⟩ = some (.slice A0_1 l0_1.length c0_1) := (blk_cell BKgb258.out 1).trans rfl; have hfz_gb258_1 := blk_frozen BKgb258.out 1; (try clear hcz_gb272_0); (try clear hfz_gb272_0); have hcz_gb272_0 : w54.cell? ⟨gb272, 0, none⟩ = some (.int .i64 t268) := (blk_cell BKgb272.out 0).trans rfl; have hfz_gb272_0 := blk_frozen BKgb272.out 0; (try clear hcz_gb272_1); (try clear hfz_gb272_1); have hcz_gb272_1 : w54.cell? ⟨gb272, 1, none⟩ = some (.slice Aoo41 t269.length coo41) := (blk_cell BKgb272.out 1).trans rfl; have hfz_gb272_1 := blk_frozen BKgb272.out 1) | ((with_reducible refine gate_callee (f := 19) rfl ?_); refine goesL_ (some 79) rfl rfl Try.func19 (by kernel_rfl) rfl #[.agg #[.int .i64 a0_0, .slice A0_1 l0_1.length c0_1]] rfl (by (try simp only [List.map_toArray, List.map_cons, List.map_nil]); first | done | rfl | (simp only [List.length_drop, List.length_take]; rfl)) ?_; (with_reducible refine (laws_toHyper.calls k a0_0 _ _ l0_1 t289 t290 _ ?side1 ?side2 A26.out).mono ?_); (case side1 => repeat (first | exact (Kd.C_below HR0_1.out (by repeat (first | (with_reducible first | exact HB.out | apply below_alloc | apply pw_below_drewN | apply below_drew1) | exact HB.out))) | (with_reducible refine Kd.C_alloc ?_ _) | (with_reducible refine Kd.C_drewN ?_ _) | (with_reducible refine Kd.C_drew ?_))); (case side2 => exact HC0_1.out); rintro e w55 ⟨v291, rfl, ho0, hb⟩; refine ⟨_, rfl, ?_⟩; have n0_ := Aside0.mk (show Kd.S (Kd.slice 3 (Kd.int .i64)) 26 w55 w.heap.size (fun k_ => w35.heap.size ≤ k_ ∧ k_ < w36.heap.size) (.slice Aoo37 t261.length coo37) t261 from Kd.S_below (by (with_reducible repeat (first | apply Kd.S_alloc | apply Kd.S_drewN | apply Kd.S_drew)); exact HO263.out) hb); have n1_ := Aside0.mk (show Kd.R (Kd.int .i64) 3 w55 w.heap.size (fun k_ => w36.heap.size ≤ k_ ∧ k_ < w38.heap.size) (.slice Aoo39 t264.length coo39) t264 from Kd.R_below (by (with_reducible repeat (first | apply Kd.R_alloc | apply Kd.R_drewN | apply Kd.R_drew)); exact HO266.out) hb); have n2_ := Aside0.mk (show Kd.S (Kd.slice 3 (Kd.int .i64)) 26 w55 w.heap.size (fun k_ => w38.heap.size ≤ k_ ∧ k_ < w40.heap.size) (.slice Aoo41 t269.length coo41) t284 from Kd.S_below (by (with_reducible repeat (first | apply Kd.S_alloc | apply Kd.S_drewN | apply Kd.S_drew)); exact HO271.out) hb); have n3_ := Aside0.mk (show Kd.R (Kd.int .i64) 3 w55 w.heap.size (fun k_ => w43.heap.size ≤ k_ ∧ k_ < w44.heap.size) (.slice Aoo45 t273.length coo45) t287 from Kd.R_below (by (with_reducible repeat (first | apply Kd.R_alloc | apply Kd.R_drewN | apply Kd.R_drew)); exact HO275.out) hb); have n4_ := Aside0.mk (show Kd.S (Kd.slice 3 (Kd.int .i64)) 26 w55 w.heap.size (fun k_ => w47.heap.size ≤ k_ ∧ k_ < w48.heap.size) (.slice Aoo49 t279.length coo49) t279 from Kd.S_below (by (with_reducible repeat (first | apply Kd.S_alloc | apply Kd.S_drewN | apply Kd.S_drew)); exact HO281.out) hb); have n5_ := Aside0.mk (show w55.heap[gb258]? = some (.cells #[.int .i64 a0_0, .slice A0_1 l0_1.length c0_1] 24 (0, 0)) from blk_below (by (with_reducible repeat (first | refine blk_drewN ?_ _ | refine blk_drew ?_ | refine blk_alloc ?_ _)); exact BKgb258.out) hb); have n6_ := Aside0.mk (show w55.heap[gb272]? = some (.cells #[.int .i64 t268, .slice Aoo41 t269.length coo41] 29 (0, 0)) from blk_below (by (with_reducible repeat (first | refine blk_drewN ?_ _ | refine blk_drew ?_ | refine blk_alloc ?_ _)); exact BKgb272.out) hb); have n7_ := Aside0.mk (show Kd.S (Kd.slice 3 (Kd.int .i64)) 26 w55 w.heap.size (fun k_ => w54.heap.size ≤ k_ ∧ k_ < w55.heap.size) v291 t290 from lw_S ho0 (below_size (by repeat (first | (with_reducible first | exact HB.out | apply below_alloc | apply pw_below_drewN | apply below_drew1) | exact HB.out)))); have n8_ := Aside0.mk (below_step (by repeat (first | (with_reducible first | exact HB.out | apply below_alloc | apply pw_below_drewN | apply below_drew1) | exact HB.out)) hb); have LEw55 := Aside0.mk (show w54.heap.size ≤ w55.heap.size from hb.size); clear HO263; clear HO266; clear HO271; clear HO275; clear HO281; clear BKgb258; clear BKgb272; clear HB; have HO263 := n0_; have HO266 := n1_; have HO271 := n2_; have HO275 := n3_; have HO281 := n4_; have BKgb258 := n5_; have BKgb272 := n6_; have HO292 := n7_; have HB := n8_; clear n0_ n1_ n2_ n3_ n4_ n5_ n6_ n7_ n8_; (try clear hb); (try clear ho0); obtain ⟨Aoo56, coo56, eoo56⟩ := Kd.R_slice (Kd.S_R HO292.out); subst eoo56; (try clear hcz_gb258_0); (try clear hfz_gb258_0); have hcz_gb258_0 : w55.cell? ⟨gb258, 0, none⟩ = some (.int .i64 a0_0) := (blk_cell BKgb258.out 0).trans rfl; have hfz_gb258_0 := blk_frozen BKgb258.out 0; (try clear hcz_gb258_1); (try clear hfz_gb258_1); have hcz_gb258_1 : w55.cell? ⟨gb258, 1, none⟩ = some (.slice A0_1 l0_1.length c0_1) := (blk_cell BKgb258.out 1).trans rfl; have hfz_gb258_1 := blk_frozen BKgb258.out 1; (try clear hcz_gb272_0); (try clear hfz_gb272_0); have hcz_gb272_0 : w55.cell? ⟨gb272, 0, none⟩ = some (.int .i64 t268) := (blk_cell BKgb272.out 0).trans rfl; have hfz_gb272_0 := blk_frozen BKgb272.out 0; (try clear hcz_gb272_1); (try clear hfz_gb272_1); have hcz_gb272_1 : w55.cell? ⟨gb272, 1, none⟩ = some (.slice Aoo41 t269.length coo41) := (blk_cell BKgb272.out 1).trans rfl; have hfz_gb272_1 := blk_frozen BKgb272.out 1) | ((with_reducible refine gate_callee (f := 27) rfl ?_); refine goesL_ (some 81) rfl rfl Try.func27 (by kernel_rfl) rfl #[.agg #[.int .i64 t289, .slice Aoo56 t290.length coo56], .int .i64 a1] rfl (by (try simp only [List.map_toArray, List.map_cons, List.map_nil]); first | done | rfl | (simp only [List.length_drop, List.length_take]; rfl)) ?_; (with_reducible refine (impl_EdgesAt.calls k t289 _ _ t290 a1 t293 t296 _ ?side1 ?side2 A27.out).mono ?_); (case side1 => repeat (first | exact (Kd.R_reads' (Kd.S_R HO292.out)).2.2 | (with_reducible refine Kd.C_alloc ?_ _) | (with_reducible refine Kd.C_drewN ?_ _) | (with_reducible refine Kd.C_drew ?_))); (case side2 => exact (Kd.R_reads' (Kd.S_R HO292.out)).2.1); rintro e w57 ⟨v294, rfl, ho0, hb⟩; refine ⟨_, rfl, ?_⟩; have n0_ := Aside0.mk (show Kd.S (Kd.slice 3 (Kd.int .i64)) 26 w57 w.heap.size (fun k_ => w35.heap.size ≤ k_ ∧ k_ < w36.heap.size) (.slice Aoo37 t261.length coo37) t261 from Kd.S_below (by (with_reducible repeat (first | apply Kd.S_alloc | apply Kd.S_drewN | apply Kd.S_drew)); exact HO263.out) hb); have n1_ := Aside0.mk (show Kd.R (Kd.int .i64) 3 w57 w.heap.size (fun k_ => w36.heap.size ≤ k_ ∧ k_ < w38.heap.size) (.slice Aoo39 t264.length coo39) t264 from Kd.R_below (by (with_reducible repeat (first | apply Kd.R_alloc | apply Kd.R_drewN | apply Kd.R_drew)); exact HO266.out) hb); have n2_ := Aside0.mk (show Kd.S (Kd.slice 3 (Kd.int .i64)) 26 w57 w.heap.size (fun k_ => w38.heap.size ≤ k_ ∧ k_ < w40.heap.size) (.slice Aoo41 t269.length coo41) t284 from Kd.S_below (by (with_reducible repeat (first | apply Kd.S_alloc | apply Kd.S_drewN | apply Kd.S_drew)); exact HO271.out) hb); have n3_ := Aside0.mk (show Kd.R (Kd.int .i64) 3 w57 w.heap.size (fun k_ => w43.heap.size ≤ k_ ∧ k_ < w44.heap.size) (.slice Aoo45 t273.length coo45) t287 from Kd.R_below (by (with_reducible repeat (first | apply Kd.R_alloc | apply Kd.R_drewN | apply Kd.R_drew)); exact HO275.out) hb); have n4_ := Aside0.mk (show Kd.S (Kd.slice 3 (Kd.int .i64)) 26 w57 w.heap.size (fun k_ => w47.heap.size ≤ k_ ∧ k_ < w48.heap.size) (.slice Aoo49 t279.length coo49) t279 from Kd.S_below (by (with_reducible repeat (first | apply Kd.S_alloc | apply Kd.S_drewN | apply Kd.S_drew)); exact HO281.out) hb); have n5_ := Aside0.mk (show Kd.S (Kd.slice 3 (Kd.int .i64)) 26 w57 w.heap.size (fun k_ => w54.heap.size ≤ k_ ∧ k_ < w55.heap.size) (.slice Aoo56 t290.length coo56) t290 from Kd.S_below (by (with_reducible repeat (first | apply Kd.S_alloc | apply Kd.S_drewN | apply Kd.S_drew)); exact HO292.out) hb); have n6_ := Aside0.mk (show w57.heap[gb258]? = some (.cells #[.int .i64 a0_0, .slice A0_1 l0_1.length c0_1] 24 (0, 0)) from blk_below (by (with_reducible repeat (first | refine blk_drewN ?_ _ | refine blk_drew ?_ | refine blk_alloc ?_ _)); exact BKgb258.out) hb); have n7_ := Aside0.mk (show w57.heap[gb272]? = some (.cells #[.int .i64 t268, .slice Aoo41 t269.length coo41] 29 (0, 0)) from blk_below (by (with_reducible repeat (first | refine blk_drewN ?_ _ | refine blk_drew ?_ | refine blk_alloc ?_ _)); exact BKgb272.out) hb); have n8_ := Aside0.mk (show Kd.R (Kd.int .i64) 3 w57 w.heap.size (fun k_ => w55.heap.size ≤ k_ ∧ k_ < w57.heap.size) v294 t293 from lw_R ho0 (below_size (by repeat (first | (with_reducible first | exact HB.out | apply below_alloc | apply pw_below_drewN | apply below_drew1) | exact HB.out)))); have n9_ := Aside0.mk (below_step (by repeat (first | (with_reducible first | exact HB.out | apply below_alloc | apply pw_below_drewN | apply below_drew1) | exact HB.out)) hb); have LEw57 := Aside0.mk (show w55.heap.size ≤ w57.heap.size from hb.size); clear HO263; clear HO266; clear HO271; clear HO275; clear HO281; clear HO292; clear BKgb258; clear BKgb272; clear HB; have HO263 := n0_; have HO266 := n1_; have HO271 := n2_; have HO275 := n3_; have HO281 := n4_; have HO292 := n5_; have BKgb258 := n6_; have BKgb272 := n7_; have HO295 := n8_; have HB := n9_; clear n0_ n1_ n2_ n3_ n4_ n5_ n6_ n7_ n8_ n9_; (try clear hb); (try clear ho0); obtain ⟨Aoo58, coo58, eoo58⟩ := Kd.R_slice HO295.out; subst eoo58; (try clear hcz_gb258_0); (try clear hfz_gb258_0); have hcz_gb258_0 : w57.cell? ⟨gb258, 0, none⟩ = some (.int .i64 a0_0) := (blk_cell BKgb258.out 0).trans rfl; have hfz_gb258_0 := blk_frozen BKgb258.out 0; (try clear hcz_gb258_1); (try clear hfz_gb258_1); have hcz_gb258_1 : w57.cell? ⟨gb258, 1, none⟩ = some (.slice A0_1 l0_1.length c0_1) := (blk_cell BKgb258.out 1).trans rfl; have hfz_gb258_1 := blk_frozen BKgb258.out 1; (try clear hcz_gb272_0); (try clear hfz_gb272_0); have hcz_gb272_0 : w57.cell? ⟨gb272, 0, none⟩ = some (.int .i64 t268) := (blk_cell BKgb272.out 0).trans rfl; have hfz_gb272_0 := blk_frozen BKgb272.out 0; (try clear hcz_gb272_1); (try clear hfz_gb272_1); have hcz_gb272_1 : w57.cell? ⟨gb272, 1, none⟩ = some (.slice Aoo41 t269.length coo41) := (blk_cell BKgb272.out 1).trans rfl; have hfz_gb272_1 := blk_frozen BKgb272.out 1) | ((with_reducible refine gate_callee (f := 21) rfl ?_); refine goesL_ (some 86) rfl rfl Try.func21 (by kernel_rfl) rfl #[.slice Aoo58 t293.length coo58, .slice Aoo39 t264.length coo39] rfl (by (try simp only [List.map_toArray, List.map_cons, List.map_nil]); first | done | rfl | (simp only [List.length_drop, List.length_take]; rfl)) ?_; (with_reducible refine (laws_eqIntS.calls k _ _ t293 _ _ t264 true _ ?side1 ?side2 ?side3 ?side4 A28.out).mono ?_); (case side1 => repeat (first | exact (Kd.R_reads' HO295.out).2.2 | (with_reducible refine Kd.C_alloc ?_ _) | (with_reducible refine Kd.C_drewN ?_ _) | (with_reducible refine Kd.C_drew ?_))); (case side2 => exact (Kd.R_reads' HO295.out).2.1); (case side3 => repeat (first | exact (Kd.R_reads' HO266.out).2.2 | (with_reducible refine Kd.C_alloc ?_ _) | (with_reducible refine Kd.C_drewN ?_ _) | (with_reducible refine Kd.C_drew ?_))); (case side4 => exact (Kd.R_reads' HO266.out).2.1); rintro e w59 ⟨rfl, hd⟩; refine ⟨_, rfl, ?_⟩; have hb := Drawn0.below hd; have n0_ := Aside0.mk (show Kd.S (Kd.slice 3 (Kd.int .i64)) 26 w59 w.heap.size (fun k_ => w35.heap.size ≤ k_ ∧ k_ < w36.heap.size) (.slice Aoo37 t261.length coo37) t261 from Kd.S_below HO263.out hb); have n1_ := Aside0.mk (show Kd.R (Kd.int .i64) 3 w59 w.heap.size (fun k_ => w36.heap.size ≤ k_ ∧ k_ < w38.heap.size) (.slice Aoo39 t264.length coo39) t264 from Kd.R_below HO266.out hb); have n2_ := Aside0.mk (show Kd.S (Kd.slice 3 (Kd.int .i64)) 26 w59 w.heap.size (fun k_ => w38.heap.size ≤ k_ ∧ k_ < w40.heap.size) (.slice Aoo41 t269.length coo41) t284 from Kd.S_below HO271.out hb); have n3_ := Aside0.mk (show Kd.R (Kd.int .i64) 3 w59 w.heap.size (fun k_ => w43.heap.size ≤ k_ ∧ k_ < w44.heap.size) (.slice Aoo45 t273.length coo45) t287 from Kd.R_below HO275.out hb); have n4_ := Aside0.mk (show Kd.S (Kd.slice 3 (Kd.int .i64)) 26 w59 w.heap.size (fun k_ => w47.heap.size ≤ k_ ∧ k_ < w48.heap.size) (.slice Aoo49 t279.length coo49) t279 from Kd.S_below HO281.out hb); have n5_ := Aside0.mk (show Kd.S (Kd.slice 3 (Kd.int .i64)) 26 w59 w.heap.size (fun k_ => w54.heap.size ≤ k_ ∧ k_ < w55.heap.size) (.slice Aoo56 t290.length coo56) t290 from Kd.S_below HO292.out hb); have n6_ := Aside0.mk (show Kd.R (Kd.int .i64) 3 w59 w.heap.size (fun k_ => w55.heap.size ≤ k_ ∧ k_ < w57.heap.size) (.slice Aoo58 t293.length coo58) t293 from Kd.R_below HO295.out hb); have n7_ := Aside0.mk (show w59.heap[gb258]? = some (.cells #[.int .i64 a0_0, .slice A0_1 l0_1.length c0_1] 24 (0, 0)) from blk_below BKgb258.out hb); have n8_ := Aside0.mk (show w59.heap[gb272]? = some (.cells #[.int .i64 t268, .slice Aoo41 t269.length coo41] 29 (0, 0)) from blk_below BKgb272.out hb); have n9_ := Aside0.mk (below_step HB.out hb); have n10_ := Aside0.mk (show w57.heap.size ≤ w59.heap.size from hb.size); clear HO263; clear HO266; clear HO271; clear HO275; clear HO281; clear HO292; clear HO295; clear BKgb258; clear BKgb272; clear HB; have HO263 := n0_; have HO266 := n1_; have HO271 := n2_; have HO275 := n3_; have HO281 := n4_; have HO292 := n5_; have HO295 := n6_; have BKgb258 := n7_; have BKgb272 := n8_; have HB := n9_; have LEw59 := n10_; clear n0_ n1_ n2_ n3_ n4_ n5_ n6_ n7_ n8_ n9_ n10_; clear hb hd; (try clear hcz_gb258_0); (try clear hfz_gb258_0); have hcz_gb258_0 : w59.cell? ⟨gb258, 0, none⟩ = some (.int .i64 a0_0) := (blk_cell BKgb258.out 0).trans rfl; have hfz_gb258_0 := blk_frozen BKgb258.out 0; (try clear hcz_gb258_1); (try clear hfz_gb258_1); have hcz_gb258_1 : w59.cell? ⟨gb258, 1, none⟩ = some (.slice A0_1 l0_1.length c0_1) := (blk_cell BKgb258.out 1).trans rfl; have hfz_gb258_1 := blk_frozen BKgb258.out 1; (try clear hcz_gb272_0); (try clear hfz_gb272_0); have hcz_gb272_0 : w59.cell? ⟨gb272, 0, none⟩ = some (.int .i64 t268) := (blk_cell BKgb272.out 0).trans rfl; have hfz_gb272_0 := blk_frozen BKgb272.out 0; (try clear hcz_gb272_1); (try clear hfz_gb272_1); have hcz_gb272_1 : w59.cell? ⟨gb272, 1, none⟩ = some (.slice Aoo41 t269.length coo41) := (blk_cell BKgb272.out 1).trans rfl; have hfz_gb272_1 := blk_frozen BKgb272.out 1) | ((with_reducible refine gate_callee (f := 25) rfl ?_); refine goesL_ (some 95) rfl rfl Try.func25 (by kernel_rfl) rfl #[.slice Aoo45 t287.length coo45, .int .i64 1] rfl (by (try simp only [List.map_toArray, List.map_cons, List.map_nil]); first | done | (rw [show t287.length = t273.length from (Kd.R_reads' HO275.out).1.symm] <;> rfl) | rfl | (simp only [List.length_drop, List.length_take]; rfl)) ?_; (with_reducible refine (laws_heldIntS.calls k _ _ t287 1 t298 _ ?side1 ?side2 A31.out).mono ?_); (case side1 => repeat (first | exact (Kd.R_reads' HO275.out).2.2 | (with_reducible refine Kd.C_alloc ?_ _) | (with_reducible refine Kd.C_drewN ?_ _) | (with_reducible refine Kd.C_drew ?_))); (case side2 => rw [show t287.length = t273.length from (Kd.R_reads' HO275.out).1.symm]; exact (Kd.R_reads' HO275.out).2.1); rintro e w60 ⟨rfl, hd⟩; refine ⟨_, rfl, ?_⟩; have hb := Drawn0.below hd; have n0_ := Aside0.mk (show Kd.S (Kd.slice 3 (Kd.int .i64)) 26 w60 w.heap.size (fun k_ => w35.heap.size ≤ k_ ∧ k_ < w36.heap.size) (.slice Aoo37 t261.length coo37) t261 from Kd.S_below HO263.out hb); have n1_ := Aside0.mk (show Kd.R (Kd.int .i64) 3 w60 w.heap.size (fun k_ => w36.heap.size ≤ k_ ∧ k_ < w38.heap.size) (.slice Aoo39 t264.length coo39) t264 from Kd.R_below HO266.out hb); have n2_ := Aside0.mk (show Kd.S (Kd.slice 3 (Kd.int .i64)) 26 w60 w.heap.size (fun k_ => w38.heap.size ≤ k_ ∧ k_ < w40.heap.size) (.slice Aoo41 t269.length coo41) t284 from Kd.S_below HO271.out hb); have n3_ := Aside0.mk (show Kd.R (Kd.int .i64) 3 w60 w.heap.size (fun k_ => w43.heap.size ≤ k_ ∧ k_ < w44.heap.size) (.slice Aoo45 t273.length coo45) t287 from Kd.R_below HO275.out hb); have n4_ := Aside0.mk (show Kd.S (Kd.slice 3 (Kd.int .i64)) 26 w60 w.heap.size (fun k_ => w47.heap.size ≤ k_ ∧ k_ < w48.heap.size) (.slice Aoo49 t279.length coo49) t279 from Kd.S_below HO281.out hb); have n5_ := Aside0.mk (show Kd.S (Kd.slice 3 (Kd.int .i64)) 26 w60 w.heap.size (fun k_ => w54.heap.size ≤ k_ ∧ k_ < w55.heap.size) (.slice Aoo56 t290.length coo56) t290 from Kd.S_below HO292.out hb); have n6_ := Aside0.mk (show Kd.R (Kd.int .i64) 3 w60 w.heap.size (fun k_ => w55.heap.size ≤ k_ ∧ k_ < w57.heap.size) (.slice Aoo58 t293.length coo58) t293 from Kd.R_below HO295.out hb); have n7_ := Aside0.mk (show w60.heap[gb258]? = some (.cells #[.int .i64 a0_0, .slice A0_1 l0_1.length c0_1] 24 (0, 0)) from blk_below BKgb258.out hb); have n8_ := Aside0.mk (show w60.heap[gb272]? = some (.cells #[.int .i64 t268, .slice Aoo41 t269.length coo41] 29 (0, 0)) from blk_below BKgb272.out hb); have n9_ := Aside0.mk (below_step HB.out hb); have n10_ := Aside0.mk (show w59.heap.size ≤ w60.heap.size from hb.size); clear HO263; clear HO266; clear HO271; clear HO275; clear HO281; clear HO292; clear HO295; clear BKgb258; clear BKgb272; clear HB; have HO263 := n0_; have HO266 := n1_; have HO271 := n2_; have HO275 := n3_; have HO281 := n4_; have HO292 := n5_; have HO295 := n6_; have BKgb258 := n7_; have BKgb272 := n8_; have HB := n9_; have LEw60 := n10_; clear n0_ n1_ n2_ n3_ n4_ n5_ n6_ n7_ n8_ n9_ n10_; clear hb hd; (try clear hcz_gb258_0); (try clear hfz_gb258_0); have hcz_gb258_0 : w60.cell? ⟨gb258, 0, none⟩ = some (.int .i64 a0_0) := (blk_cell BKgb258.out 0).trans rfl; have hfz_gb258_0 := blk_frozen BKgb258.out 0; (try clear hcz_gb258_1); (try clear hfz_gb258_1); have hcz_gb258_1 : w60.cell? ⟨gb258, 1, none⟩ = some (.slice A0_1 l0_1.length c0_1) := (blk_cell BKgb258.out 1).trans rfl; have hfz_gb258_1 := blk_frozen BKgb258.out 1; (try clear hcz_gb272_0); (try clear hfz_gb272_0); have hcz_gb272_0 : w60.cell? ⟨gb272, 0, none⟩ = some (.int .i64 t268) := (blk_cell BKgb272.out 0).trans rfl; have hfz_gb272_0 := blk_frozen BKgb272.out 0; (try clear hcz_gb272_1); (try clear hfz_gb272_1); have hcz_gb272_1 : w60.cell? ⟨gb272, 1, none⟩ = some (.slice Aoo41 t269.length coo41) := (blk_cell BKgb272.out 1).trans rfl; have hfz_gb272_1 := blk_frozen BKgb272.out 1))
              go_ret
              exact ⟨by first | rfl | (simp [errW_none, errW_some] <;> rfl) | (simp [*, errW_none, errW_some] <;> rfl), by repeat (first | (with_reducible first | exact HB.out | apply below_alloc | apply pw_below_drewN | apply below_drew1) | exact HB.out)⟩
             ·rw [if_neg c33] at H
              exact absurd H (by simp)
          ·replace c29 := Bool.eq_false_iff.mpr c29
           subst c29
           have H1 : (none) = some r := by rw [if_neg (show ¬ (false = true) by decide)] at H; exact H
           clear H
           have H := H1
           clear H1
           exact absurd H (by simp)
         ·rw [if_neg c25] at H
          exact absurd H (by simp)
       ·replace c21 := Bool.eq_false_iff.mpr c21
        subst c21
        have H1 : (none) = some r := by rw [if_neg (show ¬ (false = true) by decide)] at H; exact H
        clear H
        have H := H1
        clear H1
        exact absurd H (by simp)
     ·replace c17 := Bool.eq_false_iff.mpr c17
      subst c17
      have H1 : (none) = some r := by rw [if_neg (show ¬ (false = true) by decide)] at H; exact H
      clear H
      have H := H1
      clear H1
      exact absurd H (by simp)
   ·replace c13 := Bool.eq_false_iff.mpr c13
    subst c13
    have H1 : (none) = some r := by rw [if_neg (show ¬ (false = true) by decide)] at H; exact H
    clear H
    have H := H1
    clear H1
    exact absurd H (by simp)

/-- What is to be shown of laws_FnExactEdgesAt: plain. -/
def laws_FnExactEdgesAt.Pure : Prop := ∀ (a0_0 : Int) (l0_1 : List (List Int)) (a1 : Int), (wfI .i64) a0_0 → (wfL (wfL (wfI .i64))) l0_1 → (wfI .i64) a1 → ∃ k, laws_FnExactEdgesAt.f k a0_0 l0_1 a1 = some true
theorem laws_FnExactEdgesAt.walk (P : laws_FnExactEdgesAt.Pure) (a0_0 : Int) (A0_1 : Option Addr) (c0_1 : Nat) (l0_1 : List (List Int)) (a1 : Int) (w : World) (hr0_1 : Kd.C (Kd.slice 3 (Kd.int .i64)) w A0_1 l0_1.length l0_1) (hc0_1 : l0_1.length ≤ c0_1) (hw0_0 : (wfI .i64) a0_0) (hw0_1 : (wfL (wfL (wfI .i64))) l0_1) (hw1 : (wfI .i64) a1) :
    Calls Try.prog 4 #[.agg #[.int .i64 a0_0, .slice A0_1 l0_1.length c0_1], .int .i64 a1] w fun e w' => e = .returned (.bool true) ∧ Below w.heap.size w w' := by
  obtain ⟨k, h⟩ := P a0_0 l0_1 a1 hw0_0 hw0_1 hw1
  refine (laws_FnExactEdgesAt.calls k a0_0 A0_1 c0_1 l0_1 a1 true w hr0_1 hc0_1 h).mono ?_
  rintro e w' ⟨rfl, hd⟩
  exact ⟨rfl, hd⟩
end Go.Proofs.Ytlcedciocmjggaa.X
