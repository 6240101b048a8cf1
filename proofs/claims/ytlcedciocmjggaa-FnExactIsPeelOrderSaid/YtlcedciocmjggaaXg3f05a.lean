/- Written by a program of this session: what functions of the given program compute, and that their calls do so. -/
import Derived.Test.YtlcedciocmjggaaXx0
namespace Go.Proofs.Ytlcedciocmjggaa.X
open Go.RowKit Go.Proofs.YtlcedciocmjggaaW.PrintWords Go.Proofs.YtlcedciocmjggaaW.PrintLast Go.Proofs.YtlcedciocmjggaaW.PrintMore
attribute [local go_sem] max2_int min2_int max_two min_two max_three min_three max_four min_four   -- for this text's walks alone
set_option linter.unusedVariables false
set_option linter.unusedSimpArgs false
/-! ### spec_peDegrees: function 68 -/
mutual
def spec_peDegrees.l0 : Nat → List Int → List Int → Int → Int → Int → List (List Int) → Option (List Int)
  | 0, _, _, _, _, _, _ => none
  | k + 1, x5, x13, x14, x15, x114000, x114001 => if x15 < x14 then (if 0 ≤ x15 then (if x15 < (x13.length : Int) then (if 0 ≤ (rd x13 x15) then (if (rd x13 x15) < (x114001.length : Int) then (spec_peDegrees.l1 k x5 x13 x14 x15 (rd_L1 x114001 (rd x13 x15)) ((rd_L1 x114001 (rd x13 x15)).length : Int) 0 x114000 x114001) else (none)) else (none)) else (none)) else (none)) else (some x5)
def spec_peDegrees.l1 : Nat → List Int → List Int → Int → Int → List Int → Int → Int → Int → List (List Int) → Option (List Int)
  | 0, _, _, _, _, _, _, _, _, _ => none
  | k + 1, x5, x13, x14, x15, x23, x24, x25, x114000, x114001 => if x25 < x24 then (if 0 ≤ x25 then (if x25 < (x23.length : Int) then (if 0 ≤ (rd x23 x25) then (if (rd x23 x25) < (x5.length : Int) then (spec_peDegrees.l1 k (x5.set ((rd x23 x25) : Int).toNat (wrap64 ((rd x5 (rd x23 x25)) + 1))) x13 x14 x15 x23 x24 (wrap64 (x25 + 1)) x114000 x114001) else (none)) else (none)) else (none)) else (none)) else (spec_peDegrees.l0 k x5 x13 x14 (wrap64 (x15 + 1)) x114000 x114001)
end
def spec_peDegrees.f (k : Nat) (a0_0 : Int) (l0_1 : List (List Int)) (l1 : List Int) : Option (List Int) := if 0 ≤ a0_0 then (if (a0_0 : Int).toNat ≤ 35184372088832 then (spec_peDegrees.l0 k (List.replicate (a0_0 : Int).toNat 0) l1 (l1.length : Int) 0 a0_0 l0_1) else (none)) else (none)
theorem spec_peDegrees.mono_l : ∀ k, (∀ y0 y1 y2 y3 y4 y5, LeO (spec_peDegrees.l0 k y0 y1 y2 y3 y4 y5) (spec_peDegrees.l0 (k + 1) y0 y1 y2 y3 y4 y5)) ∧ (∀ y0 y1 y2 y3 y4 y5 y6 y7 y8, LeO (spec_peDegrees.l1 k y0 y1 y2 y3 y4 y5 y6 y7 y8) (spec_peDegrees.l1 (k + 1) y0 y1 y2 y3 y4 y5 y6 y7 y8))
  | 0 => ⟨fun _ _ _ _ _ _ r h => by simp [spec_peDegrees.l0] at h, fun _ _ _ _ _ _ _ _ _ r h => by simp [spec_peDegrees.l1] at h⟩
  | k + 1 => by
    obtain ⟨ih0, ih1⟩ := spec_peDegrees.mono_l k
    refine ⟨?_, ?_⟩
    · intro y0 y1 y2 y3 y4 y5
      unfold spec_peDegrees.l0
      repeat' first
      | (with_reducible exact ih0 _ _ _ _ _ _)
      | (with_reducible exact ih1 _ _ _ _ _ _ _ _ _)
      | (with_reducible exact LeO.refl _)
      | (with_reducible exact LeO.none _)
      | (with_reducible refine LeO.ite ?_ ?_)
      | (with_reducible refine LeO.bind ?_ (fun _ => ?_))
      | exact ih0 _ _ _ _ _ _
      | exact ih1 _ _ _ _ _ _ _ _ _
      | exact LeO.none _
      | refine LeO.ite ?_ ?_
      | refine LeO.bind ?_ (fun _ => ?_)
    · intro y0 y1 y2 y3 y4 y5 y6 y7 y8
      unfold spec_peDegrees.l1
      repeat' first
      | (with_reducible exact ih0 _ _ _ _ _ _)
      | (with_reducible exact ih1 _ _ _ _ _ _ _ _ _)
      | (with_reducible exact LeO.refl _)
      | (with_reducible exact LeO.none _)
      | (with_reducible refine LeO.ite ?_ ?_)
      | (with_reducible refine LeO.bind ?_ (fun _ => ?_))
      | exact ih0 _ _ _ _ _ _
      | exact ih1 _ _ _ _ _ _ _ _ _
      | exact LeO.none _
      | refine LeO.ite ?_ ?_
      | refine LeO.bind ?_ (fun _ => ?_)
theorem spec_peDegrees.mono : ∀ a0 a1 a2 k, LeO (spec_peDegrees.f k a0 a1 a2) (spec_peDegrees.f (k + 1) a0 a1 a2) := by
  intro a0 a1 a2 k
  obtain ⟨ih0, ih1⟩ := spec_peDegrees.mono_l k
  unfold spec_peDegrees.f
  repeat' first
      | (with_reducible exact ih0 _ _ _ _ _ _)
      | (with_reducible exact ih1 _ _ _ _ _ _ _ _ _)
      | (with_reducible exact LeO.refl _)
      | (with_reducible exact LeO.none _)
      | (with_reducible refine LeO.ite ?_ ?_)
      | (with_reducible refine LeO.bind ?_ (fun _ => ?_))
      | exact ih0 _ _ _ _ _ _
      | exact ih1 _ _ _ _ _ _ _ _ _
      | exact LeO.none _
      | refine LeO.ite ?_ ?_
      | refine LeO.bind ?_ (fun _ => ?_)
noncomputable def spec_peDegrees.L0 (y0 : List Int) (y1 : List Int) (y2 : Int) (y3 : Int) (y4 : Int) (y5 : List (List Int)) : Option (List Int) := lim fun k => spec_peDegrees.l0 k y0 y1 y2 y3 y4 y5
theorem spec_peDegrees.L0_sup (y0 : List Int) (y1 : List Int) (y2 : Int) (y3 : Int) (y4 : Int) (y5 : List (List Int)) : Sup (fun k => spec_peDegrees.l0 k y0 y1 y2 y3 y4 y5) (spec_peDegrees.L0 y0 y1 y2 y3 y4 y5) := Sup.of_mono fun k => (spec_peDegrees.mono_l k).1 y0 y1 y2 y3 y4 y5
noncomputable def spec_peDegrees.L1 (y0 : List Int) (y1 : List Int) (y2 : Int) (y3 : Int) (y4 : List Int) (y5 : Int) (y6 : Int) (y7 : Int) (y8 : List (List Int)) : Option (List Int) := lim fun k => spec_peDegrees.l1 k y0 y1 y2 y3 y4 y5 y6 y7 y8
theorem spec_peDegrees.L1_sup (y0 : List Int) (y1 : List Int) (y2 : Int) (y3 : Int) (y4 : List Int) (y5 : Int) (y6 : Int) (y7 : Int) (y8 : List (List Int)) : Sup (fun k => spec_peDegrees.l1 k y0 y1 y2 y3 y4 y5 y6 y7 y8) (spec_peDegrees.L1 y0 y1 y2 y3 y4 y5 y6 y7 y8) := Sup.of_mono fun k => (spec_peDegrees.mono_l k).2 y0 y1 y2 y3 y4 y5 y6 y7 y8
noncomputable def spec_peDegrees.F (a0_0 : Int) (l0_1 : List (List Int)) (l1 : List Int) : Option (List Int) := lim fun k => spec_peDegrees.f k a0_0 l0_1 l1
theorem spec_peDegrees.F_sup (a0_0 : Int) (l0_1 : List (List Int)) (l1 : List Int) : Sup (fun k => spec_peDegrees.f k a0_0 l0_1 l1) (spec_peDegrees.F a0_0 l0_1 l1) := Sup.of_mono fun k => spec_peDegrees.mono a0_0 l0_1 l1 k
theorem spec_peDegrees.L0_eq (x5 : List Int) (x13 : List Int) (x14 : Int) (x15 : Int) (x114000 : Int) (x114001 : List (List Int)) : spec_peDegrees.L0 x5 x13 x14 x15 x114000 x114001 = if x15 < x14 then (if 0 ≤ x15 then (if x15 < (x13.length : Int) then (if 0 ≤ (rd x13 x15) then (if (rd x13 x15) < (x114001.length : Int) then (spec_peDegrees.L1 x5 x13 x14 x15 (rd_L1 x114001 (rd x13 x15)) ((rd_L1 x114001 (rd x13 x15)).length : Int) 0 x114000 x114001) else (none)) else (none)) else (none)) else (none)) else (some x5) := by
  refine Sup.unique (spec_peDegrees.L0_sup x5 x13 x14 x15 x114000 x114001) (Sup.shift (fun k => (spec_peDegrees.mono_l k).1 x5 x13 x14 x15 x114000 x114001) (Sup.congr (g' := fun k => if x15 < x14 then (if 0 ≤ x15 then (if x15 < (x13.length : Int) then (if 0 ≤ (rd x13 x15) then (if (rd x13 x15) < (x114001.length : Int) then (spec_peDegrees.l1 k x5 x13 x14 x15 (rd_L1 x114001 (rd x13 x15)) ((rd_L1 x114001 (rd x13 x15)).length : Int) 0 x114000 x114001) else (none)) else (none)) else (none)) else (none)) else (some x5)) (fun k => by first | rfl | simp only [spec_peDegrees.l0]) ?_))
  repeat' first
    | (with_reducible exact spec_peDegrees.L0_sup _ _ _ _ _ _)
    | (with_reducible exact spec_peDegrees.L1_sup _ _ _ _ _ _ _ _ _)
    | (with_reducible refine Sup.ite ?_ ?_)
    | (with_reducible refine Sup.bind ?_ (fun _ => ?_))
    | (with_reducible exact Sup.const _)
    | exact spec_peDegrees.L0_sup _ _ _ _ _ _
    | exact spec_peDegrees.L1_sup _ _ _ _ _ _ _ _ _
    | exact Sup.const _
theorem spec_peDegrees.L1_eq (x5 : List Int) (x13 : List Int) (x14 : Int) (x15 : Int) (x23 : List Int) (x24 : Int) (x25 : Int) (x114000 : Int) (x114001 : List (List Int)) : spec_peDegrees.L1 x5 x13 x14 x15 x23 x24 x25 x114000 x114001 = if x25 < x24 then (if 0 ≤ x25 then (if x25 < (x23.length : Int) then (if 0 ≤ (rd x23 x25) then (if (rd x23 x25) < (x5.length : Int) then (spec_peDegrees.L1 (x5.set ((rd x23 x25) : Int).toNat (wrap64 ((rd x5 (rd x23 x25)) + 1))) x13 x14 x15 x23 x24 (wrap64 (x25 + 1)) x114000 x114001) else (none)) else (none)) else (none)) else (none)) else (spec_peDegrees.L0 x5 x13 x14 (wrap64 (x15 + 1)) x114000 x114001) := by
  refine Sup.unique (spec_peDegrees.L1_sup x5 x13 x14 x15 x23 x24 x25 x114000 x114001) (Sup.shift (fun k => (spec_peDegrees.mono_l k).2 x5 x13 x14 x15 x23 x24 x25 x114000 x114001) (Sup.congr (g' := fun k => if x25 < x24 then (if 0 ≤ x25 then (if x25 < (x23.length : Int) then (if 0 ≤ (rd x23 x25) then (if (rd x23 x25) < (x5.length : Int) then (spec_peDegrees.l1 k (x5.set ((rd x23 x25) : Int).toNat (wrap64 ((rd x5 (rd x23 x25)) + 1))) x13 x14 x15 x23 x24 (wrap64 (x25 + 1)) x114000 x114001) else (none)) else (none)) else (none)) else (none)) else (spec_peDegrees.l0 k x5 x13 x14 (wrap64 (x15 + 1)) x114000 x114001)) (fun k => by first | rfl | simp only [spec_peDegrees.l1]) ?_))
  repeat' first
    | (with_reducible exact spec_peDegrees.L0_sup _ _ _ _ _ _)
    | (with_reducible exact spec_peDegrees.L1_sup _ _ _ _ _ _ _ _ _)
    | (with_reducible refine Sup.ite ?_ ?_)
    | (with_reducible refine Sup.bind ?_ (fun _ => ?_))
    | (with_reducible exact Sup.const _)
    | exact spec_peDegrees.L0_sup _ _ _ _ _ _
    | exact spec_peDegrees.L1_sup _ _ _ _ _ _ _ _ _
    | exact Sup.const _
theorem spec_peDegrees.F_eq (a0_0 : Int) (l0_1 : List (List Int)) (l1 : List Int) : spec_peDegrees.F a0_0 l0_1 l1 = if 0 ≤ a0_0 then (if (a0_0 : Int).toNat ≤ 35184372088832 then (spec_peDegrees.L0 (List.replicate (a0_0 : Int).toNat 0) l1 (l1.length : Int) 0 a0_0 l0_1) else (none)) else (none) := by
  refine Sup.unique (spec_peDegrees.F_sup a0_0 l0_1 l1) (Sup.congr (g' := fun k => if 0 ≤ a0_0 then (if (a0_0 : Int).toNat ≤ 35184372088832 then (spec_peDegrees.l0 k (List.replicate (a0_0 : Int).toNat 0) l1 (l1.length : Int) 0 a0_0 l0_1) else (none)) else (none)) (fun k => by first | rfl | simp only [spec_peDegrees.f]) ?_)
  repeat' first
    | (with_reducible exact spec_peDegrees.L0_sup _ _ _ _ _ _)
    | (with_reducible exact spec_peDegrees.L1_sup _ _ _ _ _ _ _ _ _)
    | (with_reducible refine Sup.ite ?_ ?_)
    | (with_reducible refine Sup.bind ?_ (fun _ => ?_))
    | (with_reducible exact Sup.const _)
    | exact spec_peDegrees.L0_sup _ _ _ _ _ _
    | exact spec_peDegrees.L1_sup _ _ _ _ _ _ _ _ _
    | exact Sup.const _
set_option maxHeartbeats 8000000 in
set_option maxRecDepth 100000 in
theorem spec_peDegrees.calls (k : Nat) (a0_0 : Int) (A0_1 : Option Addr) (c0_1 : Nat) (l0_1 : List (List Int)) (A1 : Option Addr) (c1 : Nat) (l1 : List Int) (r : List Int) (w : World) (hr0_1 : Kd.C (Kd.slice 3 (Kd.int .i64)) w A0_1 l0_1.length l0_1) (hc0_1 : l0_1.length ≤ c0_1) (hr1 : Kd.C (Kd.int .i64) w A1 l1.length l1) (hc1 : l1.length ≤ c1) (h : spec_peDegrees.f k a0_0 l0_1 l1 = some r) :
    Calls Try.prog 68 #[.agg #[.int .i64 a0_0, .slice A0_1 l0_1.length c0_1], .slice A1 l1.length c1] w fun e w' => ∃ v0_ : Value, e = .returned (v0_) ∧ Kd.R (Kd.int .i64) 3 w' w.heap.size (fun _ => True) v0_ r ∧ Below w.heap.size w w' := by
  have hu29 := Try.underlying29
  have hu22 := Try.underlying22
  have hu26 := Try.underlying26
  have HR0_1 := Aside0.mk hr0_1
  have HC0_1 := Aside0.mk hc0_1
  clear hr0_1 hc0_1
  have HR1 := Aside0.mk hr1
  have HC1 := Aside0.mk hc1
  clear hr1 hc1
  have HB := Aside0.mk (Below.refl w.heap.size w)
  have H : (if 0 ≤ a0_0 then (if (a0_0 : Int).toNat ≤ 35184372088832 then (spec_peDegrees.l0 k (List.replicate (a0_0 : Int).toNat 0) l1 (l1.length : Int) 0 a0_0 l0_1) else (none)) else (none)) = some r := h
  clear h
  by_cases c3 : 0 ≤ a0_0
  ·rw [if_pos c3] at H
   have c3b0 := eq_true c3
   have c3b1 : decide (0 ≤ a0_0) = true := decide_eq_true c3
   clear c3
   by_cases c4 : (a0_0 : Int).toNat ≤ 35184372088832
   ·rw [if_pos c4] at H
    have c4b0 := eq_true c4
    have c4b1 : decide ((a0_0 : Int).toNat ≤ 35184372088832) = true := decide_eq_true c4
    clear c4
    obtain ⟨y114, hy114⟩ : ∃ y_ : List Int, y_ = (List.replicate (a0_0 : Int).toNat 0) := ⟨_, rfl⟩
    replace H : (spec_peDegrees.l0 k y114 l1 (l1.length : Int) 0 a0_0 l0_1) = some r := by first | (rw [hy114]; with_reducible exact H) | (have H2_ := (Option.bind_some _ _).symm.trans H; rw [hy114]; with_reducible exact H2_) | (have H2_ := (Option.bind_some _ _).symm.trans H; with_reducible exact H2_) | with_reducible exact H | (rw [hy114]; exact H) | exact H
    have Ny114 := Aside0.mk hy114
    clear hy114
    have H' := Aside0.mk H
    clear H
    go_enter Try.func68, Try.ntmps68
    go_wp2_with (first | ((with_reducible refine gate_dst (N := 2) rfl ?_); refine box_event ?hg (N := 2) ?hd (cs := #[.int .i64 a0_0, .slice A0_1 l0_1.length c0_1]) (t := 29) ?hr ?_; (case hd => rfl); (case hg => rfl); (case hr => first | (go_simp; done) | (go_simp; rfl)); intro gb113 hg w5 hbox hb; have n0_ := Aside0.mk (below_step (by repeat (first | (with_reducible first | exact HB.out | apply below_alloc | apply pw_below_drewN | apply below_drew1) | exact HB.out)) hb); have n1_ := Aside0.mk (hbox); have n2_ := Aside0.mk ((by rw [hg]; exact (below_size (by repeat (first | (with_reducible first | exact HB.out | apply below_alloc | apply pw_below_drewN | apply below_drew1) | exact HB.out))) : w.heap.size ≤ gb113)); have n3_ := Aside0.mk ((by rw [hg]; exact (below_size (by repeat (first | (with_reducible first | exact HB.out | apply below_alloc | apply pw_below_drewN | apply below_drew1) | exact HB.out))) : w.heap.size ≤ gb113)); clear HB; have HB := n0_; have BK113 := n1_; have GW113 := n2_; have GE113 := n3_; clear n0_ n1_ n2_ n3_; clear hb hbox hg; have hcz6_0 : w5.cell? ⟨gb113, 0, none⟩ = some (.int .i64 a0_0) := (blk_cell BK113.out 0).trans rfl; have hcz6_1 : w5.cell? ⟨gb113, 1, none⟩ = some (.slice A0_1 l0_1.length c0_1) := (blk_cell BK113.out 1).trans rfl; have hfz6_0 := blk_frozen BK113.out 0; have hfz6_1 := blk_frozen BK113.out 1) | ((with_reducible refine gate_dst (N := 12) rfl ?_); refine Kd.R_make (Kd.int .i64) _ 3 rfl (N := 12) rfl 26 _ _ rfl a0_0 rfl rfl Try.underlying26 (.int .i64 0) 8 info3 rfl (by decide) (by omega) 0 (ok := fun _ => True) (okp := fun _ => True) rfl (fun _ hk => hk) trivial (of_decide_eq_true (by first | (with_reducible assumption) | assumption)) (Nat.le_trans (Nat.mul_le_mul_right _ (of_decide_eq_true (by first | (with_reducible assumption) | assumption) : a0_0.toNat ≤ 35184372088832)) (by omega)) (Below.refl _ _) (Nat.le_refl _) ?_; intro v115 w7 ho8 hb hg_ hnew_; clear hg_ hnew_; (first | rw [← Ny114.out] at ho8 | (simp only [Int.reduceToNat] at ho8; rw [← Ny114.out] at ho8)); have n0_ := Aside0.mk (Kd.R_lower ho8 (below_size (by repeat (first | (with_reducible first | exact HB.out | apply below_alloc | apply pw_below_drewN | apply below_drew1 | refine below_set ?_ GE113.out) | exact HB.out)))); have n1_ := Aside0.mk (blk_below (g := gb113) (o := .cells #[.int .i64 a0_0, .slice A0_1 l0_1.length c0_1] 29 (0, 0)) (by (with_reducible repeat (first | refine blk_drewN ?_ _ | refine blk_drew ?_ | refine blk_alloc ?_ _)); exact BK113.out) hb); have n2_ := Aside0.mk (below_step (by repeat (first | (with_reducible first | exact HB.out | apply below_alloc | apply pw_below_drewN | apply below_drew1 | refine below_set ?_ GE113.out) | exact HB.out)) hb); clear BK113; clear HB; have HO116 := n0_; have BK113 := n1_; have HB := n2_; clear n0_ n1_ n2_; clear hb ho8))
    go_loopg [15] k (fun kq v15 w' => ∃ (x5_1 : List Int) (x15_1 : Int), v15 = .int .i64 x15_1 ∧ Aside0 (spec_peDegrees.l0 kq x5_1 l1 (l1.length : Int) x15_1 a0_0 l0_1 = some r) ∧ Aside0 (kq ≤ k) ∧ Aside0 (Kd.R (Kd.int .i64) 3 w' w.heap.size (fun _ => True) v115 x5_1) ∧ Aside0 (w'.heap[gb113]? = some (.cells #[.int .i64 a0_0, (.slice A0_1 l0_1.length c0_1)] 29 (0, 0))) ∧ Aside0 (Below w.heap.size w w'))
    case atStart => exact ⟨(y114), (0), (by first | rfl | (simp; done) | (simp [*]; done)), H', ⟨Nat.le_refl _⟩, ⟨by (with_reducible repeat (first | apply Kd.R_alloc | apply Kd.R_drewN | apply Kd.R_drew)); exact HO116.out⟩, ⟨by (with_reducible repeat (first | refine blk_drewN ?_ _ | refine blk_drew ?_ | refine blk_alloc ?_ _)); exact BK113.out⟩, ⟨by repeat (first | (with_reducible first | exact HB.out | apply below_alloc | apply pw_below_drewN | apply below_drew1 | refine below_set ?_ GE113.out) | exact HB.out)⟩⟩
    case round =>
     clear H'
     try clear c1
     try clear p2
     try clear c3
     try clear c3b0
     try clear c3b1
     try clear c4
     try clear c4b0
     try clear c4b1
     try clear c6
     try clear hcz6_0
     try clear hcz6_1
     try clear hfz6_0
     try clear hfz6_1
     obtain ⟨x5_1, x15_1, rfl, HA, HK1, HO_5, BK113, HB⟩ := hrel
     cases gk with
     | zero => exact absurd HA.out (by simp [spec_peDegrees.l0])
     | succ k1 =>
      have H := HA.out
      clear HA
      simp only [spec_peDegrees.l0] at H
      by_cases c9 : x15_1 < (l1.length : Int)
      ·rw [if_pos c9] at H
       have c9b0 : decide (x15_1 < (l1.length : Int)) = true := decide_eq_true c9
       clear c9
       by_cases c10 : 0 ≤ x15_1
       ·rw [if_pos c10] at H
        have c10b0 : decide (0 ≤ x15_1) = true := decide_eq_true c10
        clear c10
        by_cases c11 : x15_1 < (l1.length : Int)
        ·rw [if_pos c11] at H
         have c11b0 : decide (x15_1 < (l1.length : Int)) = true := decide_eq_true c11
         clear c11
         by_cases c12 : 0 ≤ (rd l1 x15_1)
         ·rw [if_pos c12] at H
          have c12b0 : decide (0 ≤ (rd l1 x15_1)) = true := decide_eq_true c12
          clear c12
          by_cases c13 : (rd l1 x15_1) < (l0_1.length : Int)
          ·rw [if_pos c13] at H
           have c13b0 : decide ((rd l1 x15_1) < (l0_1.length : Int)) = true := decide_eq_true c13
           clear c13
           have H' := Aside0.mk H
           clear H
           have p117 : 0 ≤ (x15_1 : Int) := of_decide_eq_true (by first | (with_reducible assumption) | assumption)
           have q117 : x15_1 < (l1.length : Int) := of_decide_eq_true (by first | (with_reducible assumption) | assumption)
           obtain ⟨ad117, e117, hx117_0⟩ := Kd.at_int HR1.out x15_1 p117 q117
           cases e117
           replace hx117_0 := (HB.out.cell (World.block_lt_of_cell? w _ hx117_0)).trans hx117_0
           replace p117 := eq_true p117
           replace q117 := eq_true q117
           have hcz14_0 : wr.cell? ⟨gb113, 0, none⟩ = some (.int .i64 a0_0) := (blk_cell BK113.out 0).trans rfl
           have hcz14_1 : wr.cell? ⟨gb113, 1, none⟩ = some (.slice A0_1 l0_1.length c0_1) := (blk_cell BK113.out 1).trans rfl
           have hfz14_0 := blk_frozen BK113.out 0
           have hfz14_1 := blk_frozen BK113.out 1
           have p118 : 0 ≤ ((rd l1 x15_1) : Int) := of_decide_eq_true (by first | (with_reducible assumption) | assumption)
           have q118 : (rd l1 x15_1) < (l0_1.length : Int) := of_decide_eq_true (by first | (with_reducible assumption) | assumption)
           obtain ⟨ad118, A118_0, c118_0, e118, hx118_0, hl118_0, hi118_0⟩ := at_L1 HR0_1.out (rd l1 x15_1) p118 q118
           cases e118
           replace hx118_0 := (HB.out.cell (World.block_lt_of_cell? w _ hx118_0)).trans hx118_0
           have HR118_0 := Aside0.mk hi118_0
           have HC118_0 := Aside0.mk hl118_0
           clear hi118_0 hl118_0
           replace p118 := eq_true p118
           replace q118 := eq_true q118
           go_wp2
           go_loopg [25] k1 (fun kq v25 w' => ∃ (x5_2 : List Int) (x25_2 : Int), v25 = .int .i64 x25_2 ∧ Aside0 (spec_peDegrees.l1 kq x5_2 l1 (l1.length : Int) x15_1 (rd_L1 l0_1 (rd l1 x15_1)) ((rd_L1 l0_1 (rd l1 x15_1)).length : Int) x25_2 a0_0 l0_1 = some r) ∧ Aside0 (kq ≤ k1) ∧ Aside0 (Kd.R (Kd.int .i64) 3 w' w.heap.size (fun _ => True) v115 x5_2) ∧ Aside0 (w'.heap[gb113]? = some (.cells #[.int .i64 a0_0, (.slice (some ad118) l0_1.length c0_1)] 29 (0, 0))) ∧ Aside0 (Below w.heap.size w w'))
           case atStart => exact ⟨(x5_1), (0), (by first | rfl | (simp; done) | (simp [*]; done)), H', ⟨Nat.le_refl _⟩, ⟨by (with_reducible repeat (first | apply Kd.R_alloc | apply Kd.R_drewN | apply Kd.R_drew)); exact HO_5.out⟩, ⟨by (with_reducible repeat (first | refine blk_drewN ?_ _ | refine blk_drew ?_ | refine blk_alloc ?_ _)); exact BK113.out⟩, ⟨by repeat (first | (with_reducible first | exact HB.out | apply below_alloc | apply pw_below_drewN | apply below_drew1 | refine below_set ?_ GE113.out) | exact HB.out)⟩⟩
           case round =>
            clear H'
            try clear c1
            try clear p1
            try clear q1
            try clear hx1
            try clear p2
            try clear c3
            try clear c3b0
            try clear c3b1
            try clear c4
            try clear c4b0
            try clear c4b1
            try clear c6
            try clear c9
            try clear c9b0
            try clear c10
            try clear c10b0
            try clear c11
            try clear c11b0
            try clear p11
            try clear q11
            try clear hx11
            try clear c12
            try clear c12b0
            try clear c13
            try clear c13b0
            try clear hcz14_0
            try clear hcz14_1
            try clear hcz6_0
            try clear hcz6_1
            try clear hfz14_0
            try clear hfz14_1
            try clear hfz6_0
            try clear hfz6_1
            try clear hx117_0
            try clear hx118_0
            try clear p117
            try clear p118
            try clear p2
            try clear q117
            try clear q118
            obtain ⟨x5_2, x25_2, rfl, HA, HK2, HO_5, BK113, HB⟩ := hrel
            cases gk with
            | zero => exact absurd HA.out (by simp [spec_peDegrees.l1])
            | succ k2 =>
             have H := HA.out
             clear HA
             simp only [spec_peDegrees.l1] at H
             by_cases c15 : x25_2 < ((rd_L1 l0_1 (rd l1 x15_1)).length : Int)
             ·rw [if_pos c15] at H
              have c15b0 : decide (x25_2 < ((rd_L1 l0_1 (rd l1 x15_1)).length : Int)) = true := decide_eq_true c15
              clear c15
              by_cases c16 : 0 ≤ x25_2
              ·rw [if_pos c16] at H
               have c16b0 : decide (0 ≤ x25_2) = true := decide_eq_true c16
               clear c16
               by_cases c17 : x25_2 < ((rd_L1 l0_1 (rd l1 x15_1)).length : Int)
               ·rw [if_pos c17] at H
                have c17b0 : decide (x25_2 < ((rd_L1 l0_1 (rd l1 x15_1)).length : Int)) = true := decide_eq_true c17
                clear c17
                by_cases c18 : 0 ≤ (rd (rd_L1 l0_1 (rd l1 x15_1)) x25_2)
                ·rw [if_pos c18] at H
                 have c18b0 : decide (0 ≤ (rd (rd_L1 l0_1 (rd l1 x15_1)) x25_2)) = true := decide_eq_true c18
                 clear c18
                 by_cases c19 : (rd (rd_L1 l0_1 (rd l1 x15_1)) x25_2) < (x5_2.length : Int)
                 ·rw [if_pos c19] at H
                  have c19b0 : decide ((rd (rd_L1 l0_1 (rd l1 x15_1)) x25_2) < (x5_2.length : Int)) = true := decide_eq_true c19
                  clear c19
                  obtain ⟨y121, hy121⟩ : ∃ y_ : List Int, y_ = (x5_2.set ((rd (rd_L1 l0_1 (rd l1 x15_1)) x25_2) : Int).toNat (wrap64 ((rd x5_2 (rd (rd_L1 l0_1 (rd l1 x15_1)) x25_2)) + 1))) := ⟨_, rfl⟩
                  replace H : (spec_peDegrees.l1 k2 y121 l1 (l1.length : Int) x15_1 (rd_L1 l0_1 (rd l1 x15_1)) ((rd_L1 l0_1 (rd l1 x15_1)).length : Int) (wrap64 (x25_2 + 1)) a0_0 l0_1) = some r := by first | (rw [hy121]; with_reducible exact H) | (have H2_ := (Option.bind_some _ _).symm.trans H; rw [hy121]; with_reducible exact H2_) | (have H2_ := (Option.bind_some _ _).symm.trans H; with_reducible exact H2_) | with_reducible exact H | (rw [hy121]; exact H) | exact H
                  have Ny121 := Aside0.mk hy121
                  clear hy121
                  have H' := Aside0.mk H
                  clear H
                  have p119 : 0 ≤ (x25_2 : Int) := of_decide_eq_true (by first | (with_reducible assumption) | assumption)
                  have q119 : x25_2 < ((rd_L1 l0_1 (rd l1 x15_1)).length : Int) := of_decide_eq_true (by first | (with_reducible assumption) | assumption)
                  obtain ⟨ad119, e119, hx119_0⟩ := Kd.at_int HR118_0.out x25_2 p119 q119
                  cases e119
                  replace hx119_0 := (HB.out.cell (World.block_lt_of_cell? w _ hx119_0)).trans hx119_0
                  replace p119 := eq_true p119
                  replace q119 := eq_true q119
                  obtain ⟨Ao21, co21, eo21⟩ := Kd.R_slice HO_5.out
                  subst eo21
                  have p120 : 0 ≤ ((rd (rd_L1 l0_1 (rd l1 x15_1)) x25_2) : Int) := of_decide_eq_true (by first | (with_reducible assumption) | assumption)
                  have q120 : (rd (rd_L1 l0_1 (rd l1 x15_1)) x25_2) < (x5_2.length : Int) := of_decide_eq_true (by first | (with_reducible assumption) | assumption)
                  obtain ⟨ad120, e120, hx120_0⟩ := Kd.at_int (Kd.R_reads' HO_5.out).2.2 (rd (rd_L1 l0_1 (rd l1 x15_1)) x25_2) p120 q120
                  cases e120
                  replace p120 := eq_true p120
                  replace q120 := eq_true q120
                  have p20 : 0 ≤ ((rd (rd_L1 l0_1 (rd l1 x15_1)) x25_2) : Int) := of_decide_eq_true (by first | (with_reducible assumption) | assumption)
                  have q20 : ((rd (rd_L1 l0_1 (rd l1 x15_1)) x25_2) : Int) < ((x5_2.length : Int) : Int) := of_decide_eq_true (by first | (with_reducible assumption) | assumption)
                  obtain ⟨go20, co20, eo20, gb20, gl20, cl20, HG20⟩ := Kd.R_form HO_5.out (by omega)
                  (first | cases eo20 | (injection eo20 with ea_ en_ ec_; (first | subst ea_ | (injection ea_ with ea_; subst ea_)); subst ec_; clear en_))
                  have GB20 := Aside0.mk gb20
                  have GG20 := Aside0.mk HG20
                  clear gb20 gl20 HG20
                  (first | simp only [add_plain] at hx120_0 | skip)
                  obtain ⟨hx20_0, hf20_0⟩ := Kd.R_celln 0 HO_5.out ((rd (rd_L1 l0_1 (rd l1 x15_1)) x25_2) : Int) p20 q20
                  replace p20 := eq_true p20
                  replace q20 := eq_true q20
                  have HP22 := Kd.R_putg HO_5.out ((rd (rd_L1 l0_1 (rd l1 x15_1)) x25_2) : Int) (wrap64 ((rd x5_2 (rd (rd_L1 l0_1 (rd l1 x15_1)) x25_2)) + 1))
                  go_wp2_with (first | ((with_reducible refine gate_store (t := 3) (p := 34) rfl ?_); refine store_event (t := 3) (p := 34) (v := ?vo_w23) (w1 := (wr.setCell ⟨go20, ((rd (rd_L1 l0_1 (rd l1 x15_1)) x25_2) : Int).toNat, none⟩ (.int .i64 (wrap64 ((rd x5_2 (rd (rd_L1 l0_1 (rd l1 x15_1)) x25_2)) + 1))))) ?hg ?ho ?hn ?hr ?_; (case ho => rfl); (case hg => rfl); (case hn => rfl); (case hr => first | (go_simp; done) | (go_simp; rfl)); intro w23 hw; have hg : wr.grownBy w23 (some go20) := (by rw [hw]; exact HP22.2); have hp_ : Kd.R (Kd.int .i64) 3 w23 w.heap.size (fun _ => True) (.slice (some ⟨go20, 0, none⟩) x5_2.length co21) y121 := (by rw [hw, Ny121.out]; exact HP22.1); clear HP22; have n0_ := Aside0.mk (hp_); have n1_ := Aside0.mk (blk_grown (g := gb113) (o := .cells #[.int .i64 a0_0, .slice (some ad118) l0_1.length c0_1] 29 (0, 0)) (by (with_reducible repeat (first | refine blk_drewN ?_ _ | refine blk_drew ?_ | refine blk_alloc ?_ _)); exact BK113.out) hg (Kd.R_ne HO_5.out BK113.out (by decide))); have n2_ := Aside0.mk ((by rw [hw]; exact below_set (HB.out) GB20.out : Below w.heap.size w w23)); clear HO_5; clear BK113; clear HB; have HO_5 := n0_; have BK113 := n1_; have HB := n2_; clear n0_ n1_ n2_; clear hg hw hp_))
                  go_roundg k2
                  case measure => have := HK1.out; have := HK2.out; omega
                  case rel => exact ⟨(y121), (wrap64 (x25_2 + 1)), (by first | rfl | (simp; done) | (simp [*]; done)), H', ⟨by have := HK1.out; have := HK2.out; omega⟩, ⟨by (with_reducible repeat (first | apply Kd.R_alloc | apply Kd.R_drewN | apply Kd.R_drew)); exact HO_5.out⟩, ⟨by (with_reducible repeat (first | refine blk_drewN ?_ _ | refine blk_drew ?_ | refine blk_alloc ?_ _)); exact BK113.out⟩, ⟨by repeat (first | (with_reducible first | exact HB.out | apply below_alloc | apply pw_below_drewN | apply below_drew1 | refine below_set ?_ GE113.out) | exact HB.out)⟩⟩
                 ·rw [if_neg c19] at H
                  exact absurd H (by simp)
                ·rw [if_neg c18] at H
                 exact absurd H (by simp)
               ·rw [if_neg c17] at H
                exact absurd H (by simp)
              ·rw [if_neg c16] at H
               exact absurd H (by simp)
             ·rw [if_neg c15] at H
              have c15b0 : decide (x25_2 < ((rd_L1 l0_1 (rd l1 x15_1)).length : Int)) = false := decide_eq_false c15
              clear c15
              have H' := Aside0.mk H
              clear H
              go_wp2
              go_roundg k2
              case measure => have := HK1.out; have := HK2.out; omega
              case rel => exact ⟨(x5_2), (wrap64 (x15_1 + 1)), (by first | rfl | (simp; done) | (simp [*]; done)), H', ⟨by have := HK1.out; have := HK2.out; omega⟩, ⟨by (with_reducible repeat (first | apply Kd.R_alloc | apply Kd.R_drewN | apply Kd.R_drew)); exact HO_5.out⟩, ⟨by (with_reducible repeat (first | refine blk_drewN ?_ _ | refine blk_drew ?_ | refine blk_alloc ?_ _)); exact BK113.out⟩, ⟨by repeat (first | (with_reducible first | exact HB.out | apply below_alloc | apply pw_below_drewN | apply below_drew1 | refine below_set ?_ GE113.out) | exact HB.out)⟩⟩
          ·rw [if_neg c13] at H
           exact absurd H (by simp)
         ·rw [if_neg c12] at H
          exact absurd H (by simp)
        ·rw [if_neg c11] at H
         exact absurd H (by simp)
       ·rw [if_neg c10] at H
        exact absurd H (by simp)
      ·rw [if_neg c9] at H
       have c9b0 : decide (x15_1 < (l1.length : Int)) = false := decide_eq_false c9
       clear c9
       obtain rfl := Option.some.inj H
       go_wp2
       go_ret
       exact ⟨_, by first | rfl | (simp [errW_none, errW_some] <;> rfl) | (simp [*, errW_none, errW_some] <;> rfl), by (with_reducible repeat (first | apply Kd.R_alloc | apply Kd.R_drewN | apply Kd.R_drew)); exact HO_5.out, by repeat (first | (with_reducible first | exact HB.out | apply below_alloc | apply pw_below_drewN | apply below_drew1 | refine below_set ?_ GE113.out) | exact HB.out)⟩
   ·rw [if_neg c4] at H
    exact absurd H (by simp)
  ·rw [if_neg c3] at H
   exact absurd H (by simp)
/-! ### spec_peAll: function 69 -/
def spec_peAll.l0 : Nat → List Int → Int → Int → Option (List Int)
  | 0, _, _, _ => none
  | k + 1, x3, x7, x8 => if x8 < x7 then (if x3.length < 17592186044416 then (spec_peAll.l0 k (x3 ++ [x8]) x7 (wrap64 (x8 + 1))) else (none)) else (some x3)
def spec_peAll.f (k : Nat) (a0_0 : Int) (l0_1 : List (List Int)) : Option (List Int) := spec_peAll.l0 k ([] : List Int) (l0_1.length : Int) 0
theorem spec_peAll.mono_l : ∀ k, (∀ y0 y1 y2, LeO (spec_peAll.l0 k y0 y1 y2) (spec_peAll.l0 (k + 1) y0 y1 y2))
  | 0 => fun _ _ _ r h => by simp [spec_peAll.l0] at h
  | k + 1 => by
    have ih0 := spec_peAll.mono_l k
    · intro y0 y1 y2
      unfold spec_peAll.l0
      repeat' first
      | (with_reducible exact ih0 _ _ _)
      | (with_reducible exact LeO.refl _)
      | (with_reducible exact LeO.none _)
      | (with_reducible refine LeO.ite ?_ ?_)
      | (with_reducible refine LeO.bind ?_ (fun _ => ?_))
      | exact ih0 _ _ _
      | exact LeO.none _
      | refine LeO.ite ?_ ?_
      | refine LeO.bind ?_ (fun _ => ?_)
theorem spec_peAll.mono : ∀ a0 a1 k, LeO (spec_peAll.f k a0 a1) (spec_peAll.f (k + 1) a0 a1) := by
  intro a0 a1 k
  have ih0 := spec_peAll.mono_l k
  unfold spec_peAll.f
  repeat' first
      | (with_reducible exact ih0 _ _ _)
      | (with_reducible exact LeO.refl _)
      | (with_reducible exact LeO.none _)
      | (with_reducible refine LeO.ite ?_ ?_)
      | (with_reducible refine LeO.bind ?_ (fun _ => ?_))
      | exact ih0 _ _ _
      | exact LeO.none _
      | refine LeO.ite ?_ ?_
      | refine LeO.bind ?_ (fun _ => ?_)
noncomputable def spec_peAll.L0 (y0 : List Int) (y1 : Int) (y2 : Int) : Option (List Int) := lim fun k => spec_peAll.l0 k y0 y1 y2
theorem spec_peAll.L0_sup (y0 : List Int) (y1 : Int) (y2 : Int) : Sup (fun k => spec_peAll.l0 k y0 y1 y2) (spec_peAll.L0 y0 y1 y2) := Sup.of_mono fun k => spec_peAll.mono_l k y0 y1 y2
noncomputable def spec_peAll.F (a0_0 : Int) (l0_1 : List (List Int)) : Option (List Int) := lim fun k => spec_peAll.f k a0_0 l0_1
theorem spec_peAll.F_sup (a0_0 : Int) (l0_1 : List (List Int)) : Sup (fun k => spec_peAll.f k a0_0 l0_1) (spec_peAll.F a0_0 l0_1) := Sup.of_mono fun k => spec_peAll.mono a0_0 l0_1 k
theorem spec_peAll.L0_eq (x3 : List Int) (x7 : Int) (x8 : Int) : spec_peAll.L0 x3 x7 x8 = if x8 < x7 then (if x3.length < 17592186044416 then (spec_peAll.L0 (x3 ++ [x8]) x7 (wrap64 (x8 + 1))) else (none)) else (some x3) := by
  refine Sup.unique (spec_peAll.L0_sup x3 x7 x8) (Sup.shift (fun k => spec_peAll.mono_l k x3 x7 x8) (Sup.congr (g' := fun k => if x8 < x7 then (if x3.length < 17592186044416 then (spec_peAll.l0 k (x3 ++ [x8]) x7 (wrap64 (x8 + 1))) else (none)) else (some x3)) (fun k => by first | rfl | simp only [spec_peAll.l0]) ?_))
  repeat' first
    | (with_reducible exact spec_peAll.L0_sup _ _ _)
    | (with_reducible refine Sup.ite ?_ ?_)
    | (with_reducible refine Sup.bind ?_ (fun _ => ?_))
    | (with_reducible exact Sup.const _)
    | exact spec_peAll.L0_sup _ _ _
    | exact Sup.const _
theorem spec_peAll.F_eq (a0_0 : Int) (l0_1 : List (List Int)) : spec_peAll.F a0_0 l0_1 = spec_peAll.L0 ([] : List Int) (l0_1.length : Int) 0 := by
  refine Sup.unique (spec_peAll.F_sup a0_0 l0_1) (Sup.congr (g' := fun k => spec_peAll.l0 k ([] : List Int) (l0_1.length : Int) 0) (fun k => by first | rfl | simp only [spec_peAll.f]) ?_)
  repeat' first
    | (with_reducible exact spec_peAll.L0_sup _ _ _)
    | (with_reducible refine Sup.ite ?_ ?_)
    | (with_reducible refine Sup.bind ?_ (fun _ => ?_))
    | (with_reducible exact Sup.const _)
    | exact spec_peAll.L0_sup _ _ _
    | exact Sup.const _
set_option maxHeartbeats 8000000 in
set_option maxRecDepth 100000 in
theorem spec_peAll.calls (k : Nat) (a0_0 : Int) (A0_1 : Option Addr) (c0_1 : Nat) (l0_1 : List (List Int)) (r : List Int) (w : World) (hr0_1 : Kd.C (Kd.slice 3 (Kd.int .i64)) w A0_1 l0_1.length l0_1) (hc0_1 : l0_1.length ≤ c0_1) (h : spec_peAll.f k a0_0 l0_1 = some r) :
    Calls Try.prog 69 #[.agg #[.int .i64 a0_0, .slice A0_1 l0_1.length c0_1]] w fun e w' => ∃ v0_ : Value, e = .returned (v0_) ∧ Kd.R (Kd.int .i64) 3 w' w.heap.size (fun _ => True) v0_ r ∧ Below w.heap.size w w' := by
  have hu29 := Try.underlying29
  have hu22 := Try.underlying22
  have HR0_1 := Aside0.mk hr0_1
  have HC0_1 := Aside0.mk hc0_1
  clear hr0_1 hc0_1
  have HB := Aside0.mk (Below.refl w.heap.size w)
  have H : (spec_peAll.l0 k ([] : List Int) (l0_1.length : Int) 0) = some r := h
  clear h
  have H' := Aside0.mk H
  clear H
  go_enter Try.func69, Try.ntmps69
  go_wp2_with (first | ((with_reducible refine gate_dst (N := 1) rfl ?_); refine box_event ?hg (N := 1) ?hd (cs := #[.int .i64 a0_0, .slice A0_1 l0_1.length c0_1]) (t := 29) ?hr ?_; (case hd => rfl); (case hg => rfl); (case hr => first | (go_simp; done) | (go_simp; rfl)); intro gb122 hg w2 hbox hb; have n0_ := Aside0.mk (below_step (by repeat (first | (with_reducible first | exact HB.out | apply below_alloc | apply pw_below_drewN | apply below_drew1) | exact HB.out)) hb); have n1_ := Aside0.mk (hbox); have n2_ := Aside0.mk ((by rw [hg]; exact (below_size (by repeat (first | (with_reducible first | exact HB.out | apply below_alloc | apply pw_below_drewN | apply below_drew1) | exact HB.out))) : w.heap.size ≤ gb122)); have n3_ := Aside0.mk ((by rw [hg]; exact (below_size (by repeat (first | (with_reducible first | exact HB.out | apply below_alloc | apply pw_below_drewN | apply below_drew1) | exact HB.out))) : w.heap.size ≤ gb122)); clear HB; have HB := n0_; have BK122 := n1_; have GW122 := n2_; have GE122 := n3_; clear n0_ n1_ n2_ n3_; clear hb hbox hg; have hcz3_0 : w2.cell? ⟨gb122, 0, none⟩ = some (.int .i64 a0_0) := (blk_cell BK122.out 0).trans rfl; have hcz3_1 : w2.cell? ⟨gb122, 1, none⟩ = some (.slice A0_1 l0_1.length c0_1) := (blk_cell BK122.out 1).trans rfl; have hfz3_0 := blk_frozen BK122.out 0; have hfz3_1 := blk_frozen BK122.out 1))
  go_loopg [3, 8] k (fun kq v3 v8 w' => ∃ (x3_1 : List Int) (x8_1 : Int), v8 = .int .i64 x8_1 ∧ Aside0 (spec_peAll.l0 kq x3_1 (l0_1.length : Int) x8_1 = some r) ∧ Aside0 (kq ≤ k) ∧ Aside0 (Kd.R (Kd.int .i64) 3 w' w.heap.size (fun _ => True) v3 x3_1) ∧ Aside0 (w'.heap[gb122]? = some (.cells #[.int .i64 a0_0, (.slice A0_1 l0_1.length c0_1)] 29 (0, 0))) ∧ Aside0 (Below w.heap.size w w'))
  case atStart => exact ⟨(([] : List Int)), (0), (by first | rfl | (simp; done) | (simp [*]; done)), H', ⟨Nat.le_refl _⟩, ⟨by first | exact Kd.R_nil _ _ _ _ _ | exact Kd.N_nil _ _ _ _ _ | exact Kd.V_nil _ _ _ _ _ | exact Kd.Q_nil _ _ _ _ _ | exact Kd.S_nil _ _ _ _ _⟩, ⟨by (with_reducible repeat (first | refine blk_drewN ?_ _ | refine blk_drew ?_ | refine blk_alloc ?_ _)); exact BK122.out⟩, ⟨by repeat (first | (with_reducible first | exact HB.out | apply below_alloc | apply pw_below_drewN | apply below_drew1 | refine below_set ?_ GE122.out) | exact HB.out)⟩⟩
  case round =>
   clear H'
   try clear p2
   try clear hcz3_0
   try clear hcz3_1
   try clear hfz3_0
   try clear hfz3_1
   obtain ⟨x3_1, x8_1, rfl, HA, HK1, HO_3, BK122, HB⟩ := hrel
   cases gk with
   | zero => exact absurd HA.out (by simp [spec_peAll.l0])
   | succ k1 =>
    have H := HA.out
    clear HA
    simp only [spec_peAll.l0] at H
    by_cases c4 : x8_1 < (l0_1.length : Int)
    ·rw [if_pos c4] at H
     have c4b0 : decide (x8_1 < (l0_1.length : Int)) = true := decide_eq_true c4
     clear c4
     by_cases c5 : x3_1.length < 17592186044416
     ·rw [if_pos c5] at H
      have LMc5 := Aside0.mk c5
      clear c5
      obtain ⟨y123, hy123⟩ : ∃ y_ : List Int, y_ = (x3_1 ++ [x8_1]) := ⟨_, rfl⟩
      replace H : (spec_peAll.l0 k1 y123 (l0_1.length : Int) (wrap64 (x8_1 + 1))) = some r := by first | (rw [hy123]; with_reducible exact H) | (have H2_ := (Option.bind_some _ _).symm.trans H; rw [hy123]; with_reducible exact H2_) | (have H2_ := (Option.bind_some _ _).symm.trans H; with_reducible exact H2_) | with_reducible exact H | (rw [hy123]; exact H) | exact H
      have Ny123 := Aside0.mk hy123
      clear hy123
      have H' := Aside0.mk H
      clear H
      go_wp2_with (first | ((with_reducible refine gate_builtin (b := .append) (xs := #[.tmp 11, .tmp 13]) rfl ?_); at_builtin; refine Kd.R_append (Kd.int .i64) (w0 := w) w.heap.size rfl (.tmp 11) (.tmp 13) 26 3 (.int .i64 0) 8 rfl Try.underlying26 info3 rfl (by decide) (by omega) u3 x3_1 x8_1 [.int .i64 x8_1] (fun _ => True) (fun _ => False) rfl rfl ?aP (fun _ hk => hk.elim) ?aF ?aO ?aB ?aS ?aL ?_; (case aP => exact rfl); (case aB => exact (by repeat (first | (with_reducible first | exact HB.out | apply below_alloc | apply pw_below_drewN | apply below_drew1 | refine below_set ?_ GE122.out) | exact HB.out))); (case aF => exact (fun _ _ => trivial)); (case aO => exact (by (with_reducible repeat (first | apply Kd.R_alloc | apply Kd.R_drewN | apply Kd.R_drew)); exact HO_3.out)); (case aS => exact (below_size (by repeat (first | (with_reducible first | exact HB.out | apply below_alloc | apply pw_below_drewN | apply below_drew1 | refine below_set ?_ GE122.out) | exact HB.out)))); (case aL => have := LMc5.out; omega); intro v124 w6 ho hb hg hat; rw [← Ny123.out] at ho; have n0_ := Aside0.mk (blk_grown (g := gb122) (o := .cells #[.int .i64 a0_0, .slice A0_1 l0_1.length c0_1] 29 (0, 0)) (by (with_reducible repeat (first | refine blk_drewN ?_ _ | refine blk_drew ?_ | refine blk_alloc ?_ _)); exact BK122.out) hg (Kd.R_ne HO_3.out BK122.out (by decide))); have n1_ := Aside0.mk (hb); have n2_ := Aside0.mk (ho); clear BK122; clear HB; clear HO_3; have BK122 := n0_; have HB := n1_; have HO125 := n2_; clear n0_ n1_ n2_; clear ho hb hg hat))
      go_roundg k1
      case measure => have := HK1.out; omega
      case rel => exact ⟨(y123), (wrap64 (x8_1 + 1)), (by first | rfl | (simp; done) | (simp [*]; done)), H', ⟨by have := HK1.out; omega⟩, ⟨by (with_reducible repeat (first | apply Kd.R_alloc | apply Kd.R_drewN | apply Kd.R_drew)); exact HO125.out⟩, ⟨by (with_reducible repeat (first | refine blk_drewN ?_ _ | refine blk_drew ?_ | refine blk_alloc ?_ _)); exact BK122.out⟩, ⟨by repeat (first | (with_reducible first | exact HB.out | apply below_alloc | apply pw_below_drewN | apply below_drew1 | refine below_set ?_ GE122.out) | exact HB.out)⟩⟩
     ·rw [if_neg c5] at H
      exact absurd H (by simp)
    ·rw [if_neg c4] at H
     have c4b0 : decide (x8_1 < (l0_1.length : Int)) = false := decide_eq_false c4
     clear c4
     obtain rfl := Option.some.inj H
     go_wp2
     go_ret
     exact ⟨_, by first | rfl | (simp [errW_none, errW_some] <;> rfl) | (simp [*, errW_none, errW_some] <;> rfl), by (with_reducible repeat (first | apply Kd.R_alloc | apply Kd.R_drewN | apply Kd.R_drew)); exact HO_3.out, by repeat (first | (with_reducible first | exact HB.out | apply below_alloc | apply pw_below_drewN | apply below_drew1 | refine below_set ?_ GE122.out) | exact HB.out)⟩
/-! ### impl_Hyper_degrees: function 72 -/
mutual
def impl_Hyper_degrees.l0 : Nat → List Bool → List Int → List (List Int) → Int → Int → Option (List Int)
  | 0, _, _, _, _, _ => none
  | k + 1, x1, x5, x18, x19, x20 => if x20 < x19 then (if 0 ≤ x20 then (if x20 < (x18.length : Int) then (if x20 < (x1.length : Int) then (if rdOf false x1 x20 = true then (impl_Hyper_degrees.l0 k x1 x5 x18 x19 (wrap64 (x20 + 1))) else (impl_Hyper_degrees.l1 k x1 x5 x18 x19 x20 (rd_L1 x18 x20) ((rd_L1 x18 x20).length : Int) 0)) else (none)) else (none)) else (none)) else (some x5)
def impl_Hyper_degrees.l1 : Nat → List Bool → List Int → List (List Int) → Int → Int → List Int → Int → Int → Option (List Int)
  | 0, _, _, _, _, _, _, _, _ => none
  | k + 1, x1, x5, x18, x19, x20, x29, x30, x31 => if x31 < x30 then (if 0 ≤ x31 then (if x31 < (x29.length : Int) then (if 0 ≤ (rd x29 x31) then (if (rd x29 x31) < (x5.length : Int) then (impl_Hyper_degrees.l1 k x1 (x5.set ((rd x29 x31) : Int).toNat (wrap64 ((rd x5 (rd x29 x31)) + 1))) x18 x19 x20 x29 x30 (wrap64 (x31 + 1))) else (none)) else (none)) else (none)) else (none)) else (impl_Hyper_degrees.l0 k x1 x5 x18 x19 (wrap64 (x20 + 1)))
end
def impl_Hyper_degrees.f (k : Nat) (a0_0 : Int) (l0_1 : List (List Int)) (l1 : List Bool) : Option (List Int) := if 0 ≤ a0_0 then (if (a0_0 : Int).toNat ≤ 35184372088832 then (impl_Hyper_degrees.l0 k l1 (List.replicate (a0_0 : Int).toNat 0) l0_1 (l0_1.length : Int) 0) else (none)) else (none)
theorem impl_Hyper_degrees.mono_l : ∀ k, (∀ y0 y1 y2 y3 y4, LeO (impl_Hyper_degrees.l0 k y0 y1 y2 y3 y4) (impl_Hyper_degrees.l0 (k + 1) y0 y1 y2 y3 y4)) ∧ (∀ y0 y1 y2 y3 y4 y5 y6 y7, LeO (impl_Hyper_degrees.l1 k y0 y1 y2 y3 y4 y5 y6 y7) (impl_Hyper_degrees.l1 (k + 1) y0 y1 y2 y3 y4 y5 y6 y7))
  | 0 => ⟨fun _ _ _ _ _ r h => by simp [impl_Hyper_degrees.l0] at h, fun _ _ _ _ _ _ _ _ r h => by simp [impl_Hyper_degrees.l1] at h⟩
  | k + 1 => by
    obtain ⟨ih0, ih1⟩ := impl_Hyper_degrees.mono_l k
    refine ⟨?_, ?_⟩
    · intro y0 y1 y2 y3 y4
      unfold impl_Hyper_degrees.l0
      repeat' first
      | (with_reducible exact ih0 _ _ _ _ _)
      | (with_reducible exact ih1 _ _ _ _ _ _ _ _)
      | (with_reducible exact LeO.refl _)
      | (with_reducible exact LeO.none _)
      | (with_reducible refine LeO.ite ?_ ?_)
      | (with_reducible refine LeO.bind ?_ (fun _ => ?_))
      | exact ih0 _ _ _ _ _
      | exact ih1 _ _ _ _ _ _ _ _
      | exact LeO.none _
      | refine LeO.ite ?_ ?_
      | refine LeO.bind ?_ (fun _ => ?_)
    · intro y0 y1 y2 y3 y4 y5 y6 y7
      unfold impl_Hyper_degrees.l1
      repeat' first
      | (with_reducible exact ih0 _ _ _ _ _)
      | (with_reducible exact ih1 _ _ _ _ _ _ _ _)
      | (with_reducible exact LeO.refl _)
      | (with_reducible exact LeO.none _)
      | (with_reducible refine LeO.ite ?_ ?_)
      | (with_reducible refine LeO.bind ?_ (fun _ => ?_))
      | exact ih0 _ _ _ _ _
      | exact ih1 _ _ _ _ _ _ _ _
      | exact LeO.none _
      | refine LeO.ite ?_ ?_
      | refine LeO.bind ?_ (fun _ => ?_)
theorem impl_Hyper_degrees.mono : ∀ a0 a1 a2 k, LeO (impl_Hyper_degrees.f k a0 a1 a2) (impl_Hyper_degrees.f (k + 1) a0 a1 a2) := by
  intro a0 a1 a2 k
  obtain ⟨ih0, ih1⟩ := impl_Hyper_degrees.mono_l k
  unfold impl_Hyper_degrees.f
  repeat' first
      | (with_reducible exact ih0 _ _ _ _ _)
      | (with_reducible exact ih1 _ _ _ _ _ _ _ _)
      | (with_reducible exact LeO.refl _)
      | (with_reducible exact LeO.none _)
      | (with_reducible refine LeO.ite ?_ ?_)
      | (with_reducible refine LeO.bind ?_ (fun _ => ?_))
      | exact ih0 _ _ _ _ _
      | exact ih1 _ _ _ _ _ _ _ _
      | exact LeO.none _
      | refine LeO.ite ?_ ?_
      | refine LeO.bind ?_ (fun _ => ?_)
noncomputable def impl_Hyper_degrees.L0 (y0 : List Bool) (y1 : List Int) (y2 : List (List Int)) (y3 : Int) (y4 : Int) : Option (List Int) := lim fun k => impl_Hyper_degrees.l0 k y0 y1 y2 y3 y4
theorem impl_Hyper_degrees.L0_sup (y0 : List Bool) (y1 : List Int) (y2 : List (List Int)) (y3 : Int) (y4 : Int) : Sup (fun k => impl_Hyper_degrees.l0 k y0 y1 y2 y3 y4) (impl_Hyper_degrees.L0 y0 y1 y2 y3 y4) := Sup.of_mono fun k => (impl_Hyper_degrees.mono_l k).1 y0 y1 y2 y3 y4
noncomputable def impl_Hyper_degrees.L1 (y0 : List Bool) (y1 : List Int) (y2 : List (List Int)) (y3 : Int) (y4 : Int) (y5 : List Int) (y6 : Int) (y7 : Int) : Option (List Int) := lim fun k => impl_Hyper_degrees.l1 k y0 y1 y2 y3 y4 y5 y6 y7
theorem impl_Hyper_degrees.L1_sup (y0 : List Bool) (y1 : List Int) (y2 : List (List Int)) (y3 : Int) (y4 : Int) (y5 : List Int) (y6 : Int) (y7 : Int) : Sup (fun k => impl_Hyper_degrees.l1 k y0 y1 y2 y3 y4 y5 y6 y7) (impl_Hyper_degrees.L1 y0 y1 y2 y3 y4 y5 y6 y7) := Sup.of_mono fun k => (impl_Hyper_degrees.mono_l k).2 y0 y1 y2 y3 y4 y5 y6 y7
noncomputable def impl_Hyper_degrees.F (a0_0 : Int) (l0_1 : List (List Int)) (l1 : List Bool) : Option (List Int) := lim fun k => impl_Hyper_degrees.f k a0_0 l0_1 l1
theorem impl_Hyper_degrees.F_sup (a0_0 : Int) (l0_1 : List (List Int)) (l1 : List Bool) : Sup (fun k => impl_Hyper_degrees.f k a0_0 l0_1 l1) (impl_Hyper_degrees.F a0_0 l0_1 l1) := Sup.of_mono fun k => impl_Hyper_degrees.mono a0_0 l0_1 l1 k
theorem impl_Hyper_degrees.L0_eq (x1 : List Bool) (x5 : List Int) (x18 : List (List Int)) (x19 : Int) (x20 : Int) : impl_Hyper_degrees.L0 x1 x5 x18 x19 x20 = if x20 < x19 then (if 0 ≤ x20 then (if x20 < (x18.length : Int) then (if x20 < (x1.length : Int) then (if rdOf false x1 x20 = true then (impl_Hyper_degrees.L0 x1 x5 x18 x19 (wrap64 (x20 + 1))) else (impl_Hyper_degrees.L1 x1 x5 x18 x19 x20 (rd_L1 x18 x20) ((rd_L1 x18 x20).length : Int) 0)) else (none)) else (none)) else (none)) else (some x5) := by
  refine Sup.unique (impl_Hyper_degrees.L0_sup x1 x5 x18 x19 x20) (Sup.shift (fun k => (impl_Hyper_degrees.mono_l k).1 x1 x5 x18 x19 x20) (Sup.congr (g' := fun k => if x20 < x19 then (if 0 ≤ x20 then (if x20 < (x18.length : Int) then (if x20 < (x1.length : Int) then (if rdOf false x1 x20 = true then (impl_Hyper_degrees.l0 k x1 x5 x18 x19 (wrap64 (x20 + 1))) else (impl_Hyper_degrees.l1 k x1 x5 x18 x19 x20 (rd_L1 x18 x20) ((rd_L1 x18 x20).length : Int) 0)) else (none)) else (none)) else (none)) else (some x5)) (fun k => by first | rfl | simp only [impl_Hyper_degrees.l0]) ?_))
  repeat' first
    | (with_reducible exact impl_Hyper_degrees.L0_sup _ _ _ _ _)
    | (with_reducible exact impl_Hyper_degrees.L1_sup _ _ _ _ _ _ _ _)
    | (with_reducible refine Sup.ite ?_ ?_)
    | (with_reducible refine Sup.bind ?_ (fun _ => ?_))
    | (with_reducible exact Sup.const _)
    | exact impl_Hyper_degrees.L0_sup _ _ _ _ _
    | exact impl_Hyper_degrees.L1_sup _ _ _ _ _ _ _ _
    | exact Sup.const _
theorem impl_Hyper_degrees.L1_eq (x1 : List Bool) (x5 : List Int) (x18 : List (List Int)) (x19 : Int) (x20 : Int) (x29 : List Int) (x30 : Int) (x31 : Int) : impl_Hyper_degrees.L1 x1 x5 x18 x19 x20 x29 x30 x31 = if x31 < x30 then (if 0 ≤ x31 then (if x31 < (x29.length : Int) then (if 0 ≤ (rd x29 x31) then (if (rd x29 x31) < (x5.length : Int) then (impl_Hyper_degrees.L1 x1 (x5.set ((rd x29 x31) : Int).toNat (wrap64 ((rd x5 (rd x29 x31)) + 1))) x18 x19 x20 x29 x30 (wrap64 (x31 + 1))) else (none)) else (none)) else (none)) else (none)) else (impl_Hyper_degrees.L0 x1 x5 x18 x19 (wrap64 (x20 + 1))) := by
  refine Sup.unique (impl_Hyper_degrees.L1_sup x1 x5 x18 x19 x20 x29 x30 x31) (Sup.shift (fun k => (impl_Hyper_degrees.mono_l k).2 x1 x5 x18 x19 x20 x29 x30 x31) (Sup.congr (g' := fun k => if x31 < x30 then (if 0 ≤ x31 then (if x31 < (x29.length : Int) then (if 0 ≤ (rd x29 x31) then (if (rd x29 x31) < (x5.length : Int) then (impl_Hyper_degrees.l1 k x1 (x5.set ((rd x29 x31) : Int).toNat (wrap64 ((rd x5 (rd x29 x31)) + 1))) x18 x19 x20 x29 x30 (wrap64 (x31 + 1))) else (none)) else (none)) else (none)) else (none)) else (impl_Hyper_degrees.l0 k x1 x5 x18 x19 (wrap64 (x20 + 1)))) (fun k => by first | rfl | simp only [impl_Hyper_degrees.l1]) ?_))
  repeat' first
    | (with_reducible exact impl_Hyper_degrees.L0_sup _ _ _ _ _)
    | (with_reducible exact impl_Hyper_degrees.L1_sup _ _ _ _ _ _ _ _)
    | (with_reducible refine Sup.ite ?_ ?_)
    | (with_reducible refine Sup.bind ?_ (fun _ => ?_))
    | (with_reducible exact Sup.const _)
    | exact impl_Hyper_degrees.L0_sup _ _ _ _ _
    | exact impl_Hyper_degrees.L1_sup _ _ _ _ _ _ _ _
    | exact Sup.const _
theorem impl_Hyper_degrees.F_eq (a0_0 : Int) (l0_1 : List (List Int)) (l1 : List Bool) : impl_Hyper_degrees.F a0_0 l0_1 l1 = if 0 ≤ a0_0 then (if (a0_0 : Int).toNat ≤ 35184372088832 then (impl_Hyper_degrees.L0 l1 (List.replicate (a0_0 : Int).toNat 0) l0_1 (l0_1.length : Int) 0) else (none)) else (none) := by
  refine Sup.unique (impl_Hyper_degrees.F_sup a0_0 l0_1 l1) (Sup.congr (g' := fun k => if 0 ≤ a0_0 then (if (a0_0 : Int).toNat ≤ 35184372088832 then (impl_Hyper_degrees.l0 k l1 (List.replicate (a0_0 : Int).toNat 0) l0_1 (l0_1.length : Int) 0) else (none)) else (none)) (fun k => by first | rfl | simp only [impl_Hyper_degrees.f]) ?_)
  repeat' first
    | (with_reducible exact impl_Hyper_degrees.L0_sup _ _ _ _ _)
    | (with_reducible exact impl_Hyper_degrees.L1_sup _ _ _ _ _ _ _ _)
    | (with_reducible refine Sup.ite ?_ ?_)
    | (with_reducible refine Sup.bind ?_ (fun _ => ?_))
    | (with_reducible exact Sup.const _)
    | exact impl_Hyper_degrees.L0_sup _ _ _ _ _
    | exact impl_Hyper_degrees.L1_sup _ _ _ _ _ _ _ _
    | exact Sup.const _
set_option maxHeartbeats 8000000 in
set_option maxRecDepth 100000 in
theorem impl_Hyper_degrees.calls (k : Nat) (gb0_ : Nat) (a0_0 : Int) (A0_1 : Option Addr) (c0_1 : Nat) (l0_1 : List (List Int)) (A1 : Option Addr) (c1 : Nat) (l1 : List Bool) (r : List Int) (w : World) (hr0_1 : Kd.C (Kd.slice 3 (Kd.int .i64)) w A0_1 l0_1.length l0_1) (hc0_1 : l0_1.length ≤ c0_1) (hr1 : Kd.C Kd.bool w A1 l1.length l1) (hc1 : l1.length ≤ c1) (hb0_ : w.heap[gb0_]? = some (.cells #[.int .i64 a0_0, .slice A0_1 l0_1.length c0_1] 29 (0, 0))) (h : impl_Hyper_degrees.f k a0_0 l0_1 l1 = some r) :
    Calls Try.prog 72 #[.pointer (some ⟨gb0_, 0, none⟩), .slice A1 l1.length c1] w fun e w' => ∃ v0_ : Value, e = .returned (v0_) ∧ Kd.R (Kd.int .i64) 3 w' w.heap.size (fun _ => True) v0_ r ∧ Below w.heap.size w w' := by
  have hu22 := Try.underlying22
  have hu26 := Try.underlying26
  have HR0_1 := Aside0.mk hr0_1
  have HC0_1 := Aside0.mk hc0_1
  clear hr0_1 hc0_1
  have HR1 := Aside0.mk hr1
  have HC1 := Aside0.mk hc1
  clear hr1 hc1
  have BK0 := Aside0.mk hb0_
  clear hb0_
  have HB := Aside0.mk (Below.refl w.heap.size w)
  have H : (if 0 ≤ a0_0 then (if (a0_0 : Int).toNat ≤ 35184372088832 then (impl_Hyper_degrees.l0 k l1 (List.replicate (a0_0 : Int).toNat 0) l0_1 (l0_1.length : Int) 0) else (none)) else (none)) = some r := h
  clear h
  by_cases c3 : 0 ≤ a0_0
  ·rw [if_pos c3] at H
   have c3b0 := eq_true c3
   have c3b1 : decide (0 ≤ a0_0) = true := decide_eq_true c3
   clear c3
   by_cases c4 : (a0_0 : Int).toNat ≤ 35184372088832
   ·rw [if_pos c4] at H
    have c4b0 := eq_true c4
    have c4b1 : decide ((a0_0 : Int).toNat ≤ 35184372088832) = true := decide_eq_true c4
    clear c4
    obtain ⟨y166, hy166⟩ : ∃ y_ : List Int, y_ = (List.replicate (a0_0 : Int).toNat 0) := ⟨_, rfl⟩
    replace H : (impl_Hyper_degrees.l0 k l1 y166 l0_1 (l0_1.length : Int) 0) = some r := by first | (rw [hy166]; with_reducible exact H) | (have H2_ := (Option.bind_some _ _).symm.trans H; rw [hy166]; with_reducible exact H2_) | (have H2_ := (Option.bind_some _ _).symm.trans H; with_reducible exact H2_) | with_reducible exact H | (rw [hy166]; exact H) | exact H
    have Ny166 := Aside0.mk hy166
    clear hy166
    have H' := Aside0.mk H
    clear H
    have hcz5_0 : w.cell? ⟨gb0_, 0, none⟩ = some (.int .i64 a0_0) := (blk_cell BK0.out 0).trans rfl
    have hcz5_1 : w.cell? ⟨gb0_, 1, none⟩ = some (.slice A0_1 l0_1.length c0_1) := (blk_cell BK0.out 1).trans rfl
    have hfz5_0 := blk_frozen BK0.out 0
    have hfz5_1 := blk_frozen BK0.out 1
    go_enter Try.func72, Try.ntmps72
    go_wp2_with (first | ((with_reducible refine gate_dst (N := 14) rfl ?_); refine Kd.R_make (Kd.int .i64) _ 3 rfl (N := 14) rfl 26 _ _ rfl a0_0 rfl rfl Try.underlying26 (.int .i64 0) 8 info3 rfl (by decide) (by omega) 0 (ok := fun _ => True) (okp := fun _ => True) rfl (fun _ hk => hk) trivial (of_decide_eq_true (by first | (with_reducible assumption) | assumption)) (Nat.le_trans (Nat.mul_le_mul_right _ (of_decide_eq_true (by first | (with_reducible assumption) | assumption) : a0_0.toNat ≤ 35184372088832)) (by omega)) (Below.refl _ _) (Nat.le_refl _) ?_; intro v167 w6 ho7 hb hg_ hnew_; clear hg_ hnew_; (first | rw [← Ny166.out] at ho7 | (simp only [Int.reduceToNat] at ho7; rw [← Ny166.out] at ho7)); have n0_ := Aside0.mk (Kd.R_lower ho7 (below_size (by repeat (first | (with_reducible first | exact HB.out | apply below_alloc | apply pw_below_drewN | apply below_drew1 | refine below_set ?_ GE0.out) | exact HB.out)))); have n1_ := Aside0.mk (blk_below (g := gb0_) (o := .cells #[.int .i64 a0_0, .slice A0_1 l0_1.length c0_1] 29 (0, 0)) (by (with_reducible repeat (first | refine blk_drewN ?_ _ | refine blk_drew ?_ | refine blk_alloc ?_ _)); exact BK0.out) hb); have n2_ := Aside0.mk (below_step (by repeat (first | (with_reducible first | exact HB.out | apply below_alloc | apply pw_below_drewN | apply below_drew1 | refine below_set ?_ GE0.out) | exact HB.out)) hb); clear BK0; clear HB; have HO168 := n0_; have BK0 := n1_; have HB := n2_; clear n0_ n1_ n2_; clear hb ho7; have hcz8_0 : w6.cell? ⟨gb0_, 0, none⟩ = some (.int .i64 a0_0) := (blk_cell BK0.out 0).trans rfl; have hcz8_1 : w6.cell? ⟨gb0_, 1, none⟩ = some (.slice A0_1 l0_1.length c0_1) := (blk_cell BK0.out 1).trans rfl; have hfz8_0 := blk_frozen BK0.out 0; have hfz8_1 := blk_frozen BK0.out 1))
    go_loopg [20] k (fun kq v20 w' => ∃ (x5_1 : List Int) (x20_1 : Int), v20 = .int .i64 x20_1 ∧ Aside0 (impl_Hyper_degrees.l0 kq l1 x5_1 l0_1 (l0_1.length : Int) x20_1 = some r) ∧ Aside0 (kq ≤ k) ∧ Aside0 (Kd.R (Kd.int .i64) 3 w' w.heap.size (fun _ => True) v167 x5_1) ∧ Aside0 (w'.heap[gb0_]? = some (.cells #[.int .i64 a0_0, (.slice A0_1 l0_1.length c0_1)] 29 (0, 0))) ∧ Aside0 (Below w.heap.size w w'))
    case atStart => exact ⟨(y166), (0), (by first | rfl | (simp; done) | (simp [*]; done)), H', ⟨Nat.le_refl _⟩, ⟨by (with_reducible repeat (first | apply Kd.R_alloc | apply Kd.R_drewN | apply Kd.R_drew)); exact HO168.out⟩, ⟨by (with_reducible repeat (first | refine blk_drewN ?_ _ | refine blk_drew ?_ | refine blk_alloc ?_ _)); exact BK0.out⟩, ⟨by repeat (first | (with_reducible first | exact HB.out | apply below_alloc | apply pw_below_drewN | apply below_drew1 | refine below_set ?_ GE0.out) | exact HB.out)⟩⟩
    case round =>
     clear H'
     try clear c1
     try clear p2
     try clear c3
     try clear c3b0
     try clear c3b1
     try clear c4
     try clear c4b0
     try clear c4b1
     try clear c7
     try clear hcz5_0
     try clear hcz5_1
     try clear hcz8_0
     try clear hcz8_1
     try clear hfz5_0
     try clear hfz5_1
     try clear hfz8_0
     try clear hfz8_1
     obtain ⟨x5_1, x20_1, rfl, HA, HK1, HO_5, BK0, HB⟩ := hrel
     cases gk with
     | zero => exact absurd HA.out (by simp [impl_Hyper_degrees.l0])
     | succ k1 =>
      have H := HA.out
      clear HA
      simp only [impl_Hyper_degrees.l0] at H
      by_cases c9 : x20_1 < (l0_1.length : Int)
      ·rw [if_pos c9] at H
       have c9b0 : decide (x20_1 < (l0_1.length : Int)) = true := decide_eq_true c9
       clear c9
       by_cases c10 : 0 ≤ x20_1
       ·rw [if_pos c10] at H
        have c10b0 : decide (0 ≤ x20_1) = true := decide_eq_true c10
        clear c10
        by_cases c11 : x20_1 < (l0_1.length : Int)
        ·rw [if_pos c11] at H
         have c11b0 : decide (x20_1 < (l0_1.length : Int)) = true := decide_eq_true c11
         clear c11
         by_cases c12 : x20_1 < (l1.length : Int)
         ·rw [if_pos c12] at H
          have c12b0 : decide (x20_1 < (l1.length : Int)) = true := decide_eq_true c12
          clear c12
          obtain ⟨bq13, hbq13⟩ : ∃ b_ : Bool, b_ = (rdOf false l1 x20_1) := ⟨_, rfl⟩
          replace H : (if bq13 = true then (impl_Hyper_degrees.l0 k1 l1 x5_1 l0_1 (l0_1.length : Int) (wrap64 (x20_1 + 1))) else (impl_Hyper_degrees.l1 k1 l1 x5_1 l0_1 (l0_1.length : Int) x20_1 (rd_L1 l0_1 x20_1) ((rd_L1 l0_1 x20_1).length : Int) 0)) = some r := by rw [← hbq13] at H; exact H
          have Nbq13 := Aside0.mk hbq13
          clear hbq13
          by_cases c14 : bq13 = true
          ·subst c14
           have H1 : (impl_Hyper_degrees.l0 k1 l1 x5_1 l0_1 (l0_1.length : Int) (wrap64 (x20_1 + 1))) = some r := by rw [if_pos rfl] at H; exact H
           clear H
           have H := H1
           clear H1
           have H' := Aside0.mk H
           clear H
           have p169 : 0 ≤ (x20_1 : Int) := of_decide_eq_true (by first | (with_reducible assumption) | assumption)
           have q169 : x20_1 < (l0_1.length : Int) := of_decide_eq_true (by first | (with_reducible assumption) | assumption)
           obtain ⟨ad169, A169_0, c169_0, e169, hx169_0, hl169_0, hi169_0⟩ := at_L1 HR0_1.out x20_1 p169 q169
           cases e169
           replace hx169_0 := (HB.out.cell (World.block_lt_of_cell? w _ hx169_0)).trans hx169_0
           have HR169_0 := Aside0.mk hi169_0
           have HC169_0 := Aside0.mk hl169_0
           clear hi169_0 hl169_0
           replace p169 := eq_true p169
           replace q169 := eq_true q169
           have p170 : 0 ≤ (x20_1 : Int) := of_decide_eq_true (by first | (with_reducible assumption) | assumption)
           have q170 : x20_1 < (l1.length : Int) := of_decide_eq_true (by first | (with_reducible assumption) | assumption)
           obtain ⟨ad170, e170, hx170_0⟩ := Kd.at_bool HR1.out x20_1 p170 q170
           (try rw [← Nbq13.out] at hx170_0)
           cases e170
           replace hx170_0 := (HB.out.cell (World.block_lt_of_cell? w _ hx170_0)).trans hx170_0
           replace p170 := eq_true p170
           replace q170 := eq_true q170
           go_wp2
           go_roundg k1
           case measure => have := HK1.out; omega
           case rel => exact ⟨(x5_1), (wrap64 (x20_1 + 1)), (by first | rfl | (simp; done) | (simp [*]; done)), H', ⟨by have := HK1.out; omega⟩, ⟨by (with_reducible repeat (first | apply Kd.R_alloc | apply Kd.R_drewN | apply Kd.R_drew)); exact HO_5.out⟩, ⟨by (with_reducible repeat (first | refine blk_drewN ?_ _ | refine blk_drew ?_ | refine blk_alloc ?_ _)); exact BK0.out⟩, ⟨by repeat (first | (with_reducible first | exact HB.out | apply below_alloc | apply pw_below_drewN | apply below_drew1 | refine below_set ?_ GE0.out) | exact HB.out)⟩⟩
          ·replace c14 := Bool.eq_false_iff.mpr c14
           subst c14
           have H1 : (impl_Hyper_degrees.l1 k1 l1 x5_1 l0_1 (l0_1.length : Int) x20_1 (rd_L1 l0_1 x20_1) ((rd_L1 l0_1 x20_1).length : Int) 0) = some r := by rw [if_neg (show ¬ (false = true) by decide)] at H; exact H
           clear H
           have H := H1
           clear H1
           have H' := Aside0.mk H
           clear H
           have p169 : 0 ≤ (x20_1 : Int) := of_decide_eq_true (by first | (with_reducible assumption) | assumption)
           have q169 : x20_1 < (l0_1.length : Int) := of_decide_eq_true (by first | (with_reducible assumption) | assumption)
           obtain ⟨ad169, A169_0, c169_0, e169, hx169_0, hl169_0, hi169_0⟩ := at_L1 HR0_1.out x20_1 p169 q169
           cases e169
           replace hx169_0 := (HB.out.cell (World.block_lt_of_cell? w _ hx169_0)).trans hx169_0
           have HR169_0 := Aside0.mk hi169_0
           have HC169_0 := Aside0.mk hl169_0
           clear hi169_0 hl169_0
           replace p169 := eq_true p169
           replace q169 := eq_true q169
           have p170 : 0 ≤ (x20_1 : Int) := of_decide_eq_true (by first | (with_reducible assumption) | assumption)
           have q170 : x20_1 < (l1.length : Int) := of_decide_eq_true (by first | (with_reducible assumption) | assumption)
           obtain ⟨ad170, e170, hx170_0⟩ := Kd.at_bool HR1.out x20_1 p170 q170
           (try rw [← Nbq13.out] at hx170_0)
           cases e170
           replace hx170_0 := (HB.out.cell (World.block_lt_of_cell? w _ hx170_0)).trans hx170_0
           replace p170 := eq_true p170
           replace q170 := eq_true q170
           go_wp2
           go_loopg [31] k1 (fun kq v31 w' => ∃ (x5_2 : List Int) (x31_2 : Int), v31 = .int .i64 x31_2 ∧ Aside0 (impl_Hyper_degrees.l1 kq l1 x5_2 l0_1 (l0_1.length : Int) x20_1 (rd_L1 l0_1 x20_1) ((rd_L1 l0_1 x20_1).length : Int) x31_2 = some r) ∧ Aside0 (kq ≤ k1) ∧ Aside0 (Kd.R (Kd.int .i64) 3 w' w.heap.size (fun _ => True) v167 x5_2) ∧ Aside0 (w'.heap[gb0_]? = some (.cells #[.int .i64 a0_0, (.slice (some ad169) l0_1.length c0_1)] 29 (0, 0))) ∧ Aside0 (Below w.heap.size w w'))
           case atStart => exact ⟨(x5_1), (0), (by first | rfl | (simp; done) | (simp [*]; done)), H', ⟨Nat.le_refl _⟩, ⟨by (with_reducible repeat (first | apply Kd.R_alloc | apply Kd.R_drewN | apply Kd.R_drew)); exact HO_5.out⟩, ⟨by (with_reducible repeat (first | refine blk_drewN ?_ _ | refine blk_drew ?_ | refine blk_alloc ?_ _)); exact BK0.out⟩, ⟨by repeat (first | (with_reducible first | exact HB.out | apply below_alloc | apply pw_below_drewN | apply below_drew1 | refine below_set ?_ GE0.out) | exact HB.out)⟩⟩
           case round =>
            clear H'
            try clear c1
            try clear p1
            try clear q1
            try clear hx1
            try clear p2
            try clear c3
            try clear c3b0
            try clear c3b1
            try clear c4
            try clear c4b0
            try clear c4b1
            try clear p6
            try clear c7
            try clear c9
            try clear c9b0
            try clear c10
            try clear c10b0
            try clear c11
            try clear c11b0
            try clear c12
            try clear c12b0
            try clear q13
            try clear c14
            try clear hcz5_0
            try clear hcz5_1
            try clear hcz8_0
            try clear hcz8_1
            try clear hfz5_0
            try clear hfz5_1
            try clear hfz8_0
            try clear hfz8_1
            try clear hx169_0
            try clear hx170_0
            try clear p169
            try clear p170
            try clear p2
            try clear q169
            try clear q170
            obtain ⟨x5_2, x31_2, rfl, HA, HK2, HO_5, BK0, HB⟩ := hrel
            cases gk with
            | zero => exact absurd HA.out (by simp [impl_Hyper_degrees.l1])
            | succ k2 =>
             have H := HA.out
             clear HA
             simp only [impl_Hyper_degrees.l1] at H
             by_cases c15 : x31_2 < ((rd_L1 l0_1 x20_1).length : Int)
             ·rw [if_pos c15] at H
              have c15b0 : decide (x31_2 < ((rd_L1 l0_1 x20_1).length : Int)) = true := decide_eq_true c15
              clear c15
              by_cases c16 : 0 ≤ x31_2
              ·rw [if_pos c16] at H
               have c16b0 : decide (0 ≤ x31_2) = true := decide_eq_true c16
               clear c16
               by_cases c17 : x31_2 < ((rd_L1 l0_1 x20_1).length : Int)
               ·rw [if_pos c17] at H
                have c17b0 : decide (x31_2 < ((rd_L1 l0_1 x20_1).length : Int)) = true := decide_eq_true c17
                clear c17
                by_cases c18 : 0 ≤ (rd (rd_L1 l0_1 x20_1) x31_2)
                ·rw [if_pos c18] at H
                 have c18b0 : decide (0 ≤ (rd (rd_L1 l0_1 x20_1) x31_2)) = true := decide_eq_true c18
                 clear c18
                 by_cases c19 : (rd (rd_L1 l0_1 x20_1) x31_2) < (x5_2.length : Int)
                 ·rw [if_pos c19] at H
                  have c19b0 : decide ((rd (rd_L1 l0_1 x20_1) x31_2) < (x5_2.length : Int)) = true := decide_eq_true c19
                  clear c19
                  obtain ⟨y173, hy173⟩ : ∃ y_ : List Int, y_ = (x5_2.set ((rd (rd_L1 l0_1 x20_1) x31_2) : Int).toNat (wrap64 ((rd x5_2 (rd (rd_L1 l0_1 x20_1) x31_2)) + 1))) := ⟨_, rfl⟩
                  replace H : (impl_Hyper_degrees.l1 k2 l1 y173 l0_1 (l0_1.length : Int) x20_1 (rd_L1 l0_1 x20_1) ((rd_L1 l0_1 x20_1).length : Int) (wrap64 (x31_2 + 1))) = some r := by first | (rw [hy173]; with_reducible exact H) | (have H2_ := (Option.bind_some _ _).symm.trans H; rw [hy173]; with_reducible exact H2_) | (have H2_ := (Option.bind_some _ _).symm.trans H; with_reducible exact H2_) | with_reducible exact H | (rw [hy173]; exact H) | exact H
                  have Ny173 := Aside0.mk hy173
                  clear hy173
                  have H' := Aside0.mk H
                  clear H
                  have p171 : 0 ≤ (x31_2 : Int) := of_decide_eq_true (by first | (with_reducible assumption) | assumption)
                  have q171 : x31_2 < ((rd_L1 l0_1 x20_1).length : Int) := of_decide_eq_true (by first | (with_reducible assumption) | assumption)
                  obtain ⟨ad171, e171, hx171_0⟩ := Kd.at_int HR169_0.out x31_2 p171 q171
                  cases e171
                  replace hx171_0 := (HB.out.cell (World.block_lt_of_cell? w _ hx171_0)).trans hx171_0
                  replace p171 := eq_true p171
                  replace q171 := eq_true q171
                  obtain ⟨Ao21, co21, eo21⟩ := Kd.R_slice HO_5.out
                  subst eo21
                  have p172 : 0 ≤ ((rd (rd_L1 l0_1 x20_1) x31_2) : Int) := of_decide_eq_true (by first | (with_reducible assumption) | assumption)
                  have q172 : (rd (rd_L1 l0_1 x20_1) x31_2) < (x5_2.length : Int) := of_decide_eq_true (by first | (with_reducible assumption) | assumption)
                  obtain ⟨ad172, e172, hx172_0⟩ := Kd.at_int (Kd.R_reads' HO_5.out).2.2 (rd (rd_L1 l0_1 x20_1) x31_2) p172 q172
                  cases e172
                  replace p172 := eq_true p172
                  replace q172 := eq_true q172
                  have p20 : 0 ≤ ((rd (rd_L1 l0_1 x20_1) x31_2) : Int) := of_decide_eq_true (by first | (with_reducible assumption) | assumption)
                  have q20 : ((rd (rd_L1 l0_1 x20_1) x31_2) : Int) < ((x5_2.length : Int) : Int) := of_decide_eq_true (by first | (with_reducible assumption) | assumption)
                  obtain ⟨go20, co20, eo20, gb20, gl20, cl20, HG20⟩ := Kd.R_form HO_5.out (by omega)
                  (first | cases eo20 | (injection eo20 with ea_ en_ ec_; (first | subst ea_ | (injection ea_ with ea_; subst ea_)); subst ec_; clear en_))
                  have GB20 := Aside0.mk gb20
                  have GG20 := Aside0.mk HG20
                  clear gb20 gl20 HG20
                  (first | simp only [add_plain] at hx172_0 | skip)
                  obtain ⟨hx20_0, hf20_0⟩ := Kd.R_celln 0 HO_5.out ((rd (rd_L1 l0_1 x20_1) x31_2) : Int) p20 q20
                  replace p20 := eq_true p20
                  replace q20 := eq_true q20
                  have HP22 := Kd.R_putg HO_5.out ((rd (rd_L1 l0_1 x20_1) x31_2) : Int) (wrap64 ((rd x5_2 (rd (rd_L1 l0_1 x20_1) x31_2)) + 1))
                  go_wp2_with (first | ((with_reducible refine gate_store (t := 3) (p := 40) rfl ?_); refine store_event (t := 3) (p := 40) (v := ?vo_w23) (w1 := (wr.setCell ⟨go20, ((rd (rd_L1 l0_1 x20_1) x31_2) : Int).toNat, none⟩ (.int .i64 (wrap64 ((rd x5_2 (rd (rd_L1 l0_1 x20_1) x31_2)) + 1))))) ?hg ?ho ?hn ?hr ?_; (case ho => rfl); (case hg => rfl); (case hn => rfl); (case hr => first | (go_simp; done) | (go_simp; rfl)); intro w23 hw; have hg : wr.grownBy w23 (some go20) := (by rw [hw]; exact HP22.2); have hp_ : Kd.R (Kd.int .i64) 3 w23 w.heap.size (fun _ => True) (.slice (some ⟨go20, 0, none⟩) x5_2.length co21) y173 := (by rw [hw, Ny173.out]; exact HP22.1); clear HP22; have n0_ := Aside0.mk (hp_); have n1_ := Aside0.mk (blk_grown (g := gb0_) (o := .cells #[.int .i64 a0_0, .slice (some ad169) l0_1.length c0_1] 29 (0, 0)) (by (with_reducible repeat (first | refine blk_drewN ?_ _ | refine blk_drew ?_ | refine blk_alloc ?_ _)); exact BK0.out) hg (Kd.R_ne HO_5.out BK0.out (by decide))); have n2_ := Aside0.mk ((by rw [hw]; exact below_set (HB.out) GB20.out : Below w.heap.size w w23)); clear HO_5; clear BK0; clear HB; have HO_5 := n0_; have BK0 := n1_; have HB := n2_; clear n0_ n1_ n2_; clear hg hw hp_))
                  go_roundg k2
                  case measure => have := HK1.out; have := HK2.out; omega
                  case rel => exact ⟨(y173), (wrap64 (x31_2 + 1)), (by first | rfl | (simp; done) | (simp [*]; done)), H', ⟨by have := HK1.out; have := HK2.out; omega⟩, ⟨by (with_reducible repeat (first | apply Kd.R_alloc | apply Kd.R_drewN | apply Kd.R_drew)); exact HO_5.out⟩, ⟨by (with_reducible repeat (first | refine blk_drewN ?_ _ | refine blk_drew ?_ | refine blk_alloc ?_ _)); exact BK0.out⟩, ⟨by repeat (first | (with_reducible first | exact HB.out | apply below_alloc | apply pw_below_drewN | apply below_drew1 | refine below_set ?_ GE0.out) | exact HB.out)⟩⟩
                 ·rw [if_neg c19] at H
                  exact absurd H (by simp)
                ·rw [if_neg c18] at H
                 exact absurd H (by simp)
               ·rw [if_neg c17] at H
                exact absurd H (by simp)
              ·rw [if_neg c16] at H
               exact absurd H (by simp)
             ·rw [if_neg c15] at H
              have c15b0 : decide (x31_2 < ((rd_L1 l0_1 x20_1).length : Int)) = false := decide_eq_false c15
              clear c15
              have H' := Aside0.mk H
              clear H
              go_wp2
              go_roundg k2
              case measure => have := HK1.out; have := HK2.out; omega
              case rel => exact ⟨(x5_2), (wrap64 (x20_1 + 1)), (by first | rfl | (simp; done) | (simp [*]; done)), H', ⟨by have := HK1.out; have := HK2.out; omega⟩, ⟨by (with_reducible repeat (first | apply Kd.R_alloc | apply Kd.R_drewN | apply Kd.R_drew)); exact HO_5.out⟩, ⟨by (with_reducible repeat (first | refine blk_drewN ?_ _ | refine blk_drew ?_ | refine blk_alloc ?_ _)); exact BK0.out⟩, ⟨by repeat (first | (with_reducible first | exact HB.out | apply below_alloc | apply pw_below_drewN | apply below_drew1 | refine below_set ?_ GE0.out) | exact HB.out)⟩⟩
         ·rw [if_neg c12] at H
          exact absurd H (by simp)
        ·rw [if_neg c11] at H
         exact absurd H (by simp)
       ·rw [if_neg c10] at H
        exact absurd H (by simp)
      ·rw [if_neg c9] at H
       have c9b0 : decide (x20_1 < (l0_1.length : Int)) = false := decide_eq_false c9
       clear c9
       obtain rfl := Option.some.inj H
       go_wp2
       go_ret
       exact ⟨_, by first | rfl | (simp [errW_none, errW_some] <;> rfl) | (simp [*, errW_none, errW_some] <;> rfl), by (with_reducible repeat (first | apply Kd.R_alloc | apply Kd.R_drewN | apply Kd.R_drew)); exact HO_5.out, by repeat (first | (with_reducible first | exact HB.out | apply below_alloc | apply pw_below_drewN | apply below_drew1 | refine below_set ?_ GE0.out) | exact HB.out)⟩
   ·rw [if_neg c4] at H
    exact absurd H (by simp)
  ·rw [if_neg c3] at H
   exact absurd H (by simp)
/-! ### impl_Hyper_none: function 73 -/
def impl_Hyper_none.f (a0_0 : Int) (l0_1 : List (List Int)) : Option (List Bool) := if 0 ≤ (l0_1.length : Int) then (if ((l0_1.length : Int) : Int).toNat ≤ 281474976710656 then (some (List.replicate ((l0_1.length : Int) : Int).toNat false)) else (none)) else (none)
set_option maxHeartbeats 8000000 in
set_option maxRecDepth 100000 in
theorem impl_Hyper_none.calls (gb0_ : Nat) (a0_0 : Int) (A0_1 : Option Addr) (c0_1 : Nat) (l0_1 : List (List Int)) (r : List Bool) (w : World) (hr0_1 : Kd.C (Kd.slice 3 (Kd.int .i64)) w A0_1 l0_1.length l0_1) (hc0_1 : l0_1.length ≤ c0_1) (hb0_ : w.heap[gb0_]? = some (.cells #[.int .i64 a0_0, .slice A0_1 l0_1.length c0_1] 29 (0, 0))) (h : impl_Hyper_none.f a0_0 l0_1 = some r) :
    Calls Try.prog 73 #[.pointer (some ⟨gb0_, 0, none⟩)] w fun e w' => ∃ v0_ : Value, e = .returned (v0_) ∧ Kd.R Kd.bool 4 w' w.heap.size (fun _ => True) v0_ r ∧ Below w.heap.size w w' := by
  have hu22 := Try.underlying22
  have HR0_1 := Aside0.mk hr0_1
  have HC0_1 := Aside0.mk hc0_1
  clear hr0_1 hc0_1
  have BK0 := Aside0.mk hb0_
  clear hb0_
  have HB := Aside0.mk (Below.refl w.heap.size w)
  have H : (if 0 ≤ (l0_1.length : Int) then (if ((l0_1.length : Int) : Int).toNat ≤ 281474976710656 then (some (List.replicate ((l0_1.length : Int) : Int).toNat false)) else (none)) else (none)) = some r := h
  clear h
  by_cases c2 : 0 ≤ (l0_1.length : Int)
  ·rw [if_pos c2] at H
   have c2b0 := eq_true c2
   have c2b1 : decide (0 ≤ (l0_1.length : Int)) = true := decide_eq_true c2
   clear c2
   by_cases c3 : ((l0_1.length : Int) : Int).toNat ≤ 281474976710656
   ·rw [if_pos c3] at H
    have c3b0 := eq_true c3
    have c3b1 : decide (((l0_1.length : Int) : Int).toNat ≤ 281474976710656) = true := decide_eq_true c3
    clear c3
    obtain ⟨y174, hy174⟩ : ∃ y_ : List Bool, y_ = (List.replicate ((l0_1.length : Int) : Int).toNat false) := ⟨_, rfl⟩
    replace H : (some y174) = some r := by first | (rw [hy174]; with_reducible exact H) | (have H2_ := (Option.bind_some _ _).symm.trans H; rw [hy174]; with_reducible exact H2_) | (have H2_ := (Option.bind_some _ _).symm.trans H; with_reducible exact H2_) | with_reducible exact H | (rw [hy174]; exact H) | exact H
    have Ny174 := Aside0.mk hy174
    clear hy174
    obtain rfl := Option.some.inj H
    have hcz4_0 : w.cell? ⟨gb0_, 0, none⟩ = some (.int .i64 a0_0) := (blk_cell BK0.out 0).trans rfl
    have hcz4_1 : w.cell? ⟨gb0_, 1, none⟩ = some (.slice A0_1 l0_1.length c0_1) := (blk_cell BK0.out 1).trans rfl
    have hfz4_0 := blk_frozen BK0.out 0
    have hfz4_1 := blk_frozen BK0.out 1
    go_enter Try.func73, Try.ntmps73
    go_wp2_with (first | ((with_reducible refine gate_dst (N := 8) rfl ?_); refine Kd.R_make Kd.bool _ 4 rfl (N := 8) rfl 72 _ _ rfl (l0_1.length : Int) rfl rfl Try.underlying72 (.bool false) 1 info4 rfl (by decide) (by omega) false (ok := fun _ => True) (okp := fun _ => True) rfl (fun _ hk => hk) trivial (of_decide_eq_true (by first | (with_reducible assumption) | assumption)) (Nat.le_trans (Nat.mul_le_mul_right _ (of_decide_eq_true (by first | (with_reducible assumption) | assumption) : (l0_1.length : Int).toNat ≤ 281474976710656)) (by omega)) (Below.refl _ _) (Nat.le_refl _) ?_; intro v175 w5 ho6 hb hg_ hnew_; clear hg_ hnew_; (first | rw [← Ny174.out] at ho6 | (simp only [Int.reduceToNat] at ho6; rw [← Ny174.out] at ho6)); have n0_ := Aside0.mk (Kd.R_lower ho6 (below_size (by repeat (first | (with_reducible first | exact HB.out | apply below_alloc | apply pw_below_drewN | apply below_drew1 | refine below_set ?_ GE0.out) | exact HB.out)))); have n1_ := Aside0.mk (blk_below (g := gb0_) (o := .cells #[.int .i64 a0_0, .slice A0_1 l0_1.length c0_1] 29 (0, 0)) (by (with_reducible repeat (first | refine blk_drewN ?_ _ | refine blk_drew ?_ | refine blk_alloc ?_ _)); exact BK0.out) hb); have n2_ := Aside0.mk (below_step (by repeat (first | (with_reducible first | exact HB.out | apply below_alloc | apply pw_below_drewN | apply below_drew1 | refine below_set ?_ GE0.out) | exact HB.out)) hb); clear BK0; clear HB; have HO176 := n0_; have BK0 := n1_; have HB := n2_; clear n0_ n1_ n2_; clear hb ho6))
    go_ret
    exact ⟨_, by first | rfl | (simp [errW_none, errW_some] <;> rfl) | (simp [*, errW_none, errW_some] <;> rfl), by (with_reducible repeat (first | apply Kd.R_alloc | apply Kd.R_drewN | apply Kd.R_drew)); exact HO176.out, by repeat (first | (with_reducible first | exact HB.out | apply below_alloc | apply pw_below_drewN | apply below_drew1 | refine below_set ?_ GE0.out) | exact HB.out)⟩
   ·rw [if_neg c3] at H
    exact absurd H (by simp)
  ·rw [if_neg c2] at H
   exact absurd H (by simp)
end Go.Proofs.Ytlcedciocmjggaa.X
