/- Written by a program of this session: what functions of the given program compute, and that their calls do so. -/
import Derived.Test.YtlcedciocmjggaaXx0
import Derived.Test.YtlcedciocmjggaaXg3f05a
import Derived.Test.YtlcedciocmjggaaXg3f0ea
namespace Go.Proofs.Ytlcedciocmjggaa.X
open Go.RowKit Go.Proofs.YtlcedciocmjggaaW.PrintWords Go.Proofs.YtlcedciocmjggaaW.PrintLast Go.Proofs.YtlcedciocmjggaaW.PrintMore
attribute [local go_sem] max2_int min2_int max_two min_two max_three min_three max_four min_four   -- for this text's walks alone
set_option linter.unusedVariables false
set_option linter.unusedSimpArgs false
/-! ### spec_peFree: function 79 -/
def spec_peFree.l0 : Nat → List Int → List Int → Int → Int → Option (List Int)
  | 0, _, _, _, _ => none
  | k + 1, x5, x10, x11, x12 => if x12 < x11 then (if 0 ≤ x12 then (if x12 < (x10.length : Int) then (if (rd x10 x12) = 1 then (if x5.length < 17592186044416 then (spec_peFree.l0 k (x5 ++ [x12]) x10 x11 (wrap64 (x12 + 1))) else (none)) else (spec_peFree.l0 k x5 x10 x11 (wrap64 (x12 + 1)))) else (none)) else (none)) else (some x5)
def spec_peFree.f (k : Nat) (a0_0 : Int) (l0_1 : List (List Int)) (l1 : List Int) : Option (List Int) := (spec_peDegrees.f k a0_0 l0_1 l1).bind fun t300 => (spec_peFree.l0 k ([] : List Int) t300 (t300.length : Int) 0)
theorem spec_peFree.mono_l : ∀ k, (∀ y0 y1 y2 y3, LeO (spec_peFree.l0 k y0 y1 y2 y3) (spec_peFree.l0 (k + 1) y0 y1 y2 y3))
  | 0 => fun _ _ _ _ r h => by simp [spec_peFree.l0] at h
  | k + 1 => by
    have ih0 := spec_peFree.mono_l k
    · intro y0 y1 y2 y3
      unfold spec_peFree.l0
      repeat' first
      | (with_reducible exact ih0 _ _ _ _)
      | (with_reducible exact spec_peDegrees.mono _ _ _ _)
      | (with_reducible exact LeO.refl _)
      | (with_reducible exact LeO.none _)
      | (with_reducible refine LeO.ite ?_ ?_)
      | (with_reducible refine LeO.bind ?_ (fun _ => ?_))
      | exact ih0 _ _ _ _
      | exact spec_peDegrees.mono _ _ _ _
      | exact LeO.none _
      | refine LeO.ite ?_ ?_
      | refine LeO.bind ?_ (fun _ => ?_)
theorem spec_peFree.mono : ∀ a0 a1 a2 k, LeO (spec_peFree.f k a0 a1 a2) (spec_peFree.f (k + 1) a0 a1 a2) := by
  intro a0 a1 a2 k
  have ih0 := spec_peFree.mono_l k
  unfold spec_peFree.f
  repeat' first
      | (with_reducible exact ih0 _ _ _ _)
      | (with_reducible exact spec_peDegrees.mono _ _ _ _)
      | (with_reducible exact LeO.refl _)
      | (with_reducible exact LeO.none _)
      | (with_reducible refine LeO.ite ?_ ?_)
      | (with_reducible refine LeO.bind ?_ (fun _ => ?_))
      | exact ih0 _ _ _ _
      | exact spec_peDegrees.mono _ _ _ _
      | exact LeO.none _
      | refine LeO.ite ?_ ?_
      | refine LeO.bind ?_ (fun _ => ?_)
noncomputable def spec_peFree.L0 (y0 : List Int) (y1 : List Int) (y2 : Int) (y3 : Int) : Option (List Int) := lim fun k => spec_peFree.l0 k y0 y1 y2 y3
theorem spec_peFree.L0_sup (y0 : List Int) (y1 : List Int) (y2 : Int) (y3 : Int) : Sup (fun k => spec_peFree.l0 k y0 y1 y2 y3) (spec_peFree.L0 y0 y1 y2 y3) := Sup.of_mono fun k => spec_peFree.mono_l k y0 y1 y2 y3
noncomputable def spec_peFree.F (a0_0 : Int) (l0_1 : List (List Int)) (l1 : List Int) : Option (List Int) := lim fun k => spec_peFree.f k a0_0 l0_1 l1
theorem spec_peFree.F_sup (a0_0 : Int) (l0_1 : List (List Int)) (l1 : List Int) : Sup (fun k => spec_peFree.f k a0_0 l0_1 l1) (spec_peFree.F a0_0 l0_1 l1) := Sup.of_mono fun k => spec_peFree.mono a0_0 l0_1 l1 k
theorem spec_peFree.L0_eq (x5 : List Int) (x10 : List Int) (x11 : Int) (x12 : Int) : spec_peFree.L0 x5 x10 x11 x12 = if x12 < x11 then (if 0 ≤ x12 then (if x12 < (x10.length : Int) then (if (rd x10 x12) = 1 then (if x5.length < 17592186044416 then (spec_peFree.L0 (x5 ++ [x12]) x10 x11 (wrap64 (x12 + 1))) else (none)) else (spec_peFree.L0 x5 x10 x11 (wrap64 (x12 + 1)))) else (none)) else (none)) else (some x5) := by
  refine Sup.unique (spec_peFree.L0_sup x5 x10 x11 x12) (Sup.shift (fun k => spec_peFree.mono_l k x5 x10 x11 x12) (Sup.congr (g' := fun k => if x12 < x11 then (if 0 ≤ x12 then (if x12 < (x10.length : Int) then (if (rd x10 x12) = 1 then (if x5.length < 17592186044416 then (spec_peFree.l0 k (x5 ++ [x12]) x10 x11 (wrap64 (x12 + 1))) else (none)) else (spec_peFree.l0 k x5 x10 x11 (wrap64 (x12 + 1)))) else (none)) else (none)) else (some x5)) (fun k => by first | rfl | simp only [spec_peFree.l0]) ?_))
  repeat' first
    | (with_reducible exact spec_peFree.L0_sup _ _ _ _)
    | (with_reducible exact spec_peDegrees.F_sup _ _ _)
    | (with_reducible refine Sup.ite ?_ ?_)
    | (with_reducible refine Sup.bind ?_ (fun _ => ?_))
    | (with_reducible exact Sup.const _)
    | exact spec_peFree.L0_sup _ _ _ _
    | exact spec_peDegrees.F_sup _ _ _
    | exact Sup.const _
theorem spec_peFree.F_eq (a0_0 : Int) (l0_1 : List (List Int)) (l1 : List Int) : spec_peFree.F a0_0 l0_1 l1 = (spec_peDegrees.F a0_0 l0_1 l1).bind fun t300 => (spec_peFree.L0 ([] : List Int) t300 (t300.length : Int) 0) := by
  refine Sup.unique (spec_peFree.F_sup a0_0 l0_1 l1) (Sup.congr (g' := fun k => (spec_peDegrees.f k a0_0 l0_1 l1).bind fun t300 => (spec_peFree.l0 k ([] : List Int) t300 (t300.length : Int) 0)) (fun k => by first | rfl | simp only [spec_peFree.f]) ?_)
  repeat' first
    | (with_reducible exact spec_peFree.L0_sup _ _ _ _)
    | (with_reducible exact spec_peDegrees.F_sup _ _ _)
    | (with_reducible refine Sup.ite ?_ ?_)
    | (with_reducible refine Sup.bind ?_ (fun _ => ?_))
    | (with_reducible exact Sup.const _)
    | exact spec_peFree.L0_sup _ _ _ _
    | exact spec_peDegrees.F_sup _ _ _
    | exact Sup.const _
set_option maxHeartbeats 8000000 in
set_option maxRecDepth 100000 in
theorem spec_peFree.calls (k : Nat) (a0_0 : Int) (A0_1 : Option Addr) (c0_1 : Nat) (l0_1 : List (List Int)) (A1 : Option Addr) (c1 : Nat) (l1 : List Int) (r : List Int) (w : World) (hr0_1 : Kd.C (Kd.slice 3 (Kd.int .i64)) w A0_1 l0_1.length l0_1) (hc0_1 : l0_1.length ≤ c0_1) (hr1 : Kd.C (Kd.int .i64) w A1 l1.length l1) (hc1 : l1.length ≤ c1) (h : spec_peFree.f k a0_0 l0_1 l1 = some r) :
    Calls Try.prog 79 #[.agg #[.int .i64 a0_0, .slice A0_1 l0_1.length c0_1], .slice A1 l1.length c1] w fun e w' => ∃ v0_ : Value, e = .returned (v0_) ∧ Kd.R (Kd.int .i64) 3 w' w.heap.size (fun _ => True) v0_ r ∧ Below w.heap.size w w' := by
  have hu29 := Try.underlying29
  have HR0_1 := Aside0.mk hr0_1
  have HC0_1 := Aside0.mk hc0_1
  clear hr0_1 hc0_1
  have HR1 := Aside0.mk hr1
  have HC1 := Aside0.mk hc1
  clear hr1 hc1
  have HB := Aside0.mk (Below.refl w.heap.size w)
  have H : ((spec_peDegrees.f k a0_0 l0_1 l1).bind fun t300 => (spec_peFree.l0 k ([] : List Int) t300 (t300.length : Int) 0)) = some r := h
  clear h
  replace H := Option.bind_eq_some_iff.mp H
  obtain ⟨t300, A30, H⟩ := H
  replace H : (spec_peFree.l0 k ([] : List Int) t300 (t300.length : Int) 0) = some r := H
  have A3 := Aside0.mk A30
  clear A30
  have H' := Aside0.mk H
  clear H
  go_enter Try.func79, Try.ntmps79
  go_wp2_with (first | ((with_reducible refine gate_dst (N := 2) rfl ?_); refine box_event ?hg (N := 2) ?hd (cs := #[.int .i64 a0_0, .slice A0_1 l0_1.length c0_1]) (t := 29) ?hr ?_; (case hd => rfl); (case hg => rfl); (case hr => first | (go_simp; done) | (go_simp; rfl)); intro gb299 hg w4 hbox hb; have n0_ := Aside0.mk (below_step (by repeat (first | (with_reducible first | exact HB.out | apply below_alloc | apply pw_below_drewN | apply below_drew1) | exact HB.out)) hb); have n1_ := Aside0.mk (hbox); have n2_ := Aside0.mk ((by rw [hg]; exact (below_size (by repeat (first | (with_reducible first | exact HB.out | apply below_alloc | apply pw_below_drewN | apply below_drew1) | exact HB.out))) : w.heap.size ≤ gb299)); have n3_ := Aside0.mk ((by rw [hg]; exact (below_size (by repeat (first | (with_reducible first | exact HB.out | apply below_alloc | apply pw_below_drewN | apply below_drew1) | exact HB.out))) : w.heap.size ≤ gb299)); clear HB; have HB := n0_; have BK299 := n1_; have GW299 := n2_; have GE299 := n3_; clear n0_ n1_ n2_ n3_; clear hb hbox hg; have hcz5_0 : w4.cell? ⟨gb299, 0, none⟩ = some (.int .i64 a0_0) := (blk_cell BK299.out 0).trans rfl; have hcz5_1 : w4.cell? ⟨gb299, 1, none⟩ = some (.slice A0_1 l0_1.length c0_1) := (blk_cell BK299.out 1).trans rfl; have hfz5_0 := blk_frozen BK299.out 0; have hfz5_1 := blk_frozen BK299.out 1) | ((with_reducible refine gate_callee (f := 68) rfl ?_); refine goesL_ (some 10) rfl rfl Try.func68 (by kernel_rfl) rfl #[.agg #[.int .i64 a0_0, .slice A0_1 l0_1.length c0_1], .slice A1 l1.length c1] rfl (by (try simp only [List.map_toArray, List.map_cons, List.map_nil]); first | done | rfl | (simp only [List.length_drop, List.length_take]; rfl)) ?_; (with_reducible refine (spec_peDegrees.calls k a0_0 _ _ l0_1 _ _ l1 t300 _ ?side1 ?side2 ?side3 ?side4 A3.out).mono ?_); (case side1 => repeat (first | exact (Kd.C_below HR0_1.out HB.out) | (with_reducible refine Kd.C_alloc ?_ _) | (with_reducible refine Kd.C_drewN ?_ _) | (with_reducible refine Kd.C_drew ?_))); (case side2 => exact HC0_1.out); (case side3 => repeat (first | exact (Kd.C_below HR1.out HB.out) | (with_reducible refine Kd.C_alloc ?_ _) | (with_reducible refine Kd.C_drewN ?_ _) | (with_reducible refine Kd.C_drew ?_))); (case side4 => exact HC1.out); rintro e w6 ⟨v301, rfl, ho0, hb⟩; refine ⟨_, rfl, ?_⟩; have n0_ := Aside0.mk (Kd.R_lower ho0 (below_size (by repeat (first | (with_reducible first | exact HB.out | apply below_alloc | apply pw_below_drewN | apply below_drew1 | refine below_set ?_ GE299.out) | exact HB.out)))); have n1_ := Aside0.mk (blk_below (g := gb299) (o := .cells #[.int .i64 a0_0, .slice A0_1 l0_1.length c0_1] 29 (0, 0)) (by (with_reducible repeat (first | refine blk_drewN ?_ _ | refine blk_drew ?_ | refine blk_alloc ?_ _)); exact BK299.out) hb); have n2_ := Aside0.mk (below_step (by repeat (first | (with_reducible first | exact HB.out | apply below_alloc | apply pw_below_drewN | apply below_drew1 | refine below_set ?_ GE299.out) | exact HB.out)) hb); clear BK299; clear HB; have HO302 := n0_; have BK299 := n1_; have HB := n2_; clear n0_ n1_ n2_; (try clear hb); (try clear hb2); (try clear hk); (try clear hi); (try clear ho0); obtain ⟨Ao7, co7, eo7⟩ := Kd.R_slice HO302.out; subst eo7))
  go_loopg [5, 12] k (fun kq v5 v12 w' => ∃ (x5_1 : List Int) (x12_1 : Int), v12 = .int .i64 x12_1 ∧ Aside0 (spec_peFree.l0 kq x5_1 t300 (t300.length : Int) x12_1 = some r) ∧ Aside0 (kq ≤ k) ∧ Aside0 (Kd.R (Kd.int .i64) 3 w' w.heap.size (fun k_ => some k_ ≠ ((.slice Ao7 t300.length co7) : Value).ownBlock) v5 x5_1) ∧ Aside0 (Kd.R (Kd.int .i64) 3 w' w.heap.size (fun k_ => some k_ ≠ (v5 : Value).ownBlock) (.slice Ao7 t300.length co7) t300) ∧ Aside0 (w'.heap[gb299]? = some (.cells #[.int .i64 a0_0, (.slice A0_1 l0_1.length c0_1)] 29 (0, 0))) ∧ Aside0 (Below w.heap.size w w'))
  case atStart => exact ⟨(([] : List Int)), (0), (by first | rfl | (simp; done) | (simp [*]; done)), H', ⟨Nat.le_refl _⟩, ⟨by first | exact Kd.R_nil _ _ _ _ _ | exact Kd.N_nil _ _ _ _ _ | exact Kd.V_nil _ _ _ _ _ | exact Kd.Q_nil _ _ _ _ _ | exact Kd.S_nil _ _ _ _ _⟩, ⟨by (with_reducible repeat (first | apply Kd.R_alloc | apply Kd.R_drewN | apply Kd.R_drew)); exact Kd.R_mono HO302.out (fun _ hk => (by simp [Value.ownBlock]))⟩, ⟨by (with_reducible repeat (first | refine blk_drewN ?_ _ | refine blk_drew ?_ | refine blk_alloc ?_ _)); exact BK299.out⟩, ⟨by repeat (first | (with_reducible first | exact HB.out | apply below_alloc | apply pw_below_drewN | apply below_drew1 | refine below_set ?_ GE299.out) | exact HB.out)⟩⟩
  case round =>
   clear H'
   try clear c1
   try clear p2
   try clear c6
   try clear c7
   try clear hcz5_0
   try clear hcz5_1
   try clear hfz5_0
   try clear hfz5_1
   obtain ⟨x5_1, x12_1, rfl, HA, HK1, HO_5, HO_10, BK299, HB⟩ := hrel
   cases gk with
   | zero => exact absurd HA.out (by simp [spec_peFree.l0])
   | succ k1 =>
    have H := HA.out
    clear HA
    simp only [spec_peFree.l0] at H
    by_cases c8 : x12_1 < (t300.length : Int)
    ·rw [if_pos c8] at H
     have c8b0 : decide (x12_1 < (t300.length : Int)) = true := decide_eq_true c8
     clear c8
     by_cases c9 : 0 ≤ x12_1
     ·rw [if_pos c9] at H
      have c9b0 : decide (0 ≤ x12_1) = true := decide_eq_true c9
      clear c9
      by_cases c10 : x12_1 < (t300.length : Int)
      ·rw [if_pos c10] at H
       have c10b0 : decide (x12_1 < (t300.length : Int)) = true := decide_eq_true c10
       clear c10
       by_cases c11 : (rd t300 x12_1) = 1
       ·rw [if_pos c11] at H
        have c11b0 : ((rd t300 x12_1) == 1) = true := beq_iff_eq.mpr c11
        have c11b1 : ((rd t300 x12_1) != 1) = false := bne_eq_false_iff_eq.mpr c11
        clear c11
        by_cases c12 : x5_1.length < 17592186044416
        ·rw [if_pos c12] at H
         have LMc12 := Aside0.mk c12
         clear c12
         obtain ⟨y304, hy304⟩ : ∃ y_ : List Int, y_ = (x5_1 ++ [x12_1]) := ⟨_, rfl⟩
         replace H : (spec_peFree.l0 k1 y304 t300 (t300.length : Int) (wrap64 (x12_1 + 1))) = some r := by first | (rw [hy304]; with_reducible exact H) | (have H2_ := (Option.bind_some _ _).symm.trans H; rw [hy304]; with_reducible exact H2_) | (have H2_ := (Option.bind_some _ _).symm.trans H; with_reducible exact H2_) | with_reducible exact H | (rw [hy304]; exact H) | exact H
         have Ny304 := Aside0.mk hy304
         clear hy304
         have H' := Aside0.mk H
         clear H
         have p303 : 0 ≤ (x12_1 : Int) := of_decide_eq_true (by first | (with_reducible assumption) | assumption)
         have q303 : x12_1 < (t300.length : Int) := of_decide_eq_true (by first | (with_reducible assumption) | assumption)
         obtain ⟨ad303, e303, hx303_0⟩ := Kd.at_int (Kd.R_reads' HO_10.out).2.2 x12_1 p303 q303
         cases e303
         replace p303 := eq_true p303
         replace q303 := eq_true q303
         go_wp2_with (first | ((with_reducible refine gate_builtin (b := .append) (xs := #[.tmp 19, .tmp 21]) rfl ?_); at_builtin; refine Kd.R_append (Kd.int .i64) (w0 := w) w.heap.size rfl (.tmp 19) (.tmp 21) 26 3 (.int .i64 0) 8 rfl Try.underlying26 info3 rfl (by decide) (by omega) u5 x5_1 x12_1 [.int .i64 x12_1] (fun k_ => some k_ ≠ (.slice (some ad303) t300.length co7 : Value).ownBlock) (fun _ => False) rfl rfl ?aP (fun _ hk => hk.elim) ?aF ?aO ?aB ?aS ?aL ?_; (case aP => exact rfl); (case aB => exact (by repeat (first | (with_reducible first | exact HB.out | apply below_alloc | apply pw_below_drewN | apply below_drew1 | refine below_set ?_ GE299.out) | exact HB.out))); (case aF => exact (fun k_ hk => Kd.fresh' (Kd.R_lt (by (with_reducible repeat (first | apply Kd.R_alloc | apply Kd.R_drewN | apply Kd.R_drew)); exact HO_10.out)) k_ hk)); (case aO => exact (by (with_reducible repeat (first | apply Kd.R_alloc | apply Kd.R_drewN | apply Kd.R_drew)); exact HO_5.out)); (case aS => exact (below_size (by repeat (first | (with_reducible first | exact HB.out | apply below_alloc | apply pw_below_drewN | apply below_drew1 | refine below_set ?_ GE299.out) | exact HB.out)))); (case aL => have := LMc12.out; omega); intro v305 w13 ho hb hg hat; rw [← Ny304.out] at ho; have n0_ := Aside0.mk (Kd.R_after (ok := (fun _ => True)) (by (with_reducible repeat (first | apply Kd.R_alloc | apply Kd.R_drewN | apply Kd.R_drew)); exact Kd.R_mono HO_10.out (fun _ hk => ⟨trivial, hk⟩)) hg hat); have n1_ := Aside0.mk (blk_grown (g := gb299) (o := .cells #[.int .i64 a0_0, .slice A0_1 l0_1.length c0_1] 29 (0, 0)) (by (with_reducible repeat (first | refine blk_drewN ?_ _ | refine blk_drew ?_ | refine blk_alloc ?_ _)); exact BK299.out) hg (Kd.R_ne HO_5.out BK299.out (by decide))); have n2_ := Aside0.mk (hb); have n3_ := Aside0.mk (ho); clear HO_10; clear BK299; clear HB; clear HO_5; have HO_10 := n0_; have BK299 := n1_; have HB := n2_; have HO306 := n3_; clear n0_ n1_ n2_ n3_; clear ho hb hg hat))
         go_roundg k1
         case measure => have := HK1.out; omega
         case rel => exact ⟨(y304), (wrap64 (x12_1 + 1)), (by first | rfl | (simp; done) | (simp [*]; done)), H', ⟨by have := HK1.out; omega⟩, ⟨by (with_reducible repeat (first | apply Kd.R_alloc | apply Kd.R_drewN | apply Kd.R_drew)); exact HO306.out⟩, ⟨by (with_reducible repeat (first | apply Kd.R_alloc | apply Kd.R_drewN | apply Kd.R_drew)); exact Kd.R_mono HO_10.out (fun _ hk => hk.2)⟩, ⟨by (with_reducible repeat (first | refine blk_drewN ?_ _ | refine blk_drew ?_ | refine blk_alloc ?_ _)); exact BK299.out⟩, ⟨by repeat (first | (with_reducible first | exact HB.out | apply below_alloc | apply pw_below_drewN | apply below_drew1 | refine below_set ?_ GE299.out) | exact HB.out)⟩⟩
        ·rw [if_neg c12] at H
         exact absurd H (by simp)
       ·rw [if_neg c11] at H
        have c11b0 : ((rd t300 x12_1) == 1) = false := beq_eq_false_iff_ne.mpr c11
        have c11b1 : ((rd t300 x12_1) != 1) = true := bne_iff_ne.mpr c11
        have H' := Aside0.mk H
        clear H
        have p303 : 0 ≤ (x12_1 : Int) := of_decide_eq_true (by first | (with_reducible assumption) | assumption)
        have q303 : x12_1 < (t300.length : Int) := of_decide_eq_true (by first | (with_reducible assumption) | assumption)
        obtain ⟨ad303, e303, hx303_0⟩ := Kd.at_int (Kd.R_reads' HO_10.out).2.2 x12_1 p303 q303
        cases e303
        replace p303 := eq_true p303
        replace q303 := eq_true q303
        go_wp2
        go_roundg k1
        case measure => have := HK1.out; omega
        case rel => exact ⟨(x5_1), (wrap64 (x12_1 + 1)), (by first | rfl | (simp; done) | (simp [*]; done)), H', ⟨by have := HK1.out; omega⟩, ⟨by (with_reducible repeat (first | apply Kd.R_alloc | apply Kd.R_drewN | apply Kd.R_drew)); exact HO_5.out⟩, ⟨by (with_reducible repeat (first | apply Kd.R_alloc | apply Kd.R_drewN | apply Kd.R_drew)); exact HO_10.out⟩, ⟨by (with_reducible repeat (first | refine blk_drewN ?_ _ | refine blk_drew ?_ | refine blk_alloc ?_ _)); exact BK299.out⟩, ⟨by repeat (first | (with_reducible first | exact HB.out | apply below_alloc | apply pw_below_drewN | apply below_drew1 | refine below_set ?_ GE299.out) | exact HB.out)⟩⟩
      ·rw [if_neg c10] at H
       exact absurd H (by simp)
     ·rw [if_neg c9] at H
      exact absurd H (by simp)
    ·rw [if_neg c8] at H
     have c8b0 : decide (x12_1 < (t300.length : Int)) = false := decide_eq_false c8
     clear c8
     obtain rfl := Option.some.inj H
     go_wp2
     go_ret
     exact ⟨_, by first | rfl | (simp [errW_none, errW_some] <;> rfl) | (simp [*, errW_none, errW_some] <;> rfl), by (with_reducible repeat (first | apply Kd.R_alloc | apply Kd.R_drewN | apply Kd.R_drew)); exact Kd.R_mono HO_5.out (fun _ hk => trivial), by repeat (first | (with_reducible first | exact HB.out | apply below_alloc | apply pw_below_drewN | apply below_drew1 | refine below_set ?_ GE299.out) | exact HB.out)⟩
/-! ### spec_peWith: function 125 -/
def spec_peWith.l0 : Nat → Int → List Int → Int → Int → Int → List (List Int) → Option (Int)
  | 0, _, _, _, _, _, _ => none
  | k + 1, x2, x9, x10, x11, x899000, x899001 => if x11 < x10 then (if 0 ≤ x11 then (if x11 < (x9.length : Int) then (if 0 ≤ (rd x9 x11) then (if (rd x9 x11) < (x899001.length : Int) then ((spec_l1Has.f k (rd_L1 x899001 (rd x9 x11)) x2).bind fun t901 => (if t901 = true then (some (rd x9 x11)) else (spec_peWith.l0 k x2 x9 x10 (wrap64 (x11 + 1)) x899000 x899001))) else (none)) else (none)) else (none)) else (none)) else (some (-1))
def spec_peWith.f (k : Nat) (a0_0 : Int) (l0_1 : List (List Int)) (l1 : List Int) (a2 : Int) : Option (Int) := spec_peWith.l0 k a2 l1 (l1.length : Int) 0 a0_0 l0_1
theorem spec_peWith.mono_l : ∀ k, (∀ y0 y1 y2 y3 y4 y5, LeO (spec_peWith.l0 k y0 y1 y2 y3 y4 y5) (spec_peWith.l0 (k + 1) y0 y1 y2 y3 y4 y5))
  | 0 => fun _ _ _ _ _ _ r h => by simp [spec_peWith.l0] at h
  | k + 1 => by
    have ih0 := spec_peWith.mono_l k
    · intro y0 y1 y2 y3 y4 y5
      unfold spec_peWith.l0
      repeat' first
      | (with_reducible exact ih0 _ _ _ _ _ _)
      | (with_reducible exact spec_l1Has.mono _ _ _)
      | (with_reducible exact LeO.refl _)
      | (with_reducible exact LeO.none _)
      | (with_reducible refine LeO.ite ?_ ?_)
      | (with_reducible refine LeO.bind ?_ (fun _ => ?_))
      | exact ih0 _ _ _ _ _ _
      | exact spec_l1Has.mono _ _ _
      | exact LeO.none _
      | refine LeO.ite ?_ ?_
      | refine LeO.bind ?_ (fun _ => ?_)
theorem spec_peWith.mono : ∀ a0 a1 a2 a3 k, LeO (spec_peWith.f k a0 a1 a2 a3) (spec_peWith.f (k + 1) a0 a1 a2 a3) := by
  intro a0 a1 a2 a3 k
  have ih0 := spec_peWith.mono_l k
  unfold spec_peWith.f
  repeat' first
      | (with_reducible exact ih0 _ _ _ _ _ _)
      | (with_reducible exact spec_l1Has.mono _ _ _)
      | (with_reducible exact LeO.refl _)
      | (with_reducible exact LeO.none _)
      | (with_reducible refine LeO.ite ?_ ?_)
      | (with_reducible refine LeO.bind ?_ (fun _ => ?_))
      | exact ih0 _ _ _ _ _ _
      | exact spec_l1Has.mono _ _ _
      | exact LeO.none _
      | refine LeO.ite ?_ ?_
      | refine LeO.bind ?_ (fun _ => ?_)
noncomputable def spec_peWith.L0 (y0 : Int) (y1 : List Int) (y2 : Int) (y3 : Int) (y4 : Int) (y5 : List (List Int)) : Option (Int) := lim fun k => spec_peWith.l0 k y0 y1 y2 y3 y4 y5
theorem spec_peWith.L0_sup (y0 : Int) (y1 : List Int) (y2 : Int) (y3 : Int) (y4 : Int) (y5 : List (List Int)) : Sup (fun k => spec_peWith.l0 k y0 y1 y2 y3 y4 y5) (spec_peWith.L0 y0 y1 y2 y3 y4 y5) := Sup.of_mono fun k => spec_peWith.mono_l k y0 y1 y2 y3 y4 y5
noncomputable def spec_peWith.F (a0_0 : Int) (l0_1 : List (List Int)) (l1 : List Int) (a2 : Int) : Option (Int) := lim fun k => spec_peWith.f k a0_0 l0_1 l1 a2
theorem spec_peWith.F_sup (a0_0 : Int) (l0_1 : List (List Int)) (l1 : List Int) (a2 : Int) : Sup (fun k => spec_peWith.f k a0_0 l0_1 l1 a2) (spec_peWith.F a0_0 l0_1 l1 a2) := Sup.of_mono fun k => spec_peWith.mono a0_0 l0_1 l1 a2 k
theorem spec_peWith.L0_eq (x2 : Int) (x9 : List Int) (x10 : Int) (x11 : Int) (x899000 : Int) (x899001 : List (List Int)) : spec_peWith.L0 x2 x9 x10 x11 x899000 x899001 = if x11 < x10 then (if 0 ≤ x11 then (if x11 < (x9.length : Int) then (if 0 ≤ (rd x9 x11) then (if (rd x9 x11) < (x899001.length : Int) then ((spec_l1Has.F (rd_L1 x899001 (rd x9 x11)) x2).bind fun t901 => (if t901 = true then (some (rd x9 x11)) else (spec_peWith.L0 x2 x9 x10 (wrap64 (x11 + 1)) x899000 x899001))) else (none)) else (none)) else (none)) else (none)) else (some (-1)) := by
  refine Sup.unique (spec_peWith.L0_sup x2 x9 x10 x11 x899000 x899001) (Sup.shift (fun k => spec_peWith.mono_l k x2 x9 x10 x11 x899000 x899001) (Sup.congr (g' := fun k => if x11 < x10 then (if 0 ≤ x11 then (if x11 < (x9.length : Int) then (if 0 ≤ (rd x9 x11) then (if (rd x9 x11) < (x899001.length : Int) then ((spec_l1Has.f k (rd_L1 x899001 (rd x9 x11)) x2).bind fun t901 => (if t901 = true then (some (rd x9 x11)) else (spec_peWith.l0 k x2 x9 x10 (wrap64 (x11 + 1)) x899000 x899001))) else (none)) else (none)) else (none)) else (none)) else (some (-1))) (fun k => by first | rfl | simp only [spec_peWith.l0]) ?_))
  repeat' first
    | (with_reducible exact spec_peWith.L0_sup _ _ _ _ _ _)
    | (with_reducible exact spec_l1Has.F_sup _ _)
    | (with_reducible refine Sup.ite ?_ ?_)
    | (with_reducible refine Sup.bind ?_ (fun _ => ?_))
    | (with_reducible exact Sup.const _)
    | exact spec_peWith.L0_sup _ _ _ _ _ _
    | exact spec_l1Has.F_sup _ _
    | exact Sup.const _
theorem spec_peWith.F_eq (a0_0 : Int) (l0_1 : List (List Int)) (l1 : List Int) (a2 : Int) : spec_peWith.F a0_0 l0_1 l1 a2 = spec_peWith.L0 a2 l1 (l1.length : Int) 0 a0_0 l0_1 := by
  refine Sup.unique (spec_peWith.F_sup a0_0 l0_1 l1 a2) (Sup.congr (g' := fun k => spec_peWith.l0 k a2 l1 (l1.length : Int) 0 a0_0 l0_1) (fun k => by first | rfl | simp only [spec_peWith.f]) ?_)
  repeat' first
    | (with_reducible exact spec_peWith.L0_sup _ _ _ _ _ _)
    | (with_reducible exact spec_l1Has.F_sup _ _)
    | (with_reducible refine Sup.ite ?_ ?_)
    | (with_reducible refine Sup.bind ?_ (fun _ => ?_))
    | (with_reducible exact Sup.const _)
    | exact spec_peWith.L0_sup _ _ _ _ _ _
    | exact spec_l1Has.F_sup _ _
    | exact Sup.const _
set_option maxHeartbeats 8000000 in
set_option maxRecDepth 100000 in
theorem spec_peWith.calls (k : Nat) (a0_0 : Int) (A0_1 : Option Addr) (c0_1 : Nat) (l0_1 : List (List Int)) (A1 : Option Addr) (c1 : Nat) (l1 : List Int) (a2 : Int) (r : Int) (w : World) (hr0_1 : Kd.C (Kd.slice 3 (Kd.int .i64)) w A0_1 l0_1.length l0_1) (hc0_1 : l0_1.length ≤ c0_1) (hr1 : Kd.C (Kd.int .i64) w A1 l1.length l1) (hc1 : l1.length ≤ c1) (h : spec_peWith.f k a0_0 l0_1 l1 a2 = some r) :
    Calls Try.prog 125 #[.agg #[.int .i64 a0_0, .slice A0_1 l0_1.length c0_1], .slice A1 l1.length c1, .int .i64 a2] w fun e w' => e = .returned (.int .i64 r) ∧ Below w.heap.size w w' := by
  have hu29 := Try.underlying29
  have hu22 := Try.underlying22
  have hu26 := Try.underlying26
  have HR0_1 := Aside0.mk hr0_1
  have HC0_1 := Aside0.mk hc0_1
  clear hr0_1 hc0_1
  have HR1 := Aside0.mk hr1
  have HC1 := Aside0.mk hc1
  clear hr1 hc1
  have HB := Aside0.mk (Below.refl w.heap.size w)
  have H : (spec_peWith.l0 k a2 l1 (l1.length : Int) 0 a0_0 l0_1) = some r := h
  clear h
  have H' := Aside0.mk H
  clear H
  go_enter Try.func125, Try.ntmps125
  go_wp2_with (first | ((with_reducible refine gate_dst (N := 3) rfl ?_); refine box_event ?hg (N := 3) ?hd (cs := #[.int .i64 a0_0, .slice A0_1 l0_1.length c0_1]) (t := 29) ?hr ?_; (case hd => rfl); (case hg => rfl); (case hr => first | (go_simp; done) | (go_simp; rfl)); intro gb898 hg w4 hbox hb; have n0_ := Aside0.mk (below_step (by repeat (first | (with_reducible first | exact HB.out | apply below_alloc | apply pw_below_drewN | apply below_drew1) | exact HB.out)) hb); have n1_ := Aside0.mk (hbox); have n2_ := Aside0.mk ((by rw [hg]; exact (below_size (by repeat (first | (with_reducible first | exact HB.out | apply below_alloc | apply pw_below_drewN | apply below_drew1) | exact HB.out))) : w.heap.size ≤ gb898)); have n3_ := Aside0.mk ((by rw [hg]; exact (below_size (by repeat (first | (with_reducible first | exact HB.out | apply below_alloc | apply pw_below_drewN | apply below_drew1) | exact HB.out))) : w.heap.size ≤ gb898)); clear HB; have HB := n0_; have BK898 := n1_; have GW898 := n2_; have GE898 := n3_; clear n0_ n1_ n2_ n3_; clear hb hbox hg))
  go_loopg [11] k (fun kq v11 w' => ∃ (x11_1 : Int), v11 = .int .i64 x11_1 ∧ Aside0 (spec_peWith.l0 kq a2 l1 (l1.length : Int) x11_1 a0_0 l0_1 = some r) ∧ Aside0 (kq ≤ k) ∧ Aside0 (w'.heap[gb898]? = some (.cells #[.int .i64 a0_0, (.slice A0_1 l0_1.length c0_1)] 29 (0, 0))) ∧ Aside0 (Below w.heap.size w w'))
  case atStart => exact ⟨(0), (by first | rfl | (simp; done) | (simp [*]; done)), H', ⟨Nat.le_refl _⟩, ⟨by (with_reducible repeat (first | refine blk_drewN ?_ _ | refine blk_drew ?_ | refine blk_alloc ?_ _)); exact BK898.out⟩, ⟨by repeat (first | (with_reducible first | exact HB.out | apply below_alloc | apply pw_below_drewN | apply below_drew1 | refine below_set ?_ GE898.out) | exact HB.out)⟩⟩
  case round =>
   clear H'
   try clear c1
   try clear p2
   obtain ⟨x11_1, rfl, HA, HK1, BK898, HB⟩ := hrel
   cases gk with
   | zero => exact absurd HA.out (by simp [spec_peWith.l0])
   | succ k1 =>
    have H := HA.out
    clear HA
    simp only [spec_peWith.l0] at H
    by_cases c5 : x11_1 < (l1.length : Int)
    ·rw [if_pos c5] at H
     have c5b0 : decide (x11_1 < (l1.length : Int)) = true := decide_eq_true c5
     clear c5
     by_cases c6 : 0 ≤ x11_1
     ·rw [if_pos c6] at H
      have c6b0 : decide (0 ≤ x11_1) = true := decide_eq_true c6
      clear c6
      by_cases c7 : x11_1 < (l1.length : Int)
      ·rw [if_pos c7] at H
       have c7b0 : decide (x11_1 < (l1.length : Int)) = true := decide_eq_true c7
       clear c7
       by_cases c8 : 0 ≤ (rd l1 x11_1)
       ·rw [if_pos c8] at H
        have c8b0 : decide (0 ≤ (rd l1 x11_1)) = true := decide_eq_true c8
        clear c8
        by_cases c9 : (rd l1 x11_1) < (l0_1.length : Int)
        ·rw [if_pos c9] at H
         have c9b0 : decide ((rd l1 x11_1) < (l0_1.length : Int)) = true := decide_eq_true c9
         clear c9
         replace H := Option.bind_eq_some_iff.mp H
         obtain ⟨t901, A100, H⟩ := H
         replace H : (if t901 = true then (some (rd l1 x11_1)) else (spec_peWith.l0 k1 a2 l1 (l1.length : Int) (wrap64 (x11_1 + 1)) a0_0 l0_1)) = some r := H
         have A10 := Aside0.mk A100
         clear A100
         by_cases c11 : t901 = true
         ·subst c11
          have H1 : (some (rd l1 x11_1)) = some r := by rw [if_pos rfl] at H; exact H
          clear H
          have H := H1
          clear H1
          obtain rfl := Option.some.inj H
          have p899 : 0 ≤ (x11_1 : Int) := of_decide_eq_true (by first | (with_reducible assumption) | assumption)
          have q899 : x11_1 < (l1.length : Int) := of_decide_eq_true (by first | (with_reducible assumption) | assumption)
          obtain ⟨ad899, e899, hx899_0⟩ := Kd.at_int HR1.out x11_1 p899 q899
          cases e899
          replace hx899_0 := (HB.out.cell (World.block_lt_of_cell? w _ hx899_0)).trans hx899_0
          replace p899 := eq_true p899
          replace q899 := eq_true q899
          have hcz12_0 : wr.cell? ⟨gb898, 0, none⟩ = some (.int .i64 a0_0) := (blk_cell BK898.out 0).trans rfl
          have hcz12_1 : wr.cell? ⟨gb898, 1, none⟩ = some (.slice A0_1 l0_1.length c0_1) := (blk_cell BK898.out 1).trans rfl
          have hfz12_0 := blk_frozen BK898.out 0
          have hfz12_1 := blk_frozen BK898.out 1
          have p900 : 0 ≤ ((rd l1 x11_1) : Int) := of_decide_eq_true (by first | (with_reducible assumption) | assumption)
          have q900 : (rd l1 x11_1) < (l0_1.length : Int) := of_decide_eq_true (by first | (with_reducible assumption) | assumption)
          obtain ⟨ad900, A900_0, c900_0, e900, hx900_0, hl900_0, hi900_0⟩ := at_L1 HR0_1.out (rd l1 x11_1) p900 q900
          cases e900
          replace hx900_0 := (HB.out.cell (World.block_lt_of_cell? w _ hx900_0)).trans hx900_0
          have HR900_0 := Aside0.mk hi900_0
          have HC900_0 := Aside0.mk hl900_0
          clear hi900_0 hl900_0
          replace p900 := eq_true p900
          replace q900 := eq_true q900
          go_wp2_with (first | ((with_reducible refine gate_callee (f := 75) rfl ?_); refine goesL_ (some 21) rfl rfl Try.func75 (by kernel_rfl) rfl #[.slice A900_0 (rd_L1 l0_1 (rd l1 x11_1)).length c900_0, .int .i64 a2] rfl (by (try simp only [List.map_toArray, List.map_cons, List.map_nil]); first | done | rfl | (simp only [List.length_drop, List.length_take]; rfl)) ?_; (with_reducible refine (spec_l1Has.calls k1 _ _ (rd_L1 l0_1 (rd l1 x11_1)) a2 true _ ?side1 ?side2 A10.out).mono ?_); (case side1 => repeat (first | exact (Kd.C_below HR900_0.out HB.out) | (with_reducible refine Kd.C_alloc ?_ _) | (with_reducible refine Kd.C_drewN ?_ _) | (with_reducible refine Kd.C_drew ?_))); (case side2 => exact HC900_0.out); rintro e w' ⟨rfl, ⟨nd, rfl⟩⟩; refine ⟨_, rfl, ?_⟩))
          go_ret
          exact ⟨by first | rfl | (simp [errW_none, errW_some] <;> rfl) | (simp [*, errW_none, errW_some] <;> rfl), by repeat (first | (with_reducible first | exact HB.out | apply below_alloc | apply pw_below_drewN | apply below_drew1 | refine below_set ?_ GE898.out) | exact HB.out)⟩
         ·replace c11 := Bool.eq_false_iff.mpr c11
          subst c11
          have H1 : (spec_peWith.l0 k1 a2 l1 (l1.length : Int) (wrap64 (x11_1 + 1)) a0_0 l0_1) = some r := by rw [if_neg (show ¬ (false = true) by decide)] at H; exact H
          clear H
          have H := H1
          clear H1
          have H' := Aside0.mk H
          clear H
          have p899 : 0 ≤ (x11_1 : Int) := of_decide_eq_true (by first | (with_reducible assumption) | assumption)
          have q899 : x11_1 < (l1.length : Int) := of_decide_eq_true (by first | (with_reducible assumption) | assumption)
          obtain ⟨ad899, e899, hx899_0⟩ := Kd.at_int HR1.out x11_1 p899 q899
          cases e899
          replace hx899_0 := (HB.out.cell (World.block_lt_of_cell? w _ hx899_0)).trans hx899_0
          replace p899 := eq_true p899
          replace q899 := eq_true q899
          have hcz13_0 : wr.cell? ⟨gb898, 0, none⟩ = some (.int .i64 a0_0) := (blk_cell BK898.out 0).trans rfl
          have hcz13_1 : wr.cell? ⟨gb898, 1, none⟩ = some (.slice A0_1 l0_1.length c0_1) := (blk_cell BK898.out 1).trans rfl
          have hfz13_0 := blk_frozen BK898.out 0
          have hfz13_1 := blk_frozen BK898.out 1
          have p900 : 0 ≤ ((rd l1 x11_1) : Int) := of_decide_eq_true (by first | (with_reducible assumption) | assumption)
          have q900 : (rd l1 x11_1) < (l0_1.length : Int) := of_decide_eq_true (by first | (with_reducible assumption) | assumption)
          obtain ⟨ad900, A900_0, c900_0, e900, hx900_0, hl900_0, hi900_0⟩ := at_L1 HR0_1.out (rd l1 x11_1) p900 q900
          cases e900
          replace hx900_0 := (HB.out.cell (World.block_lt_of_cell? w _ hx900_0)).trans hx900_0
          have HR900_0 := Aside0.mk hi900_0
          have HC900_0 := Aside0.mk hl900_0
          clear hi900_0 hl900_0
          replace p900 := eq_true p900
          replace q900 := eq_true q900
          go_wp2_with (first | ((with_reducible refine gate_callee (f := 75) rfl ?_); refine goesL_ (some 21) rfl rfl Try.func75 (by kernel_rfl) rfl #[.slice A900_0 (rd_L1 l0_1 (rd l1 x11_1)).length c900_0, .int .i64 a2] rfl (by (try simp only [List.map_toArray, List.map_cons, List.map_nil]); first | done | rfl | (simp only [List.length_drop, List.length_take]; rfl)) ?_; (with_reducible refine (spec_l1Has.calls k1 _ _ (rd_L1 l0_1 (rd l1 x11_1)) a2 false _ ?side1 ?side2 A10.out).mono ?_); (case side1 => repeat (first | exact (Kd.C_below HR900_0.out HB.out) | (with_reducible refine Kd.C_alloc ?_ _) | (with_reducible refine Kd.C_drewN ?_ _) | (with_reducible refine Kd.C_drew ?_))); (case side2 => exact HC900_0.out); rintro e w' ⟨rfl, ⟨nd, rfl⟩⟩; refine ⟨_, rfl, ?_⟩))
          go_roundg k1
          case measure => have := HK1.out; omega
          case rel => exact ⟨(wrap64 (x11_1 + 1)), (by first | rfl | (simp; done) | (simp [*]; done)), H', ⟨by have := HK1.out; omega⟩, ⟨by (with_reducible repeat (first | refine blk_drewN ?_ _ | refine blk_drew ?_ | refine blk_alloc ?_ _)); exact BK898.out⟩, ⟨by repeat (first | (with_reducible first | exact HB.out | apply below_alloc | apply pw_below_drewN | apply below_drew1 | refine below_set ?_ GE898.out) | exact HB.out)⟩⟩
        ·rw [if_neg c9] at H
         exact absurd H (by simp)
       ·rw [if_neg c8] at H
        exact absurd H (by simp)
      ·rw [if_neg c7] at H
       exact absurd H (by simp)
     ·rw [if_neg c6] at H
      exact absurd H (by simp)
    ·rw [if_neg c5] at H
     have c5b0 : decide (x11_1 < (l1.length : Int)) = false := decide_eq_false c5
     clear c5
     obtain rfl := Option.some.inj H
     go_wp2
     go_ret
     exact ⟨by first | rfl | (simp [errW_none, errW_some] <;> rfl) | (simp [*, errW_none, errW_some] <;> rfl), by repeat (first | (with_reducible first | exact HB.out | apply below_alloc | apply pw_below_drewN | apply below_drew1 | refine below_set ?_ GE898.out) | exact HB.out)⟩
/-! ### spec_l1Drop: function 126 -/
def spec_l1Drop.l0 : Nat → Int → List Int → List Int → Int → Int → Option (List Int)
  | 0, _, _, _, _, _ => none
  | k + 1, x1, x5, x8, x9, x10 => if x10 < x9 then (if 0 ≤ x10 then (if x10 < (x8.length : Int) then (if (rd x8 x10) = x1 then (spec_l1Drop.l0 k x1 x5 x8 x9 (wrap64 (x10 + 1))) else (if x5.length < 17592186044416 then (spec_l1Drop.l0 k x1 (x5 ++ [rd x8 x10]) x8 x9 (wrap64 (x10 + 1))) else (none))) else (none)) else (none)) else (some x5)
def spec_l1Drop.f (k : Nat) (l0 : List Int) (a1 : Int) : Option (List Int) := spec_l1Drop.l0 k a1 ([] : List Int) l0 (l0.length : Int) 0
theorem spec_l1Drop.mono_l : ∀ k, (∀ y0 y1 y2 y3 y4, LeO (spec_l1Drop.l0 k y0 y1 y2 y3 y4) (spec_l1Drop.l0 (k + 1) y0 y1 y2 y3 y4))
  | 0 => fun _ _ _ _ _ r h => by simp [spec_l1Drop.l0] at h
  | k + 1 => by
    have ih0 := spec_l1Drop.mono_l k
    · intro y0 y1 y2 y3 y4
      unfold spec_l1Drop.l0
      repeat' first
      | (with_reducible exact ih0 _ _ _ _ _)
      | (with_reducible exact LeO.refl _)
      | (with_reducible exact LeO.none _)
      | (with_reducible refine LeO.ite ?_ ?_)
      | (with_reducible refine LeO.bind ?_ (fun _ => ?_))
      | exact ih0 _ _ _ _ _
      | exact LeO.none _
      | refine LeO.ite ?_ ?_
      | refine LeO.bind ?_ (fun _ => ?_)
theorem spec_l1Drop.mono : ∀ a0 a1 k, LeO (spec_l1Drop.f k a0 a1) (spec_l1Drop.f (k + 1) a0 a1) := by
  intro a0 a1 k
  have ih0 := spec_l1Drop.mono_l k
  unfold spec_l1Drop.f
  repeat' first
      | (with_reducible exact ih0 _ _ _ _ _)
      | (with_reducible exact LeO.refl _)
      | (with_reducible exact LeO.none _)
      | (with_reducible refine LeO.ite ?_ ?_)
      | (with_reducible refine LeO.bind ?_ (fun _ => ?_))
      | exact ih0 _ _ _ _ _
      | exact LeO.none _
      | refine LeO.ite ?_ ?_
      | refine LeO.bind ?_ (fun _ => ?_)
noncomputable def spec_l1Drop.L0 (y0 : Int) (y1 : List Int) (y2 : List Int) (y3 : Int) (y4 : Int) : Option (List Int) := lim fun k => spec_l1Drop.l0 k y0 y1 y2 y3 y4
theorem spec_l1Drop.L0_sup (y0 : Int) (y1 : List Int) (y2 : List Int) (y3 : Int) (y4 : Int) : Sup (fun k => spec_l1Drop.l0 k y0 y1 y2 y3 y4) (spec_l1Drop.L0 y0 y1 y2 y3 y4) := Sup.of_mono fun k => spec_l1Drop.mono_l k y0 y1 y2 y3 y4
noncomputable def spec_l1Drop.F (l0 : List Int) (a1 : Int) : Option (List Int) := lim fun k => spec_l1Drop.f k l0 a1
theorem spec_l1Drop.F_sup (l0 : List Int) (a1 : Int) : Sup (fun k => spec_l1Drop.f k l0 a1) (spec_l1Drop.F l0 a1) := Sup.of_mono fun k => spec_l1Drop.mono l0 a1 k
theorem spec_l1Drop.L0_eq (x1 : Int) (x5 : List Int) (x8 : List Int) (x9 : Int) (x10 : Int) : spec_l1Drop.L0 x1 x5 x8 x9 x10 = if x10 < x9 then (if 0 ≤ x10 then (if x10 < (x8.length : Int) then (if (rd x8 x10) = x1 then (spec_l1Drop.L0 x1 x5 x8 x9 (wrap64 (x10 + 1))) else (if x5.length < 17592186044416 then (spec_l1Drop.L0 x1 (x5 ++ [rd x8 x10]) x8 x9 (wrap64 (x10 + 1))) else (none))) else (none)) else (none)) else (some x5) := by
  refine Sup.unique (spec_l1Drop.L0_sup x1 x5 x8 x9 x10) (Sup.shift (fun k => spec_l1Drop.mono_l k x1 x5 x8 x9 x10) (Sup.congr (g' := fun k => if x10 < x9 then (if 0 ≤ x10 then (if x10 < (x8.length : Int) then (if (rd x8 x10) = x1 then (spec_l1Drop.l0 k x1 x5 x8 x9 (wrap64 (x10 + 1))) else (if x5.length < 17592186044416 then (spec_l1Drop.l0 k x1 (x5 ++ [rd x8 x10]) x8 x9 (wrap64 (x10 + 1))) else (none))) else (none)) else (none)) else (some x5)) (fun k => by first | rfl | simp only [spec_l1Drop.l0]) ?_))
  repeat' first
    | (with_reducible exact spec_l1Drop.L0_sup _ _ _ _ _)
    | (with_reducible refine Sup.ite ?_ ?_)
    | (with_reducible refine Sup.bind ?_ (fun _ => ?_))
    | (with_reducible exact Sup.const _)
    | exact spec_l1Drop.L0_sup _ _ _ _ _
    | exact Sup.const _
theorem spec_l1Drop.F_eq (l0 : List Int) (a1 : Int) : spec_l1Drop.F l0 a1 = spec_l1Drop.L0 a1 ([] : List Int) l0 (l0.length : Int) 0 := by
  refine Sup.unique (spec_l1Drop.F_sup l0 a1) (Sup.congr (g' := fun k => spec_l1Drop.l0 k a1 ([] : List Int) l0 (l0.length : Int) 0) (fun k => by first | rfl | simp only [spec_l1Drop.f]) ?_)
  repeat' first
    | (with_reducible exact spec_l1Drop.L0_sup _ _ _ _ _)
    | (with_reducible refine Sup.ite ?_ ?_)
    | (with_reducible refine Sup.bind ?_ (fun _ => ?_))
    | (with_reducible exact Sup.const _)
    | exact spec_l1Drop.L0_sup _ _ _ _ _
    | exact Sup.const _
set_option maxHeartbeats 8000000 in
set_option maxRecDepth 100000 in
theorem spec_l1Drop.calls (k : Nat) (A0 : Option Addr) (c0 : Nat) (l0 : List Int) (a1 : Int) (r : List Int) (w : World) (hr0 : Kd.C (Kd.int .i64) w A0 l0.length l0) (hc0 : l0.length ≤ c0) (h : spec_l1Drop.f k l0 a1 = some r) :
    Calls Try.prog 126 #[.slice A0 l0.length c0, .int .i64 a1] w fun e w' => ∃ v0_ : Value, e = .returned (v0_) ∧ Kd.R (Kd.int .i64) 3 w' w.heap.size (fun _ => True) v0_ r ∧ Below w.heap.size w w' := by
  have HR0 := Aside0.mk hr0
  have HC0 := Aside0.mk hc0
  clear hr0 hc0
  have HB := Aside0.mk (Below.refl w.heap.size w)
  have H : (spec_l1Drop.l0 k a1 ([] : List Int) l0 (l0.length : Int) 0) = some r := h
  clear h
  have H' := Aside0.mk H
  clear H
  go_enter Try.func126, Try.ntmps126
  go_wp2
  go_loopg [5, 10] k (fun kq v5 v10 w' => ∃ (x5_1 : List Int) (x10_1 : Int), v10 = .int .i64 x10_1 ∧ Aside0 (spec_l1Drop.l0 kq a1 x5_1 l0 (l0.length : Int) x10_1 = some r) ∧ Aside0 (kq ≤ k) ∧ Aside0 (Kd.R (Kd.int .i64) 3 w' w.heap.size (fun _ => True) v5 x5_1) ∧ Aside0 (Below w.heap.size w w'))
  case atStart => exact ⟨(([] : List Int)), (0), (by first | rfl | (simp; done) | (simp [*]; done)), H', ⟨Nat.le_refl _⟩, ⟨by first | exact Kd.R_nil _ _ _ _ _ | exact Kd.N_nil _ _ _ _ _ | exact Kd.V_nil _ _ _ _ _ | exact Kd.Q_nil _ _ _ _ _ | exact Kd.S_nil _ _ _ _ _⟩, ⟨by repeat (first | (with_reducible first | exact HB.out | apply below_alloc | apply pw_below_drewN | apply below_drew1) | exact HB.out)⟩⟩
  case round =>
   clear H'
   try clear c1
   try clear p2
   obtain ⟨x5_1, x10_1, rfl, HA, HK1, HO_5, HB⟩ := hrel
   cases gk with
   | zero => exact absurd HA.out (by simp [spec_l1Drop.l0])
   | succ k1 =>
    have H := HA.out
    clear HA
    simp only [spec_l1Drop.l0] at H
    by_cases c3 : x10_1 < (l0.length : Int)
    ·rw [if_pos c3] at H
     have c3b0 : decide (x10_1 < (l0.length : Int)) = true := decide_eq_true c3
     clear c3
     by_cases c4 : 0 ≤ x10_1
     ·rw [if_pos c4] at H
      have c4b0 : decide (0 ≤ x10_1) = true := decide_eq_true c4
      clear c4
      by_cases c5 : x10_1 < (l0.length : Int)
      ·rw [if_pos c5] at H
       have c5b0 : decide (x10_1 < (l0.length : Int)) = true := decide_eq_true c5
       clear c5
       by_cases c6 : (rd l0 x10_1) = a1
       ·rw [if_pos c6] at H
        have c6b0 : ((rd l0 x10_1) == a1) = true := beq_iff_eq.mpr c6
        have c6b1 : ((rd l0 x10_1) != a1) = false := bne_eq_false_iff_eq.mpr c6
        clear c6
        have H' := Aside0.mk H
        clear H
        have p902 : 0 ≤ (x10_1 : Int) := of_decide_eq_true (by first | (with_reducible assumption) | assumption)
        have q902 : x10_1 < (l0.length : Int) := of_decide_eq_true (by first | (with_reducible assumption) | assumption)
        obtain ⟨ad902, e902, hx902_0⟩ := Kd.at_int HR0.out x10_1 p902 q902
        cases e902
        replace hx902_0 := (HB.out.cell (World.block_lt_of_cell? w _ hx902_0)).trans hx902_0
        replace p902 := eq_true p902
        replace q902 := eq_true q902
        go_wp2
        go_roundg k1
        case measure => have := HK1.out; omega
        case rel => exact ⟨(x5_1), (wrap64 (x10_1 + 1)), (by first | rfl | (simp; done) | (simp [*]; done)), H', ⟨by have := HK1.out; omega⟩, ⟨by (with_reducible repeat (first | apply Kd.R_alloc | apply Kd.R_drewN | apply Kd.R_drew)); exact HO_5.out⟩, ⟨by repeat (first | (with_reducible first | exact HB.out | apply below_alloc | apply pw_below_drewN | apply below_drew1) | exact HB.out)⟩⟩
       ·rw [if_neg c6] at H
        have c6b0 : ((rd l0 x10_1) == a1) = false := beq_eq_false_iff_ne.mpr c6
        have c6b1 : ((rd l0 x10_1) != a1) = true := bne_iff_ne.mpr c6
        by_cases c7 : x5_1.length < 17592186044416
        ·rw [if_pos c7] at H
         have LMc7 := Aside0.mk c7
         clear c7
         obtain ⟨y903, hy903⟩ : ∃ y_ : List Int, y_ = (x5_1 ++ [rd l0 x10_1]) := ⟨_, rfl⟩
         replace H : (spec_l1Drop.l0 k1 a1 y903 l0 (l0.length : Int) (wrap64 (x10_1 + 1))) = some r := by first | (rw [hy903]; with_reducible exact H) | (have H2_ := (Option.bind_some _ _).symm.trans H; rw [hy903]; with_reducible exact H2_) | (have H2_ := (Option.bind_some _ _).symm.trans H; with_reducible exact H2_) | with_reducible exact H | (rw [hy903]; exact H) | exact H
         have Ny903 := Aside0.mk hy903
         clear hy903
         have H' := Aside0.mk H
         clear H
         have p902 : 0 ≤ (x10_1 : Int) := of_decide_eq_true (by first | (with_reducible assumption) | assumption)
         have q902 : x10_1 < (l0.length : Int) := of_decide_eq_true (by first | (with_reducible assumption) | assumption)
         obtain ⟨ad902, e902, hx902_0⟩ := Kd.at_int HR0.out x10_1 p902 q902
         cases e902
         replace hx902_0 := (HB.out.cell (World.block_lt_of_cell? w _ hx902_0)).trans hx902_0
         replace p902 := eq_true p902
         replace q902 := eq_true q902
         go_wp2_with (first | ((with_reducible refine gate_builtin (b := .append) (xs := #[.tmp 17, .tmp 19]) rfl ?_); at_builtin; refine Kd.R_append (Kd.int .i64) (w0 := w) w.heap.size rfl (.tmp 17) (.tmp 19) 26 3 (.int .i64 0) 8 rfl Try.underlying26 info3 rfl (by decide) (by omega) u5 x5_1 (rd l0 x10_1) [.int .i64 (rd l0 x10_1)] (fun _ => True) (fun _ => False) rfl rfl ?aP (fun _ hk => hk.elim) ?aF ?aO ?aB ?aS ?aL ?_; (case aP => exact rfl); (case aB => exact (by repeat (first | (with_reducible first | exact HB.out | apply below_alloc | apply pw_below_drewN | apply below_drew1) | exact HB.out))); (case aF => exact (fun _ _ => trivial)); (case aO => exact (by (with_reducible repeat (first | apply Kd.R_alloc | apply Kd.R_drewN | apply Kd.R_drew)); exact HO_5.out)); (case aS => exact (below_size (by repeat (first | (with_reducible first | exact HB.out | apply below_alloc | apply pw_below_drewN | apply below_drew1) | exact HB.out)))); (case aL => have := LMc7.out; omega); intro v904 w8 ho hb hg hat; rw [← Ny903.out] at ho; have n0_ := Aside0.mk (hb); have n1_ := Aside0.mk (ho); clear HB; clear HO_5; have HB := n0_; have HO905 := n1_; clear n0_ n1_; clear ho hb hg hat))
         go_roundg k1
         case measure => have := HK1.out; omega
         case rel => exact ⟨(y903), (wrap64 (x10_1 + 1)), (by first | rfl | (simp; done) | (simp [*]; done)), H', ⟨by have := HK1.out; omega⟩, ⟨by (with_reducible repeat (first | apply Kd.R_alloc | apply Kd.R_drewN | apply Kd.R_drew)); exact HO905.out⟩, ⟨by repeat (first | (with_reducible first | exact HB.out | apply below_alloc | apply pw_below_drewN | apply below_drew1) | exact HB.out)⟩⟩
        ·rw [if_neg c7] at H
         exact absurd H (by simp)
      ·rw [if_neg c5] at H
       exact absurd H (by simp)
     ·rw [if_neg c4] at H
      exact absurd H (by simp)
    ·rw [if_neg c3] at H
     have c3b0 : decide (x10_1 < (l0.length : Int)) = false := decide_eq_false c3
     clear c3
     obtain rfl := Option.some.inj H
     go_wp2
     go_ret
     exact ⟨_, by first | rfl | (simp [errW_none, errW_some] <;> rfl) | (simp [*, errW_none, errW_some] <;> rfl), by (with_reducible repeat (first | apply Kd.R_alloc | apply Kd.R_drewN | apply Kd.R_drew)); exact HO_5.out, by repeat (first | (with_reducible first | exact HB.out | apply below_alloc | apply pw_below_drewN | apply below_drew1) | exact HB.out)⟩
/-! ### impl_left: function 102 -/
def impl_left.l0 : Nat → List Int → List Bool → Int → Int → Option (List Int)
  | 0, _, _, _, _ => none
  | k + 1, x3, x7, x8, x9 => if x9 < x8 then (if 0 ≤ x9 then (if x9 < (x7.length : Int) then (if rdOf false x7 x9 = true then (impl_left.l0 k x3 x7 x8 (wrap64 (x9 + 1))) else (if x3.length < 17592186044416 then (impl_left.l0 k (x3 ++ [x9]) x7 x8 (wrap64 (x9 + 1))) else (none))) else (none)) else (none)) else (some x3)
def impl_left.f (k : Nat) (l0 : List Bool) : Option (List Int) := impl_left.l0 k (([] : List Int)) l0 (l0.length : Int) 0
theorem impl_left.mono_l : ∀ k, (∀ y0 y1 y2 y3, LeO (impl_left.l0 k y0 y1 y2 y3) (impl_left.l0 (k + 1) y0 y1 y2 y3))
  | 0 => fun _ _ _ _ r h => by simp [impl_left.l0] at h
  | k + 1 => by
    have ih0 := impl_left.mono_l k
    · intro y0 y1 y2 y3
      unfold impl_left.l0
      repeat' first
      | (with_reducible exact ih0 _ _ _ _)
      | (with_reducible exact LeO.refl _)
      | (with_reducible exact LeO.none _)
      | (with_reducible refine LeO.ite ?_ ?_)
      | (with_reducible refine LeO.bind ?_ (fun _ => ?_))
      | exact ih0 _ _ _ _
      | exact LeO.none _
      | refine LeO.ite ?_ ?_
      | refine LeO.bind ?_ (fun _ => ?_)
theorem impl_left.mono : ∀ a0 k, LeO (impl_left.f k a0) (impl_left.f (k + 1) a0) := by
  intro a0 k
  have ih0 := impl_left.mono_l k
  unfold impl_left.f
  repeat' first
      | (with_reducible exact ih0 _ _ _ _)
      | (with_reducible exact LeO.refl _)
      | (with_reducible exact LeO.none _)
      | (with_reducible refine LeO.ite ?_ ?_)
      | (with_reducible refine LeO.bind ?_ (fun _ => ?_))
      | exact ih0 _ _ _ _
      | exact LeO.none _
      | refine LeO.ite ?_ ?_
      | refine LeO.bind ?_ (fun _ => ?_)
noncomputable def impl_left.L0 (y0 : List Int) (y1 : List Bool) (y2 : Int) (y3 : Int) : Option (List Int) := lim fun k => impl_left.l0 k y0 y1 y2 y3
theorem impl_left.L0_sup (y0 : List Int) (y1 : List Bool) (y2 : Int) (y3 : Int) : Sup (fun k => impl_left.l0 k y0 y1 y2 y3) (impl_left.L0 y0 y1 y2 y3) := Sup.of_mono fun k => impl_left.mono_l k y0 y1 y2 y3
noncomputable def impl_left.F (l0 : List Bool) : Option (List Int) := lim fun k => impl_left.f k l0
theorem impl_left.F_sup (l0 : List Bool) : Sup (fun k => impl_left.f k l0) (impl_left.F l0) := Sup.of_mono fun k => impl_left.mono l0 k
theorem impl_left.L0_eq (x3 : List Int) (x7 : List Bool) (x8 : Int) (x9 : Int) : impl_left.L0 x3 x7 x8 x9 = if x9 < x8 then (if 0 ≤ x9 then (if x9 < (x7.length : Int) then (if rdOf false x7 x9 = true then (impl_left.L0 x3 x7 x8 (wrap64 (x9 + 1))) else (if x3.length < 17592186044416 then (impl_left.L0 (x3 ++ [x9]) x7 x8 (wrap64 (x9 + 1))) else (none))) else (none)) else (none)) else (some x3) := by
  refine Sup.unique (impl_left.L0_sup x3 x7 x8 x9) (Sup.shift (fun k => impl_left.mono_l k x3 x7 x8 x9) (Sup.congr (g' := fun k => if x9 < x8 then (if 0 ≤ x9 then (if x9 < (x7.length : Int) then (if rdOf false x7 x9 = true then (impl_left.l0 k x3 x7 x8 (wrap64 (x9 + 1))) else (if x3.length < 17592186044416 then (impl_left.l0 k (x3 ++ [x9]) x7 x8 (wrap64 (x9 + 1))) else (none))) else (none)) else (none)) else (some x3)) (fun k => by first | rfl | simp only [impl_left.l0]) ?_))
  repeat' first
    | (with_reducible exact impl_left.L0_sup _ _ _ _)
    | (with_reducible refine Sup.ite ?_ ?_)
    | (with_reducible refine Sup.bind ?_ (fun _ => ?_))
    | (with_reducible exact Sup.const _)
    | exact impl_left.L0_sup _ _ _ _
    | exact Sup.const _
theorem impl_left.F_eq (l0 : List Bool) : impl_left.F l0 = impl_left.L0 (([] : List Int)) l0 (l0.length : Int) 0 := by
  refine Sup.unique (impl_left.F_sup l0) (Sup.congr (g' := fun k => impl_left.l0 k (([] : List Int)) l0 (l0.length : Int) 0) (fun k => by first | rfl | simp only [impl_left.f]) ?_)
  repeat' first
    | (with_reducible exact impl_left.L0_sup _ _ _ _)
    | (with_reducible refine Sup.ite ?_ ?_)
    | (with_reducible refine Sup.bind ?_ (fun _ => ?_))
    | (with_reducible exact Sup.const _)
    | exact impl_left.L0_sup _ _ _ _
    | exact Sup.const _
set_option maxHeartbeats 8000000 in
set_option maxRecDepth 100000 in
theorem impl_left.calls (k : Nat) (A0 : Option Addr) (c0 : Nat) (l0 : List Bool) (r : List Int) (w : World) (hr0 : Kd.C Kd.bool w A0 l0.length l0) (hc0 : l0.length ≤ c0) (h : impl_left.f k l0 = some r) :
    Calls Try.prog 102 #[.slice A0 l0.length c0] w fun e w' => ∃ v0_ : Value, e = .returned (v0_) ∧ Kd.R (Kd.int .i64) 3 w' w.heap.size (fun _ => True) v0_ r ∧ Below w.heap.size w w' := by
  have HR0 := Aside0.mk hr0
  have HC0 := Aside0.mk hc0
  clear hr0 hc0
  have HB := Aside0.mk (Below.refl w.heap.size w)
  have H : (impl_left.l0 k (([] : List Int)) l0 (l0.length : Int) 0) = some r := h
  clear h
  obtain ⟨y934, hy934⟩ : ∃ y_ : List Int, y_ = (([] : List Int)) := ⟨_, rfl⟩
  replace H : (impl_left.l0 k y934 l0 (l0.length : Int) 0) = some r := by first | (rw [hy934]; with_reducible exact H) | (have H2_ := (Option.bind_some _ _).symm.trans H; rw [hy934]; with_reducible exact H2_) | (have H2_ := (Option.bind_some _ _).symm.trans H; with_reducible exact H2_) | with_reducible exact H | (rw [hy934]; exact H) | exact H
  have Ny934 := Aside0.mk hy934
  clear hy934
  have H' := Aside0.mk H
  clear H
  go_enter Try.func102, Try.ntmps102
  go_wp2_with (first | ((with_reducible refine gate_dst (N := 6) rfl ?_); refine Kd.R_lit (Kd.int .i64) _ 3 ?hg (N := 6) ?hd (xs := ([] : List Int)) (inner := []) (ok := fun _ => True) (okp := fun _ => True) ?hr ?hp (fun _ hk => hk) trivial (Below.refl _ _) (Nat.le_refl _) (by simp) ?_; (case hd => rfl); (case hg => rfl); (case hr => first | (go_simp; done) | (go_simp; rfl)); (case hp => exact (Reps.none _ _)); intro v935 w2 ho3 hb hg_ hnew_; clear hg_ hnew_; (first | rw [← Ny934.out] at ho3 | (simp only [Int.reduceToNat] at ho3; rw [← Ny934.out] at ho3)); have n0_ := Aside0.mk (Kd.R_lower ho3 (below_size (by repeat (first | (with_reducible first | exact HB.out | apply below_alloc | apply pw_below_drewN | apply below_drew1) | exact HB.out)))); have n1_ := Aside0.mk (below_step (by repeat (first | (with_reducible first | exact HB.out | apply below_alloc | apply pw_below_drewN | apply below_drew1) | exact HB.out)) hb); clear HB; have HO936 := n0_; have HB := n1_; clear n0_ n1_; clear hb ho3))
  go_loopg [3, 9] k (fun kq v3 v9 w' => ∃ (x3_1 : List Int) (x9_1 : Int), v9 = .int .i64 x9_1 ∧ Aside0 (impl_left.l0 kq x3_1 l0 (l0.length : Int) x9_1 = some r) ∧ Aside0 (kq ≤ k) ∧ Aside0 (Kd.R (Kd.int .i64) 3 w' w.heap.size (fun _ => True) v3 x3_1) ∧ Aside0 (Below w.heap.size w w'))
  case atStart => exact ⟨(y934), (0), (by first | rfl | (simp; done) | (simp [*]; done)), H', ⟨Nat.le_refl _⟩, ⟨by (with_reducible repeat (first | apply Kd.R_alloc | apply Kd.R_drewN | apply Kd.R_drew)); exact HO936.out⟩, ⟨by repeat (first | (with_reducible first | exact HB.out | apply below_alloc | apply pw_below_drewN | apply below_drew1) | exact HB.out)⟩⟩
  case round =>
   clear H'
   try clear c1
   try clear p2
   obtain ⟨x3_1, x9_1, rfl, HA, HK1, HO_3, HB⟩ := hrel
   cases gk with
   | zero => exact absurd HA.out (by simp [impl_left.l0])
   | succ k1 =>
    have H := HA.out
    clear HA
    simp only [impl_left.l0] at H
    by_cases c4 : x9_1 < (l0.length : Int)
    ·rw [if_pos c4] at H
     have c4b0 : decide (x9_1 < (l0.length : Int)) = true := decide_eq_true c4
     clear c4
     by_cases c5 : 0 ≤ x9_1
     ·rw [if_pos c5] at H
      have c5b0 : decide (0 ≤ x9_1) = true := decide_eq_true c5
      clear c5
      by_cases c6 : x9_1 < (l0.length : Int)
      ·rw [if_pos c6] at H
       have c6b0 : decide (x9_1 < (l0.length : Int)) = true := decide_eq_true c6
       clear c6
       obtain ⟨bq7, hbq7⟩ : ∃ b_ : Bool, b_ = (rdOf false l0 x9_1) := ⟨_, rfl⟩
       replace H : (if bq7 = true then (impl_left.l0 k1 x3_1 l0 (l0.length : Int) (wrap64 (x9_1 + 1))) else (if x3_1.length < 17592186044416 then (impl_left.l0 k1 (x3_1 ++ [x9_1]) l0 (l0.length : Int) (wrap64 (x9_1 + 1))) else (none))) = some r := by rw [← hbq7] at H; exact H
       have Nbq7 := Aside0.mk hbq7
       clear hbq7
       by_cases c8 : bq7 = true
       ·subst c8
        have H1 : (impl_left.l0 k1 x3_1 l0 (l0.length : Int) (wrap64 (x9_1 + 1))) = some r := by rw [if_pos rfl] at H; exact H
        clear H
        have H := H1
        clear H1
        have H' := Aside0.mk H
        clear H
        have p937 : 0 ≤ (x9_1 : Int) := of_decide_eq_true (by first | (with_reducible assumption) | assumption)
        have q937 : x9_1 < (l0.length : Int) := of_decide_eq_true (by first | (with_reducible assumption) | assumption)
        obtain ⟨ad937, e937, hx937_0⟩ := Kd.at_bool HR0.out x9_1 p937 q937
        (try rw [← Nbq7.out] at hx937_0)
        cases e937
        replace hx937_0 := (HB.out.cell (World.block_lt_of_cell? w _ hx937_0)).trans hx937_0
        replace p937 := eq_true p937
        replace q937 := eq_true q937
        go_wp2
        go_roundg k1
        case measure => have := HK1.out; omega
        case rel => exact ⟨(x3_1), (wrap64 (x9_1 + 1)), (by first | rfl | (simp; done) | (simp [*]; done)), H', ⟨by have := HK1.out; omega⟩, ⟨by (with_reducible repeat (first | apply Kd.R_alloc | apply Kd.R_drewN | apply Kd.R_drew)); exact HO_3.out⟩, ⟨by repeat (first | (with_reducible first | exact HB.out | apply below_alloc | apply pw_below_drewN | apply below_drew1) | exact HB.out)⟩⟩
       ·replace c8 := Bool.eq_false_iff.mpr c8
        subst c8
        have H1 : (if x3_1.length < 17592186044416 then (impl_left.l0 k1 (x3_1 ++ [x9_1]) l0 (l0.length : Int) (wrap64 (x9_1 + 1))) else (none)) = some r := by rw [if_neg (show ¬ (false = true) by decide)] at H; exact H
        clear H
        have H := H1
        clear H1
        by_cases c9 : x3_1.length < 17592186044416
        ·rw [if_pos c9] at H
         have LMc9 := Aside0.mk c9
         clear c9
         obtain ⟨y938, hy938⟩ : ∃ y_ : List Int, y_ = (x3_1 ++ [x9_1]) := ⟨_, rfl⟩
         replace H : (impl_left.l0 k1 y938 l0 (l0.length : Int) (wrap64 (x9_1 + 1))) = some r := by first | (rw [hy938]; with_reducible exact H) | (have H2_ := (Option.bind_some _ _).symm.trans H; rw [hy938]; with_reducible exact H2_) | (have H2_ := (Option.bind_some _ _).symm.trans H; with_reducible exact H2_) | with_reducible exact H | (rw [hy938]; exact H) | exact H
         have Ny938 := Aside0.mk hy938
         clear hy938
         have H' := Aside0.mk H
         clear H
         have p937 : 0 ≤ (x9_1 : Int) := of_decide_eq_true (by first | (with_reducible assumption) | assumption)
         have q937 : x9_1 < (l0.length : Int) := of_decide_eq_true (by first | (with_reducible assumption) | assumption)
         obtain ⟨ad937, e937, hx937_0⟩ := Kd.at_bool HR0.out x9_1 p937 q937
         (try rw [← Nbq7.out] at hx937_0)
         cases e937
         replace hx937_0 := (HB.out.cell (World.block_lt_of_cell? w _ hx937_0)).trans hx937_0
         replace p937 := eq_true p937
         replace q937 := eq_true q937
         go_wp2_with (first | ((with_reducible refine gate_builtin (b := .append) (xs := #[.tmp 16, .tmp 18]) rfl ?_); at_builtin; refine Kd.R_append (Kd.int .i64) (w0 := w) w.heap.size rfl (.tmp 16) (.tmp 18) 26 3 (.int .i64 0) 8 rfl Try.underlying26 info3 rfl (by decide) (by omega) u3 x3_1 x9_1 [.int .i64 x9_1] (fun _ => True) (fun _ => False) rfl rfl ?aP (fun _ hk => hk.elim) ?aF ?aO ?aB ?aS ?aL ?_; (case aP => exact rfl); (case aB => exact (by repeat (first | (with_reducible first | exact HB.out | apply below_alloc | apply pw_below_drewN | apply below_drew1) | exact HB.out))); (case aF => exact (fun _ _ => trivial)); (case aO => exact (by (with_reducible repeat (first | apply Kd.R_alloc | apply Kd.R_drewN | apply Kd.R_drew)); exact HO_3.out)); (case aS => exact (below_size (by repeat (first | (with_reducible first | exact HB.out | apply below_alloc | apply pw_below_drewN | apply below_drew1) | exact HB.out)))); (case aL => have := LMc9.out; omega); intro v939 w10 ho hb hg hat; rw [← Ny938.out] at ho; have n0_ := Aside0.mk (hb); have n1_ := Aside0.mk (ho); clear HB; clear HO_3; have HB := n0_; have HO940 := n1_; clear n0_ n1_; clear ho hb hg hat))
         go_roundg k1
         case measure => have := HK1.out; omega
         case rel => exact ⟨(y938), (wrap64 (x9_1 + 1)), (by first | rfl | (simp; done) | (simp [*]; done)), H', ⟨by have := HK1.out; omega⟩, ⟨by (with_reducible repeat (first | apply Kd.R_alloc | apply Kd.R_drewN | apply Kd.R_drew)); exact HO940.out⟩, ⟨by repeat (first | (with_reducible first | exact HB.out | apply below_alloc | apply pw_below_drewN | apply below_drew1) | exact HB.out)⟩⟩
        ·rw [if_neg c9] at H
         exact absurd H (by simp)
      ·rw [if_neg c6] at H
       exact absurd H (by simp)
     ·rw [if_neg c5] at H
      exact absurd H (by simp)
    ·rw [if_neg c4] at H
     have c4b0 : decide (x9_1 < (l0.length : Int)) = false := decide_eq_false c4
     clear c4
     obtain rfl := Option.some.inj H
     go_wp2
     go_ret
     exact ⟨_, by first | rfl | (simp [errW_none, errW_some] <;> rfl) | (simp [*, errW_none, errW_some] <;> rfl), by (with_reducible repeat (first | apply Kd.R_alloc | apply Kd.R_drewN | apply Kd.R_drew)); exact HO_3.out, by repeat (first | (with_reducible first | exact HB.out | apply below_alloc | apply pw_below_drewN | apply below_drew1) | exact HB.out)⟩
/-! ### impl_Hyper_singles: function 111 -/
def impl_Hyper_singles.l0 : Nat → List Int → List Int → Int → Int → Option (List Int)
  | 0, _, _, _, _ => none
  | k + 1, x5, x11, x12, x13 => if x13 < x12 then (if 0 ≤ x13 then (if x13 < (x11.length : Int) then (if (rd x11 x13) = 1 then (if x5.length < 17592186044416 then (impl_Hyper_singles.l0 k (x5 ++ [x13]) x11 x12 (wrap64 (x13 + 1))) else (none)) else (impl_Hyper_singles.l0 k x5 x11 x12 (wrap64 (x13 + 1)))) else (none)) else (none)) else (some x5)
def impl_Hyper_singles.f (k : Nat) (a0_0 : Int) (l0_1 : List (List Int)) (l1 : List Bool) : Option (List Int) := (impl_Hyper_degrees.f k a0_0 l0_1 l1).bind fun t1039 => (impl_Hyper_singles.l0 k (([] : List Int)) t1039 (t1039.length : Int) 0)
theorem impl_Hyper_singles.mono_l : ∀ k, (∀ y0 y1 y2 y3, LeO (impl_Hyper_singles.l0 k y0 y1 y2 y3) (impl_Hyper_singles.l0 (k + 1) y0 y1 y2 y3))
  | 0 => fun _ _ _ _ r h => by simp [impl_Hyper_singles.l0] at h
  | k + 1 => by
    have ih0 := impl_Hyper_singles.mono_l k
    · intro y0 y1 y2 y3
      unfold impl_Hyper_singles.l0
      repeat' first
      | (with_reducible exact ih0 _ _ _ _)
      | (with_reducible exact impl_Hyper_degrees.mono _ _ _ _)
      | (with_reducible exact LeO.refl _)
      | (with_reducible exact LeO.none _)
      | (with_reducible refine LeO.ite ?_ ?_)
      | (with_reducible refine LeO.bind ?_ (fun _ => ?_))
      | exact ih0 _ _ _ _
      | exact impl_Hyper_degrees.mono _ _ _ _
      | exact LeO.none _
      | refine LeO.ite ?_ ?_
      | refine LeO.bind ?_ (fun _ => ?_)
theorem impl_Hyper_singles.mono : ∀ a0 a1 a2 k, LeO (impl_Hyper_singles.f k a0 a1 a2) (impl_Hyper_singles.f (k + 1) a0 a1 a2) := by
  intro a0 a1 a2 k
  have ih0 := impl_Hyper_singles.mono_l k
  unfold impl_Hyper_singles.f
  repeat' first
      | (with_reducible exact ih0 _ _ _ _)
      | (with_reducible exact impl_Hyper_degrees.mono _ _ _ _)
      | (with_reducible exact LeO.refl _)
      | (with_reducible exact LeO.none _)
      | (with_reducible refine LeO.ite ?_ ?_)
      | (with_reducible refine LeO.bind ?_ (fun _ => ?_))
      | exact ih0 _ _ _ _
      | exact impl_Hyper_degrees.mono _ _ _ _
      | exact LeO.none _
      | refine LeO.ite ?_ ?_
      | refine LeO.bind ?_ (fun _ => ?_)
noncomputable def impl_Hyper_singles.L0 (y0 : List Int) (y1 : List Int) (y2 : Int) (y3 : Int) : Option (List Int) := lim fun k => impl_Hyper_singles.l0 k y0 y1 y2 y3
theorem impl_Hyper_singles.L0_sup (y0 : List Int) (y1 : List Int) (y2 : Int) (y3 : Int) : Sup (fun k => impl_Hyper_singles.l0 k y0 y1 y2 y3) (impl_Hyper_singles.L0 y0 y1 y2 y3) := Sup.of_mono fun k => impl_Hyper_singles.mono_l k y0 y1 y2 y3
noncomputable def impl_Hyper_singles.F (a0_0 : Int) (l0_1 : List (List Int)) (l1 : List Bool) : Option (List Int) := lim fun k => impl_Hyper_singles.f k a0_0 l0_1 l1
theorem impl_Hyper_singles.F_sup (a0_0 : Int) (l0_1 : List (List Int)) (l1 : List Bool) : Sup (fun k => impl_Hyper_singles.f k a0_0 l0_1 l1) (impl_Hyper_singles.F a0_0 l0_1 l1) := Sup.of_mono fun k => impl_Hyper_singles.mono a0_0 l0_1 l1 k
theorem impl_Hyper_singles.L0_eq (x5 : List Int) (x11 : List Int) (x12 : Int) (x13 : Int) : impl_Hyper_singles.L0 x5 x11 x12 x13 = if x13 < x12 then (if 0 ≤ x13 then (if x13 < (x11.length : Int) then (if (rd x11 x13) = 1 then (if x5.length < 17592186044416 then (impl_Hyper_singles.L0 (x5 ++ [x13]) x11 x12 (wrap64 (x13 + 1))) else (none)) else (impl_Hyper_singles.L0 x5 x11 x12 (wrap64 (x13 + 1)))) else (none)) else (none)) else (some x5) := by
  refine Sup.unique (impl_Hyper_singles.L0_sup x5 x11 x12 x13) (Sup.shift (fun k => impl_Hyper_singles.mono_l k x5 x11 x12 x13) (Sup.congr (g' := fun k => if x13 < x12 then (if 0 ≤ x13 then (if x13 < (x11.length : Int) then (if (rd x11 x13) = 1 then (if x5.length < 17592186044416 then (impl_Hyper_singles.l0 k (x5 ++ [x13]) x11 x12 (wrap64 (x13 + 1))) else (none)) else (impl_Hyper_singles.l0 k x5 x11 x12 (wrap64 (x13 + 1)))) else (none)) else (none)) else (some x5)) (fun k => by first | rfl | simp only [impl_Hyper_singles.l0]) ?_))
  repeat' first
    | (with_reducible exact impl_Hyper_singles.L0_sup _ _ _ _)
    | (with_reducible exact impl_Hyper_degrees.F_sup _ _ _)
    | (with_reducible refine Sup.ite ?_ ?_)
    | (with_reducible refine Sup.bind ?_ (fun _ => ?_))
    | (with_reducible exact Sup.const _)
    | exact impl_Hyper_singles.L0_sup _ _ _ _
    | exact impl_Hyper_degrees.F_sup _ _ _
    | exact Sup.const _
theorem impl_Hyper_singles.F_eq (a0_0 : Int) (l0_1 : List (List Int)) (l1 : List Bool) : impl_Hyper_singles.F a0_0 l0_1 l1 = (impl_Hyper_degrees.F a0_0 l0_1 l1).bind fun t1039 => (impl_Hyper_singles.L0 (([] : List Int)) t1039 (t1039.length : Int) 0) := by
  refine Sup.unique (impl_Hyper_singles.F_sup a0_0 l0_1 l1) (Sup.congr (g' := fun k => (impl_Hyper_degrees.f k a0_0 l0_1 l1).bind fun t1039 => (impl_Hyper_singles.l0 k (([] : List Int)) t1039 (t1039.length : Int) 0)) (fun k => by first | rfl | simp only [impl_Hyper_singles.f]) ?_)
  repeat' first
    | (with_reducible exact impl_Hyper_singles.L0_sup _ _ _ _)
    | (with_reducible exact impl_Hyper_degrees.F_sup _ _ _)
    | (with_reducible refine Sup.ite ?_ ?_)
    | (with_reducible refine Sup.bind ?_ (fun _ => ?_))
    | (with_reducible exact Sup.const _)
    | exact impl_Hyper_singles.L0_sup _ _ _ _
    | exact impl_Hyper_degrees.F_sup _ _ _
    | exact Sup.const _
set_option maxHeartbeats 8000000 in
set_option maxRecDepth 100000 in
theorem impl_Hyper_singles.calls (k : Nat) (gb0_ : Nat) (a0_0 : Int) (A0_1 : Option Addr) (c0_1 : Nat) (l0_1 : List (List Int)) (A1 : Option Addr) (c1 : Nat) (l1 : List Bool) (r : List Int) (w : World) (hr0_1 : Kd.C (Kd.slice 3 (Kd.int .i64)) w A0_1 l0_1.length l0_1) (hc0_1 : l0_1.length ≤ c0_1) (hr1 : Kd.C Kd.bool w A1 l1.length l1) (hc1 : l1.length ≤ c1) (hb0_ : w.heap[gb0_]? = some (.cells #[.int .i64 a0_0, .slice A0_1 l0_1.length c0_1] 29 (0, 0))) (h : impl_Hyper_singles.f k a0_0 l0_1 l1 = some r) :
    Calls Try.prog 111 #[.pointer (some ⟨gb0_, 0, none⟩), .slice A1 l1.length c1] w fun e w' => ∃ v0_ : Value, e = .returned (v0_) ∧ Kd.R (Kd.int .i64) 3 w' w.heap.size (fun _ => True) v0_ r ∧ Below w.heap.size w w' := by
  have HR0_1 := Aside0.mk hr0_1
  have HC0_1 := Aside0.mk hc0_1
  clear hr0_1 hc0_1
  have HR1 := Aside0.mk hr1
  have HC1 := Aside0.mk hc1
  clear hr1 hc1
  have BK0 := Aside0.mk hb0_
  clear hb0_
  have HB := Aside0.mk (Below.refl w.heap.size w)
  have H : ((impl_Hyper_degrees.f k a0_0 l0_1 l1).bind fun t1039 => (impl_Hyper_singles.l0 k (([] : List Int)) t1039 (t1039.length : Int) 0)) = some r := h
  clear h
  obtain ⟨y1036, hy1036⟩ : ∃ y_ : List Int, y_ = (([] : List Int)) := ⟨_, rfl⟩
  replace H : ((impl_Hyper_degrees.f k a0_0 l0_1 l1).bind fun t1039 => (impl_Hyper_singles.l0 k y1036 t1039 (t1039.length : Int) 0)) = some r := by first | (rw [hy1036]; with_reducible exact H) | (have H2_ := (Option.bind_some _ _).symm.trans H; rw [hy1036]; with_reducible exact H2_) | (have H2_ := (Option.bind_some _ _).symm.trans H; with_reducible exact H2_) | with_reducible exact H | (rw [hy1036]; exact H) | exact H
  have Ny1036 := Aside0.mk hy1036
  clear hy1036
  replace H := Option.bind_eq_some_iff.mp H
  obtain ⟨t1039, A30, H⟩ := H
  replace H : (impl_Hyper_singles.l0 k y1036 t1039 (t1039.length : Int) 0) = some r := H
  have A3 := Aside0.mk A30
  clear A30
  have H' := Aside0.mk H
  clear H
  go_enter Try.func111, Try.ntmps111
  go_wp2_with (first | ((with_reducible refine gate_dst (N := 8) rfl ?_); refine Kd.R_lit (Kd.int .i64) _ 3 ?hg (N := 8) ?hd (xs := ([] : List Int)) (inner := []) (ok := fun _ => True) (okp := fun _ => True) ?hr ?hp (fun _ hk => hk) trivial (Below.refl _ _) (Nat.le_refl _) (by simp) ?_; (case hd => rfl); (case hg => rfl); (case hr => first | (go_simp; done) | (go_simp; rfl)); (case hp => exact (Reps.none _ _)); intro v1037 w4 ho5 hb hg_ hnew_; clear hg_ hnew_; (first | rw [← Ny1036.out] at ho5 | (simp only [Int.reduceToNat] at ho5; rw [← Ny1036.out] at ho5)); have n0_ := Aside0.mk (Kd.R_lower ho5 (below_size (by repeat (first | (with_reducible first | exact HB.out | apply below_alloc | apply pw_below_drewN | apply below_drew1 | refine below_set ?_ GE0.out) | exact HB.out)))); have n1_ := Aside0.mk (blk_below (g := gb0_) (o := .cells #[.int .i64 a0_0, .slice A0_1 l0_1.length c0_1] 29 (0, 0)) (by (with_reducible repeat (first | refine blk_drewN ?_ _ | refine blk_drew ?_ | refine blk_alloc ?_ _)); exact BK0.out) hb); have n2_ := Aside0.mk (below_step (by repeat (first | (with_reducible first | exact HB.out | apply below_alloc | apply pw_below_drewN | apply below_drew1 | refine below_set ?_ GE0.out) | exact HB.out)) hb); clear BK0; clear HB; have HO1038 := n0_; have BK0 := n1_; have HB := n2_; clear n0_ n1_ n2_; clear hb ho5) | ((with_reducible refine gate_callee (f := 72) rfl ?_); refine goesL_ (some 11) rfl rfl Try.func72 (by kernel_rfl) rfl #[.pointer (some ⟨gb0_, 0, none⟩), .slice A1 l1.length c1] rfl (by (try simp only [List.map_toArray, List.map_cons, List.map_nil]); first | done | rfl | (simp only [List.length_drop, List.length_take]; rfl)) ?_; (with_reducible refine (impl_Hyper_degrees.calls k gb0_ a0_0 A0_1 c0_1 l0_1 _ _ l1 t1039 _ ?side1 ?side2 ?side3 ?side4 ?side5 A3.out).mono ?_); (case side1 => repeat (first | exact (Kd.C_below HR0_1.out HB.out) | (with_reducible refine Kd.C_alloc ?_ _) | (with_reducible refine Kd.C_drewN ?_ _) | (with_reducible refine Kd.C_drew ?_))); (case side2 => exact HC0_1.out); (case side3 => repeat (first | exact (Kd.C_below HR1.out HB.out) | (with_reducible refine Kd.C_alloc ?_ _) | (with_reducible refine Kd.C_drewN ?_ _) | (with_reducible refine Kd.C_drew ?_))); (case side4 => exact HC1.out); (case side5 => exact (by (with_reducible repeat (first | refine blk_drewN ?_ _ | refine blk_drew ?_ | refine blk_alloc ?_ _)); exact BK0.out)); rintro e w6 ⟨v1040, rfl, ho0, hb⟩; refine ⟨_, rfl, ?_⟩; have n0_ := Aside0.mk (Kd.R_elder' (by (with_reducible repeat (first | apply Kd.R_alloc | apply Kd.R_drewN | apply Kd.R_drew)); exact HO1038.out) (Kd.R_base ho0) hb); have n1_ := Aside0.mk (Kd.R_lower (Kd.R_new' ho0 (Kd.R_lt (by (with_reducible repeat (first | apply Kd.R_alloc | apply Kd.R_drewN | apply Kd.R_drew)); exact HO1038.out))) (below_size (by repeat (first | (with_reducible first | exact HB.out | apply below_alloc | apply pw_below_drewN | apply below_drew1 | refine below_set ?_ GE0.out) | exact HB.out)))); have n2_ := Aside0.mk (blk_below (g := gb0_) (o := .cells #[.int .i64 a0_0, .slice A0_1 l0_1.length c0_1] 29 (0, 0)) (by (with_reducible repeat (first | refine blk_drewN ?_ _ | refine blk_drew ?_ | refine blk_alloc ?_ _)); exact BK0.out) hb); have n3_ := Aside0.mk (below_step (by repeat (first | (with_reducible first | exact HB.out | apply below_alloc | apply pw_below_drewN | apply below_drew1 | refine below_set ?_ GE0.out) | exact HB.out)) hb); clear HO1038; clear BK0; clear HB; have HO1038 := n0_; have HO1041 := n1_; have BK0 := n2_; have HB := n3_; clear n0_ n1_ n2_ n3_; (try clear hb); (try clear hb2); (try clear hk); (try clear hi); (try clear ho0); obtain ⟨Ao7, co7, eo7⟩ := Kd.R_slice HO1041.out; subst eo7))
  go_loopg [5, 13] k (fun kq v5 v13 w' => ∃ (x5_1 : List Int) (x13_1 : Int), v13 = .int .i64 x13_1 ∧ Aside0 (impl_Hyper_singles.l0 kq x5_1 t1039 (t1039.length : Int) x13_1 = some r) ∧ Aside0 (kq ≤ k) ∧ Aside0 (Kd.R (Kd.int .i64) 3 w' w.heap.size (fun k_ => some k_ ≠ ((.slice Ao7 t1039.length co7) : Value).ownBlock) v5 x5_1) ∧ Aside0 (Kd.R (Kd.int .i64) 3 w' w.heap.size (fun k_ => some k_ ≠ (v5 : Value).ownBlock) (.slice Ao7 t1039.length co7) t1039) ∧ Aside0 (w'.heap[gb0_]? = some (.cells #[.int .i64 a0_0, (.slice A0_1 l0_1.length c0_1)] 29 (0, 0))) ∧ Aside0 (Below w.heap.size w w'))
  case atStart => exact ⟨(y1036), (0), (by first | rfl | (simp; done) | (simp [*]; done)), H', ⟨Nat.le_refl _⟩, ⟨by (with_reducible repeat (first | apply Kd.R_alloc | apply Kd.R_drewN | apply Kd.R_drew)); exact Kd.R_mono HO1038.out (fun _ hk => hk.2)⟩, ⟨by (with_reducible repeat (first | apply Kd.R_alloc | apply Kd.R_drewN | apply Kd.R_drew)); exact Kd.R_mono HO1041.out (fun _ hk => hk.2)⟩, ⟨by (with_reducible repeat (first | refine blk_drewN ?_ _ | refine blk_drew ?_ | refine blk_alloc ?_ _)); exact BK0.out⟩, ⟨by repeat (first | (with_reducible first | exact HB.out | apply below_alloc | apply pw_below_drewN | apply below_drew1 | refine below_set ?_ GE0.out) | exact HB.out)⟩⟩
  case round =>
   clear H'
   try clear c1
   try clear p2
   try clear c7
   obtain ⟨x5_1, x13_1, rfl, HA, HK1, HO_5, HO_11, BK0, HB⟩ := hrel
   cases gk with
   | zero => exact absurd HA.out (by simp [impl_Hyper_singles.l0])
   | succ k1 =>
    have H := HA.out
    clear HA
    simp only [impl_Hyper_singles.l0] at H
    by_cases c8 : x13_1 < (t1039.length : Int)
    ·rw [if_pos c8] at H
     have c8b0 : decide (x13_1 < (t1039.length : Int)) = true := decide_eq_true c8
     clear c8
     by_cases c9 : 0 ≤ x13_1
     ·rw [if_pos c9] at H
      have c9b0 : decide (0 ≤ x13_1) = true := decide_eq_true c9
      clear c9
      by_cases c10 : x13_1 < (t1039.length : Int)
      ·rw [if_pos c10] at H
       have c10b0 : decide (x13_1 < (t1039.length : Int)) = true := decide_eq_true c10
       clear c10
       by_cases c11 : (rd t1039 x13_1) = 1
       ·rw [if_pos c11] at H
        have c11b0 : ((rd t1039 x13_1) == 1) = true := beq_iff_eq.mpr c11
        have c11b1 : ((rd t1039 x13_1) != 1) = false := bne_eq_false_iff_eq.mpr c11
        clear c11
        by_cases c12 : x5_1.length < 17592186044416
        ·rw [if_pos c12] at H
         have LMc12 := Aside0.mk c12
         clear c12
         obtain ⟨y1043, hy1043⟩ : ∃ y_ : List Int, y_ = (x5_1 ++ [x13_1]) := ⟨_, rfl⟩
         replace H : (impl_Hyper_singles.l0 k1 y1043 t1039 (t1039.length : Int) (wrap64 (x13_1 + 1))) = some r := by first | (rw [hy1043]; with_reducible exact H) | (have H2_ := (Option.bind_some _ _).symm.trans H; rw [hy1043]; with_reducible exact H2_) | (have H2_ := (Option.bind_some _ _).symm.trans H; with_reducible exact H2_) | with_reducible exact H | (rw [hy1043]; exact H) | exact H
         have Ny1043 := Aside0.mk hy1043
         clear hy1043
         have H' := Aside0.mk H
         clear H
         have p1042 : 0 ≤ (x13_1 : Int) := of_decide_eq_true (by first | (with_reducible assumption) | assumption)
         have q1042 : x13_1 < (t1039.length : Int) := of_decide_eq_true (by first | (with_reducible assumption) | assumption)
         obtain ⟨ad1042, e1042, hx1042_0⟩ := Kd.at_int (Kd.R_reads' HO_11.out).2.2 x13_1 p1042 q1042
         cases e1042
         replace p1042 := eq_true p1042
         replace q1042 := eq_true q1042
         go_wp2_with (first | ((with_reducible refine gate_builtin (b := .append) (xs := #[.tmp 20, .tmp 22]) rfl ?_); at_builtin; refine Kd.R_append (Kd.int .i64) (w0 := w) w.heap.size rfl (.tmp 20) (.tmp 22) 26 3 (.int .i64 0) 8 rfl Try.underlying26 info3 rfl (by decide) (by omega) u5 x5_1 x13_1 [.int .i64 x13_1] (fun k_ => some k_ ≠ (.slice (some ad1042) t1039.length co7 : Value).ownBlock) (fun _ => False) rfl rfl ?aP (fun _ hk => hk.elim) ?aF ?aO ?aB ?aS ?aL ?_; (case aP => exact rfl); (case aB => exact (by repeat (first | (with_reducible first | exact HB.out | apply below_alloc | apply pw_below_drewN | apply below_drew1 | refine below_set ?_ GE0.out) | exact HB.out))); (case aF => exact (fun k_ hk => Kd.fresh' (Kd.R_lt (by (with_reducible repeat (first | apply Kd.R_alloc | apply Kd.R_drewN | apply Kd.R_drew)); exact HO_11.out)) k_ hk)); (case aO => exact (by (with_reducible repeat (first | apply Kd.R_alloc | apply Kd.R_drewN | apply Kd.R_drew)); exact HO_5.out)); (case aS => exact (below_size (by repeat (first | (with_reducible first | exact HB.out | apply below_alloc | apply pw_below_drewN | apply below_drew1 | refine below_set ?_ GE0.out) | exact HB.out)))); (case aL => have := LMc12.out; omega); intro v1044 w13 ho hb hg hat; rw [← Ny1043.out] at ho; have n0_ := Aside0.mk (Kd.R_after (ok := (fun _ => True)) (by (with_reducible repeat (first | apply Kd.R_alloc | apply Kd.R_drewN | apply Kd.R_drew)); exact Kd.R_mono HO_11.out (fun _ hk => ⟨trivial, hk⟩)) hg hat); have n1_ := Aside0.mk (blk_grown (g := gb0_) (o := .cells #[.int .i64 a0_0, .slice A0_1 l0_1.length c0_1] 29 (0, 0)) (by (with_reducible repeat (first | refine blk_drewN ?_ _ | refine blk_drew ?_ | refine blk_alloc ?_ _)); exact BK0.out) hg (Kd.R_ne HO_5.out BK0.out (by decide))); have n2_ := Aside0.mk (hb); have n3_ := Aside0.mk (ho); clear HO_11; clear BK0; clear HB; clear HO_5; have HO_11 := n0_; have BK0 := n1_; have HB := n2_; have HO1045 := n3_; clear n0_ n1_ n2_ n3_; clear ho hb hg hat))
         go_roundg k1
         case measure => have := HK1.out; omega
         case rel => exact ⟨(y1043), (wrap64 (x13_1 + 1)), (by first | rfl | (simp; done) | (simp [*]; done)), H', ⟨by have := HK1.out; omega⟩, ⟨by (with_reducible repeat (first | apply Kd.R_alloc | apply Kd.R_drewN | apply Kd.R_drew)); exact HO1045.out⟩, ⟨by (with_reducible repeat (first | apply Kd.R_alloc | apply Kd.R_drewN | apply Kd.R_drew)); exact Kd.R_mono HO_11.out (fun _ hk => hk.2)⟩, ⟨by (with_reducible repeat (first | refine blk_drewN ?_ _ | refine blk_drew ?_ | refine blk_alloc ?_ _)); exact BK0.out⟩, ⟨by repeat (first | (with_reducible first | exact HB.out | apply below_alloc | apply pw_below_drewN | apply below_drew1 | refine below_set ?_ GE0.out) | exact HB.out)⟩⟩
        ·rw [if_neg c12] at H
         exact absurd H (by simp)
       ·rw [if_neg c11] at H
        have c11b0 : ((rd t1039 x13_1) == 1) = false := beq_eq_false_iff_ne.mpr c11
        have c11b1 : ((rd t1039 x13_1) != 1) = true := bne_iff_ne.mpr c11
        have H' := Aside0.mk H
        clear H
        have p1042 : 0 ≤ (x13_1 : Int) := of_decide_eq_true (by first | (with_reducible assumption) | assumption)
        have q1042 : x13_1 < (t1039.length : Int) := of_decide_eq_true (by first | (with_reducible assumption) | assumption)
        obtain ⟨ad1042, e1042, hx1042_0⟩ := Kd.at_int (Kd.R_reads' HO_11.out).2.2 x13_1 p1042 q1042
        cases e1042
        replace p1042 := eq_true p1042
        replace q1042 := eq_true q1042
        go_wp2
        go_roundg k1
        case measure => have := HK1.out; omega
        case rel => exact ⟨(x5_1), (wrap64 (x13_1 + 1)), (by first | rfl | (simp; done) | (simp [*]; done)), H', ⟨by have := HK1.out; omega⟩, ⟨by (with_reducible repeat (first | apply Kd.R_alloc | apply Kd.R_drewN | apply Kd.R_drew)); exact HO_5.out⟩, ⟨by (with_reducible repeat (first | apply Kd.R_alloc | apply Kd.R_drewN | apply Kd.R_drew)); exact HO_11.out⟩, ⟨by (with_reducible repeat (first | refine blk_drewN ?_ _ | refine blk_drew ?_ | refine blk_alloc ?_ _)); exact BK0.out⟩, ⟨by repeat (first | (with_reducible first | exact HB.out | apply below_alloc | apply pw_below_drewN | apply below_drew1 | refine below_set ?_ GE0.out) | exact HB.out)⟩⟩
      ·rw [if_neg c10] at H
       exact absurd H (by simp)
     ·rw [if_neg c9] at H
      exact absurd H (by simp)
    ·rw [if_neg c8] at H
     have c8b0 : decide (x13_1 < (t1039.length : Int)) = false := decide_eq_false c8
     clear c8
     obtain rfl := Option.some.inj H
     go_wp2
     go_ret
     exact ⟨_, by first | rfl | (simp [errW_none, errW_some] <;> rfl) | (simp [*, errW_none, errW_some] <;> rfl), by (with_reducible repeat (first | apply Kd.R_alloc | apply Kd.R_drewN | apply Kd.R_drew)); exact Kd.R_mono HO_5.out (fun _ hk => trivial), by repeat (first | (with_reducible first | exact HB.out | apply below_alloc | apply pw_below_drewN | apply below_drew1 | refine below_set ?_ GE0.out) | exact HB.out)⟩
/-! ### impl_Hyper_edgeAt: function 112 -/
def impl_Hyper_edgeAt.l0 : Nat → List Bool → Int → Int → Int → List (List Int) → Option (Int)
  | 0, _, _, _, _, _ => none
  | k + 1, x1, x2, x7, x1000, x1001 => if 0 ≤ x7 then (if x7 < (x1.length : Int) then (if rdOf false x1 x7 = true then (impl_Hyper_edgeAt.l0 k x1 x2 (wrap64 (x7 + 1)) x1000 x1001) else (if x7 < (x1001.length : Int) then ((slices_Contains_int_int.f k (rd_L1 x1001 x7) x2).bind fun t1048 => (if t1048 = true then (some x7) else (impl_Hyper_edgeAt.l0 k x1 x2 (wrap64 (x7 + 1)) x1000 x1001))) else (none))) else (none)) else (none)
def impl_Hyper_edgeAt.f (k : Nat) (a0_0 : Int) (l0_1 : List (List Int)) (l1 : List Bool) (a2 : Int) : Option (Int) := impl_Hyper_edgeAt.l0 k l1 a2 0 a0_0 l0_1
theorem impl_Hyper_edgeAt.mono_l : ∀ k, (∀ y0 y1 y2 y3 y4, LeO (impl_Hyper_edgeAt.l0 k y0 y1 y2 y3 y4) (impl_Hyper_edgeAt.l0 (k + 1) y0 y1 y2 y3 y4))
  | 0 => fun _ _ _ _ _ r h => by simp [impl_Hyper_edgeAt.l0] at h
  | k + 1 => by
    have ih0 := impl_Hyper_edgeAt.mono_l k
    · intro y0 y1 y2 y3 y4
      unfold impl_Hyper_edgeAt.l0
      repeat' first
      | (with_reducible exact ih0 _ _ _ _ _)
      | (with_reducible exact slices_Contains_int_int.mono _ _ _)
      | (with_reducible exact LeO.refl _)
      | (with_reducible exact LeO.none _)
      | (with_reducible refine LeO.ite ?_ ?_)
      | (with_reducible refine LeO.bind ?_ (fun _ => ?_))
      | exact ih0 _ _ _ _ _
      | exact slices_Contains_int_int.mono _ _ _
      | exact LeO.none _
      | refine LeO.ite ?_ ?_
      | refine LeO.bind ?_ (fun _ => ?_)
theorem impl_Hyper_edgeAt.mono : ∀ a0 a1 a2 a3 k, LeO (impl_Hyper_edgeAt.f k a0 a1 a2 a3) (impl_Hyper_edgeAt.f (k + 1) a0 a1 a2 a3) := by
  intro a0 a1 a2 a3 k
  have ih0 := impl_Hyper_edgeAt.mono_l k
  unfold impl_Hyper_edgeAt.f
  repeat' first
      | (with_reducible exact ih0 _ _ _ _ _)
      | (with_reducible exact slices_Contains_int_int.mono _ _ _)
      | (with_reducible exact LeO.refl _)
      | (with_reducible exact LeO.none _)
      | (with_reducible refine LeO.ite ?_ ?_)
      | (with_reducible refine LeO.bind ?_ (fun _ => ?_))
      | exact ih0 _ _ _ _ _
      | exact slices_Contains_int_int.mono _ _ _
      | exact LeO.none _
      | refine LeO.ite ?_ ?_
      | refine LeO.bind ?_ (fun _ => ?_)
noncomputable def impl_Hyper_edgeAt.L0 (y0 : List Bool) (y1 : Int) (y2 : Int) (y3 : Int) (y4 : List (List Int)) : Option (Int) := lim fun k => impl_Hyper_edgeAt.l0 k y0 y1 y2 y3 y4
theorem impl_Hyper_edgeAt.L0_sup (y0 : List Bool) (y1 : Int) (y2 : Int) (y3 : Int) (y4 : List (List Int)) : Sup (fun k => impl_Hyper_edgeAt.l0 k y0 y1 y2 y3 y4) (impl_Hyper_edgeAt.L0 y0 y1 y2 y3 y4) := Sup.of_mono fun k => impl_Hyper_edgeAt.mono_l k y0 y1 y2 y3 y4
noncomputable def impl_Hyper_edgeAt.F (a0_0 : Int) (l0_1 : List (List Int)) (l1 : List Bool) (a2 : Int) : Option (Int) := lim fun k => impl_Hyper_edgeAt.f k a0_0 l0_1 l1 a2
theorem impl_Hyper_edgeAt.F_sup (a0_0 : Int) (l0_1 : List (List Int)) (l1 : List Bool) (a2 : Int) : Sup (fun k => impl_Hyper_edgeAt.f k a0_0 l0_1 l1 a2) (impl_Hyper_edgeAt.F a0_0 l0_1 l1 a2) := Sup.of_mono fun k => impl_Hyper_edgeAt.mono a0_0 l0_1 l1 a2 k
theorem impl_Hyper_edgeAt.L0_eq (x1 : List Bool) (x2 : Int) (x7 : Int) (x1000 : Int) (x1001 : List (List Int)) : impl_Hyper_edgeAt.L0 x1 x2 x7 x1000 x1001 = if 0 ≤ x7 then (if x7 < (x1.length : Int) then (if rdOf false x1 x7 = true then (impl_Hyper_edgeAt.L0 x1 x2 (wrap64 (x7 + 1)) x1000 x1001) else (if x7 < (x1001.length : Int) then ((slices_Contains_int_int.F (rd_L1 x1001 x7) x2).bind fun t1048 => (if t1048 = true then (some x7) else (impl_Hyper_edgeAt.L0 x1 x2 (wrap64 (x7 + 1)) x1000 x1001))) else (none))) else (none)) else (none) := by
  refine Sup.unique (impl_Hyper_edgeAt.L0_sup x1 x2 x7 x1000 x1001) (Sup.shift (fun k => impl_Hyper_edgeAt.mono_l k x1 x2 x7 x1000 x1001) (Sup.congr (g' := fun k => if 0 ≤ x7 then (if x7 < (x1.length : Int) then (if rdOf false x1 x7 = true then (impl_Hyper_edgeAt.l0 k x1 x2 (wrap64 (x7 + 1)) x1000 x1001) else (if x7 < (x1001.length : Int) then ((slices_Contains_int_int.f k (rd_L1 x1001 x7) x2).bind fun t1048 => (if t1048 = true then (some x7) else (impl_Hyper_edgeAt.l0 k x1 x2 (wrap64 (x7 + 1)) x1000 x1001))) else (none))) else (none)) else (none)) (fun k => by first | rfl | simp only [impl_Hyper_edgeAt.l0]) ?_))
  repeat' first
    | (with_reducible exact impl_Hyper_edgeAt.L0_sup _ _ _ _ _)
    | (with_reducible exact slices_Contains_int_int.F_sup _ _)
    | (with_reducible refine Sup.ite ?_ ?_)
    | (with_reducible refine Sup.bind ?_ (fun _ => ?_))
    | (with_reducible exact Sup.const _)
    | exact impl_Hyper_edgeAt.L0_sup _ _ _ _ _
    | exact slices_Contains_int_int.F_sup _ _
    | exact Sup.const _
theorem impl_Hyper_edgeAt.F_eq (a0_0 : Int) (l0_1 : List (List Int)) (l1 : List Bool) (a2 : Int) : impl_Hyper_edgeAt.F a0_0 l0_1 l1 a2 = impl_Hyper_edgeAt.L0 l1 a2 0 a0_0 l0_1 := by
  refine Sup.unique (impl_Hyper_edgeAt.F_sup a0_0 l0_1 l1 a2) (Sup.congr (g' := fun k => impl_Hyper_edgeAt.l0 k l1 a2 0 a0_0 l0_1) (fun k => by first | rfl | simp only [impl_Hyper_edgeAt.f]) ?_)
  repeat' first
    | (with_reducible exact impl_Hyper_edgeAt.L0_sup _ _ _ _ _)
    | (with_reducible exact slices_Contains_int_int.F_sup _ _)
    | (with_reducible refine Sup.ite ?_ ?_)
    | (with_reducible refine Sup.bind ?_ (fun _ => ?_))
    | (with_reducible exact Sup.const _)
    | exact impl_Hyper_edgeAt.L0_sup _ _ _ _ _
    | exact slices_Contains_int_int.F_sup _ _
    | exact Sup.const _
set_option maxHeartbeats 8000000 in
set_option maxRecDepth 100000 in
theorem impl_Hyper_edgeAt.calls (k : Nat) (gb0_ : Nat) (a0_0 : Int) (A0_1 : Option Addr) (c0_1 : Nat) (l0_1 : List (List Int)) (A1 : Option Addr) (c1 : Nat) (l1 : List Bool) (a2 : Int) (r : Int) (w : World) (hr0_1 : Kd.C (Kd.slice 3 (Kd.int .i64)) w A0_1 l0_1.length l0_1) (hc0_1 : l0_1.length ≤ c0_1) (hr1 : Kd.C Kd.bool w A1 l1.length l1) (hc1 : l1.length ≤ c1) (hb0_ : w.heap[gb0_]? = some (.cells #[.int .i64 a0_0, .slice A0_1 l0_1.length c0_1] 29 (0, 0))) (h : impl_Hyper_edgeAt.f k a0_0 l0_1 l1 a2 = some r) :
    Calls Try.prog 112 #[.pointer (some ⟨gb0_, 0, none⟩), .slice A1 l1.length c1, .int .i64 a2] w fun e w' => e = .returned (.int .i64 r) ∧ Drawn0 w w' := by
  have hu22 := Try.underlying22
  have hu26 := Try.underlying26
  have HR0_1 := Aside0.mk hr0_1
  have HC0_1 := Aside0.mk hc0_1
  clear hr0_1 hc0_1
  have HR1 := Aside0.mk hr1
  have HC1 := Aside0.mk hc1
  clear hr1 hc1
  have BK0 := Aside0.mk hb0_
  clear hb0_
  have H : (impl_Hyper_edgeAt.l0 k l1 a2 0 a0_0 l0_1) = some r := h
  clear h
  have H' := Aside0.mk H
  clear H
  go_enter Try.func112, Try.ntmps112
  go_wp2
  go_loopg [7] k (fun kq v7 w' => ∃ (x7_1 : Int), v7 = .int .i64 x7_1 ∧ Aside0 (impl_Hyper_edgeAt.l0 kq l1 a2 x7_1 a0_0 l0_1 = some r) ∧ Aside0 (kq ≤ k) ∧ Drawn0 w w')
  case atStart => exact ⟨(0), (by first | rfl | (simp; done) | (simp [*]; done)), H', ⟨Nat.le_refl _⟩, by repeat (first | exact Drawn0.refl _ | apply Drawn0.step)⟩
  case round =>
   clear H'
   try clear c1
   try clear p2
   obtain ⟨x7_1, rfl, HA, HK1, ⟨m1, rfl⟩⟩ := hrel
   cases gk with
   | zero => exact absurd HA.out (by simp [impl_Hyper_edgeAt.l0])
   | succ k1 =>
    have H := HA.out
    clear HA
    simp only [impl_Hyper_edgeAt.l0] at H
    by_cases c4 : 0 ≤ x7_1
    ·rw [if_pos c4] at H
     have c4b0 : decide (0 ≤ x7_1) = true := decide_eq_true c4
     clear c4
     by_cases c5 : x7_1 < (l1.length : Int)
     ·rw [if_pos c5] at H
      have c5b0 : decide (x7_1 < (l1.length : Int)) = true := decide_eq_true c5
      clear c5
      obtain ⟨bq6, hbq6⟩ : ∃ b_ : Bool, b_ = (rdOf false l1 x7_1) := ⟨_, rfl⟩
      replace H : (if bq6 = true then (impl_Hyper_edgeAt.l0 k1 l1 a2 (wrap64 (x7_1 + 1)) a0_0 l0_1) else (if x7_1 < (l0_1.length : Int) then ((slices_Contains_int_int.f k1 (rd_L1 l0_1 x7_1) a2).bind fun t1048 => (if t1048 = true then (some x7_1) else (impl_Hyper_edgeAt.l0 k1 l1 a2 (wrap64 (x7_1 + 1)) a0_0 l0_1))) else (none))) = some r := by rw [← hbq6] at H; exact H
      have Nbq6 := Aside0.mk hbq6
      clear hbq6
      by_cases c7 : bq6 = true
      ·subst c7
       have H1 : (impl_Hyper_edgeAt.l0 k1 l1 a2 (wrap64 (x7_1 + 1)) a0_0 l0_1) = some r := by rw [if_pos rfl] at H; exact H
       clear H
       have H := H1
       clear H1
       have H' := Aside0.mk H
       clear H
       have p1046 : 0 ≤ (x7_1 : Int) := of_decide_eq_true (by first | (with_reducible assumption) | assumption)
       have q1046 : x7_1 < (l1.length : Int) := of_decide_eq_true (by first | (with_reducible assumption) | assumption)
       obtain ⟨ad1046, e1046, hx1046_0⟩ := Kd.at_bool HR1.out x7_1 p1046 q1046
       (try rw [← Nbq6.out] at hx1046_0)
       cases e1046
       replace p1046 := eq_true p1046
       replace q1046 := eq_true q1046
       go_wp2
       go_roundg k1
       case measure => have := HK1.out; omega
       case rel => exact ⟨(wrap64 (x7_1 + 1)), (by first | rfl | (simp; done) | (simp [*]; done)), H', ⟨by have := HK1.out; omega⟩, by repeat (first | exact Drawn0.refl _ | apply Drawn0.step)⟩
      ·replace c7 := Bool.eq_false_iff.mpr c7
       subst c7
       have H1 : (if x7_1 < (l0_1.length : Int) then ((slices_Contains_int_int.f k1 (rd_L1 l0_1 x7_1) a2).bind fun t1048 => (if t1048 = true then (some x7_1) else (impl_Hyper_edgeAt.l0 k1 l1 a2 (wrap64 (x7_1 + 1)) a0_0 l0_1))) else (none)) = some r := by rw [if_neg (show ¬ (false = true) by decide)] at H; exact H
       clear H
       have H := H1
       clear H1
       by_cases c8 : x7_1 < (l0_1.length : Int)
       ·rw [if_pos c8] at H
        have c8b0 : decide (x7_1 < (l0_1.length : Int)) = true := decide_eq_true c8
        clear c8
        replace H := Option.bind_eq_some_iff.mp H
        obtain ⟨t1048, A90, H⟩ := H
        replace H : (if t1048 = true then (some x7_1) else (impl_Hyper_edgeAt.l0 k1 l1 a2 (wrap64 (x7_1 + 1)) a0_0 l0_1)) = some r := H
        have A9 := Aside0.mk A90
        clear A90
        by_cases c10 : t1048 = true
        ·subst c10
         have H1 : (some x7_1) = some r := by rw [if_pos rfl] at H; exact H
         clear H
         have H := H1
         clear H1
         obtain rfl := Option.some.inj H
         have p1046 : 0 ≤ (x7_1 : Int) := of_decide_eq_true (by first | (with_reducible assumption) | assumption)
         have q1046 : x7_1 < (l1.length : Int) := of_decide_eq_true (by first | (with_reducible assumption) | assumption)
         obtain ⟨ad1046, e1046, hx1046_0⟩ := Kd.at_bool HR1.out x7_1 p1046 q1046
         (try rw [← Nbq6.out] at hx1046_0)
         cases e1046
         replace p1046 := eq_true p1046
         replace q1046 := eq_true q1046
         have hcz11_0 : w.cell? ⟨gb0_, 0, none⟩ = some (.int .i64 a0_0) := (blk_cell BK0.out 0).trans rfl
         have hcz11_1 : w.cell? ⟨gb0_, 1, none⟩ = some (.slice A0_1 l0_1.length c0_1) := (blk_cell BK0.out 1).trans rfl
         have hfz11_0 := blk_frozen BK0.out 0
         have hfz11_1 := blk_frozen BK0.out 1
         have p1047 : 0 ≤ (x7_1 : Int) := of_decide_eq_true (by first | (with_reducible assumption) | assumption)
         have q1047 : x7_1 < (l0_1.length : Int) := of_decide_eq_true (by first | (with_reducible assumption) | assumption)
         obtain ⟨ad1047, A1047_0, c1047_0, e1047, hx1047_0, hl1047_0, hi1047_0⟩ := at_L1 HR0_1.out x7_1 p1047 q1047
         cases e1047
         have HR1047_0 := Aside0.mk hi1047_0
         have HC1047_0 := Aside0.mk hl1047_0
         clear hi1047_0 hl1047_0
         replace p1047 := eq_true p1047
         replace q1047 := eq_true q1047
         go_wp2_with (first | (go_at_call 77; (with_reducible refine (slices_Contains_int_int.calls k1 _ _ (rd_L1 l0_1 x7_1) a2 true _ ?side1 ?side2 A9.out).mono ?_); (case side1 => repeat (first | exact HR1047_0.out | (with_reducible refine Kd.C_alloc ?_ _) | (with_reducible refine Kd.C_drewN ?_ _) | (with_reducible refine Kd.C_drew ?_))); (case side2 => exact HC1047_0.out); rintro e w' ⟨rfl, ⟨nd, rfl⟩⟩))
         go_ret
         exact ⟨by first | rfl | (simp; done) | (simp [*]; done), by repeat (first | exact Drawn0.refl _ | apply Drawn0.step)⟩
        ·replace c10 := Bool.eq_false_iff.mpr c10
         subst c10
         have H1 : (impl_Hyper_edgeAt.l0 k1 l1 a2 (wrap64 (x7_1 + 1)) a0_0 l0_1) = some r := by rw [if_neg (show ¬ (false = true) by decide)] at H; exact H
         clear H
         have H := H1
         clear H1
         have H' := Aside0.mk H
         clear H
         have p1046 : 0 ≤ (x7_1 : Int) := of_decide_eq_true (by first | (with_reducible assumption) | assumption)
         have q1046 : x7_1 < (l1.length : Int) := of_decide_eq_true (by first | (with_reducible assumption) | assumption)
         obtain ⟨ad1046, e1046, hx1046_0⟩ := Kd.at_bool HR1.out x7_1 p1046 q1046
         (try rw [← Nbq6.out] at hx1046_0)
         cases e1046
         replace p1046 := eq_true p1046
         replace q1046 := eq_true q1046
         have hcz12_0 : w.cell? ⟨gb0_, 0, none⟩ = some (.int .i64 a0_0) := (blk_cell BK0.out 0).trans rfl
         have hcz12_1 : w.cell? ⟨gb0_, 1, none⟩ = some (.slice A0_1 l0_1.length c0_1) := (blk_cell BK0.out 1).trans rfl
         have hfz12_0 := blk_frozen BK0.out 0
         have hfz12_1 := blk_frozen BK0.out 1
         have p1047 : 0 ≤ (x7_1 : Int) := of_decide_eq_true (by first | (with_reducible assumption) | assumption)
         have q1047 : x7_1 < (l0_1.length : Int) := of_decide_eq_true (by first | (with_reducible assumption) | assumption)
         obtain ⟨ad1047, A1047_0, c1047_0, e1047, hx1047_0, hl1047_0, hi1047_0⟩ := at_L1 HR0_1.out x7_1 p1047 q1047
         cases e1047
         have HR1047_0 := Aside0.mk hi1047_0
         have HC1047_0 := Aside0.mk hl1047_0
         clear hi1047_0 hl1047_0
         replace p1047 := eq_true p1047
         replace q1047 := eq_true q1047
         go_wp2_with (first | (go_at_call 77; (with_reducible refine (slices_Contains_int_int.calls k1 _ _ (rd_L1 l0_1 x7_1) a2 false _ ?side1 ?side2 A9.out).mono ?_); (case side1 => repeat (first | exact HR1047_0.out | (with_reducible refine Kd.C_alloc ?_ _) | (with_reducible refine Kd.C_drewN ?_ _) | (with_reducible refine Kd.C_drew ?_))); (case side2 => exact HC1047_0.out); rintro e w' ⟨rfl, ⟨nd, rfl⟩⟩))
         go_roundg k1
         case measure => have := HK1.out; omega
         case rel => exact ⟨(wrap64 (x7_1 + 1)), (by first | rfl | (simp; done) | (simp [*]; done)), H', ⟨by have := HK1.out; omega⟩, by repeat (first | exact Drawn0.refl _ | apply Drawn0.step)⟩
       ·rw [if_neg c8] at H
        exact absurd H (by simp)
     ·rw [if_neg c5] at H
      exact absurd H (by simp)
    ·rw [if_neg c4] at H
     exact absurd H (by simp)
end Go.Proofs.Ytlcedciocmjggaa.X
