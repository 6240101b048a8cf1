/- Written by a program of this session: what functions of the given program compute, and that their calls do so. -/
import Derived.Test.YtlcedciocmjggaaXx0
import Derived.Test.YtlcedciocmjggaaXg3e0ea
import Derived.Test.YtlcedciocmjggaaXg3f05a
namespace Go.Proofs.Ytlcedciocmjggaa.X
open Go.RowKit Go.Proofs.YtlcedciocmjggaaW.PrintWords Go.Proofs.YtlcedciocmjggaaW.PrintLast Go.Proofs.YtlcedciocmjggaaW.PrintMore
attribute [local go_sem] max2_int min2_int max_two min_two max_three min_three max_four min_four   -- for this text's walks alone
set_option linter.unusedVariables false
set_option linter.unusedSimpArgs false
/-! ### impl_Hyper_singles: function 111 -/
def impl_Hyper_singles.l0 : Nat → List Int → List Int → Int → Int → Option (List Int)
  | 0, _, _, _, _ => none
  | k + 1, x5, x11, x12, x13 => if x13 < x12 then (if 0 ≤ x13 then (if x13 < (x11.length : Int) then (if (rd x11 x13) = 1 then (if x5.length < 17592186044416 then (impl_Hyper_singles.l0 k (x5 ++ [x13]) x11 x12 (wrap64 (x13 + 1))) else (none)) else (impl_Hyper_singles.l0 k x5 x11 x12 (wrap64 (x13 + 1)))) else (none)) else (none)) else (some x5)
def impl_Hyper_singles.f (k : Nat) (a0_0 : Int) (l0_1 : List (List Int)) (l1 : List Bool) : Option (List Int) := (impl_Hyper_degrees.f k a0_0 l0_1 l1).bind fun t1039 => (impl_Hyper_singles.l0 k (([] : List Int)) t1039 (t1039.length : Int) 0)
theorem impl_Hyper_singles.mono_l : ∀ k, (∀ y0 y1 y2 y3, LeO (impl_Hyper_singles.l0 k y0 y1 y2 y3) (impl_Hyper_singles.l0 (k + 1) y0 y1 y2 y3))
  | 0 => fun _ _ _ _ r h => by simp [impl_Hyper_singles.l0] at h
  | k + 1 => by
    have ih0 := impl_Hyper_singles.mono_l k
    · intro y0 y1 y2 y3
      unfold impl_Hyper_singles.l0
      repeat' first
      | (with_reducible exact ih0 _ _ _ _)
      | (with_reducible exact impl_Hyper_degrees.mono _ _ _ _)
      | (with_reducible exact LeO.refl _)
      | (with_reducible exact LeO.none _)
      | (with_reducible refine LeO.ite ?_ ?_)
      | (with_reducible refine LeO.bind ?_ (fun _ => ?_))
      | exact ih0 _ _ _ _
      | exact impl_Hyper_degrees.mono _ _ _ _
      | exact LeO.none _
      | refine LeO.ite ?_ ?_
      | refine LeO.bind ?_ (fun _ => ?_)
theorem impl_Hyper_singles.mono : ∀ a0 a1 a2 k, LeO (impl_Hyper_singles.f k a0 a1 a2) (impl_Hyper_singles.f (k + 1) a0 a1 a2) := by
  intro a0 a1 a2 k
  have ih0 := impl_Hyper_singles.mono_l k
  unfold impl_Hyper_singles.f
  repeat' first
      | (with_reducible exact ih0 _ _ _ _)
      | (with_reducible exact impl_Hyper_degrees.mono _ _ _ _)
      | (with_reducible exact LeO.refl _)
      | (with_reducible exact LeO.none _)
      | (with_reducible refine LeO.ite ?_ ?_)
      | (with_reducible refine LeO.bind ?_ (fun _ => ?_))
      | exact ih0 _ _ _ _
      | exact impl_Hyper_degrees.mono _ _ _ _
      | exact LeO.none _
      | refine LeO.ite ?_ ?_
      | refine LeO.bind ?_ (fun _ => ?_)
noncomputable def impl_Hyper_singles.L0 (y0 : List Int) (y1 : List Int) (y2 : Int) (y3 : Int) : Option (List Int) := lim fun k => impl_Hyper_singles.l0 k y0 y1 y2 y3
theorem impl_Hyper_singles.L0_sup (y0 : List Int) (y1 : List Int) (y2 : Int) (y3 : Int) : Sup (fun k => impl_Hyper_singles.l0 k y0 y1 y2 y3) (impl_Hyper_singles.L0 y0 y1 y2 y3) := Sup.of_mono fun k => impl_Hyper_singles.mono_l k y0 y1 y2 y3
noncomputable def impl_Hyper_singles.F (a0_0 : Int) (l0_1 : List (List Int)) (l1 : List Bool) : Option (List Int) := lim fun k => impl_Hyper_singles.f k a0_0 l0_1 l1
theorem impl_Hyper_singles.F_sup (a0_0 : Int) (l0_1 : List (List Int)) (l1 : List Bool) : Sup (fun k => impl_Hyper_singles.f k a0_0 l0_1 l1) (impl_Hyper_singles.F a0_0 l0_1 l1) := Sup.of_mono fun k => impl_Hyper_singles.mono a0_0 l0_1 l1 k
theorem impl_Hyper_singles.L0_eq (x5 : List Int) (x11 : List Int) (x12 : Int) (x13 : Int) : impl_Hyper_singles.L0 x5 x11 x12 x13 = if x13 < x12 then (if 0 ≤ x13 then (if x13 < (x11.length : Int) then (if (rd x11 x13) = 1 then (if x5.length < 17592186044416 then (impl_Hyper_singles.L0 (x5 ++ [x13]) x11 x12 (wrap64 (x13 + 1))) else (none)) else (impl_Hyper_singles.L0 x5 x11 x12 (wrap64 (x13 + 1)))) else (none)) else (none)) else (some x5) := by
  refine Sup.unique (impl_Hyper_singles.L0_sup x5 x11 x12 x13) (Sup.shift (fun k => impl_Hyper_singles.mono_l k x5 x11 x12 x13) (Sup.congr (g' := fun k => if x13 < x12 then (if 0 ≤ x13 then (if x13 < (x11.length : Int) then (if (rd x11 x13) = 1 then (if x5.length < 17592186044416 then (impl_Hyper_singles.l0 k (x5 ++ [x13]) x11 x12 (wrap64 (x13 + 1))) else (none)) else (impl_Hyper_singles.l0 k x5 x11 x12 (wrap64 (x13 + 1)))) else (none)) else (none)) else (some x5)) (fun k => by first | rfl | simp only [impl_Hyper_singles.l0]) ?_))
  repeat' first
    | (with_reducible exact impl_Hyper_singles.L0_sup _ _ _ _)
    | (with_reducible exact impl_Hyper_degrees.F_sup _ _ _)
    | (with_reducible refine Sup.ite ?_ ?_)
    | (with_reducible refine Sup.bind ?_ (fun _ => ?_))
    | (with_reducible exact Sup.const _)
    | exact impl_Hyper_singles.L0_sup _ _ _ _
    | exact impl_Hyper_degrees.F_sup _ _ _
    | exact Sup.const _
theorem impl_Hyper_singles.F_eq (a0_0 : Int) (l0_1 : List (List Int)) (l1 : List Bool) : impl_Hyper_singles.F a0_0 l0_1 l1 = (impl_Hyper_degrees.F a0_0 l0_1 l1).bind fun t1039 => (impl_Hyper_singles.L0 (([] : List Int)) t1039 (t1039.length : Int) 0) := by
  refine Sup.unique (impl_Hyper_singles.F_sup a0_0 l0_1 l1) (Sup.congr (g' := fun k => (impl_Hyper_degrees.f k a0_0 l0_1 l1).bind fun t1039 => (impl_Hyper_singles.l0 k (([] : List Int)) t1039 (t1039.length : Int) 0)) (fun k => by first | rfl | simp only [impl_Hyper_singles.f]) ?_)
  repeat' first
    | (with_reducible exact impl_Hyper_singles.L0_sup _ _ _ _)
    | (with_reducible exact impl_Hyper_degrees.F_sup _ _ _)
    | (with_reducible refine Sup.ite ?_ ?_)
    | (with_reducible refine Sup.bind ?_ (fun _ => ?_))
    | (with_reducible exact Sup.const _)
    | exact impl_Hyper_singles.L0_sup _ _ _ _
    | exact impl_Hyper_degrees.F_sup _ _ _
    | exact Sup.const _
set_option maxHeartbeats 8000000 in
set_option maxRecDepth 100000 in
theorem impl_Hyper_singles.calls (k : Nat) (gb0_ : Nat) (a0_0 : Int) (A0_1 : Option Addr) (c0_1 : Nat) (l0_1 : List (List Int)) (A1 : Option Addr) (c1 : Nat) (l1 : List Bool) (r : List Int) (w : World) (hr0_1 : Kd.C (Kd.slice 3 (Kd.int .i64)) w A0_1 l0_1.length l0_1) (hc0_1 : l0_1.length ≤ c0_1) (hr1 : Kd.C Kd.bool w A1 l1.length l1) (hc1 : l1.length ≤ c1) (hb0_ : w.heap[gb0_]? = some (.cells #[.int .i64 a0_0, .slice A0_1 l0_1.length c0_1] 29 (0, 0))) (h : impl_Hyper_singles.f k a0_0 l0_1 l1 = some r) :
    Calls Try.prog 111 #[.pointer (some ⟨gb0_, 0, none⟩), .slice A1 l1.length c1] w fun e w' => ∃ v0_ : Value, e = .returned (v0_) ∧ Kd.R (Kd.int .i64) 3 w' w.heap.size (fun _ => True) v0_ r ∧ Below w.heap.size w w' := by
  have HR0_1 := Aside0.mk hr0_1
  have HC0_1 := Aside0.mk hc0_1
  clear hr0_1 hc0_1
  have HR1 := Aside0.mk hr1
  have HC1 := Aside0.mk hc1
  clear hr1 hc1
  have BK0 := Aside0.mk hb0_
  clear hb0_
  have HB := Aside0.mk (Below.refl w.heap.size w)
  have H : ((impl_Hyper_degrees.f k a0_0 l0_1 l1).bind fun t1039 => (impl_Hyper_singles.l0 k (([] : List Int)) t1039 (t1039.length : Int) 0)) = some r := h
  clear h
  obtain ⟨y1036, hy1036⟩ : ∃ y_ : List Int, y_ = (([] : List Int)) := ⟨_, rfl⟩
  replace H : ((impl_Hyper_degrees.f k a0_0 l0_1 l1).bind fun t1039 => (impl_Hyper_singles.l0 k y1036 t1039 (t1039.length : Int) 0)) = some r := by first | (rw [hy1036]; with_reducible exact H) | (have H2_ := (Option.bind_some _ _).symm.trans H; rw [hy1036]; with_reducible exact H2_) | (have H2_ := (Option.bind_some _ _).symm.trans H; with_reducible exact H2_) | with_reducible exact H | (rw [hy1036]; exact H) | exact H
  have Ny1036 := Aside0.mk hy1036
  clear hy1036
  replace H := Option.bind_eq_some_iff.mp H
  obtain ⟨t1039, A30, H⟩ := H
  replace H : (impl_Hyper_singles.l0 k y1036 t1039 (t1039.length : Int) 0) = some r := H
  have A3 := Aside0.mk A30
  clear A30
  have H' := Aside0.mk H
  clear H
  go_enter Try.func111, Try.ntmps111
  go_wp2_with (first | ((with_reducible refine gate_dst (N := 8) rfl ?_); refine Kd.R_lit (Kd.int .i64) _ 3 ?hg (N := 8) ?hd (xs := ([] : List Int)) (inner := []) (ok := fun _ => True) (okp := fun _ => True) ?hr ?hp (fun _ hk => hk) trivial (Below.refl _ _) (Nat.le_refl _) (by simp) ?_; (case hd => rfl); (case hg => rfl); (case hr => first | (go_simp; done) | (go_simp; rfl)); (case hp => exact (Reps.none _ _)); intro v1037 w4 ho5 hb hg_ hnew_; clear hg_ hnew_; (first | rw [← Ny1036.out] at ho5 | (simp only [Int.reduceToNat] at ho5; rw [← Ny1036.out] at ho5)); have n0_ := Aside0.mk (Kd.R_lower ho5 (below_size (by repeat (first | (with_reducible first | exact HB.out | apply below_alloc | apply pw_below_drewN | apply below_drew1 | refine below_set ?_ GE0.out) | exact HB.out)))); have n1_ := Aside0.mk (blk_below (g := gb0_) (o := .cells #[.int .i64 a0_0, .slice A0_1 l0_1.length c0_1] 29 (0, 0)) (by (with_reducible repeat (first | refine blk_drewN ?_ _ | refine blk_drew ?_ | refine blk_alloc ?_ _)); exact BK0.out) hb); have n2_ := Aside0.mk (below_step (by repeat (first | (with_reducible first | exact HB.out | apply below_alloc | apply pw_below_drewN | apply below_drew1 | refine below_set ?_ GE0.out) | exact HB.out)) hb); clear BK0; clear HB; have HO1038 := n0_; have BK0 := n1_; have HB := n2_; clear n0_ n1_ n2_; clear hb ho5) | ((with_reducible refine gate_callee (f := 72) rfl ?_); refine goesL_ (some 11) rfl rfl Try.func72 (by kernel_rfl) rfl #[.pointer (some ⟨gb0_, 0, none⟩), .slice A1 l1.length c1] rfl (by (try simp only [List.map_toArray, List.map_cons, List.map_nil]); first | done | rfl | (simp only [List.length_drop, List.length_take]; rfl)) ?_; (with_reducible refine (impl_Hyper_degrees.calls k gb0_ a0_0 A0_1 c0_1 l0_1 _ _ l1 t1039 _ ?side1 ?side2 ?side3 ?side4 ?side5 A3.out).mono ?_); (case side1 => repeat (first | exact (Kd.C_below HR0_1.out HB.out) | (with_reducible refine Kd.C_alloc ?_ _) | (with_reducible refine Kd.C_drewN ?_ _) | (with_reducible refine Kd.C_drew ?_))); (case side2 => exact HC0_1.out); (case side3 => repeat (first | exact (Kd.C_below HR1.out HB.out) | (with_reducible refine Kd.C_alloc ?_ _) | (with_reducible refine Kd.C_drewN ?_ _) | (with_reducible refine Kd.C_drew ?_))); (case side4 => exact HC1.out); (case side5 => exact (by (with_reducible repeat (first | refine blk_drewN ?_ _ | refine blk_drew ?_ | refine blk_alloc ?_ _)); exact BK0.out)); rintro e w6 ⟨v1040, rfl, ho0, hb⟩; refine ⟨_, rfl, ?_⟩; have n0_ := Aside0.mk (Kd.R_elder' (by (with_reducible repeat (first | apply Kd.R_alloc | apply Kd.R_drewN | apply Kd.R_drew)); exact HO1038.out) (Kd.R_base ho0) hb); have n1_ := Aside0.mk (Kd.R_lower (Kd.R_new' ho0 (Kd.R_lt (by (with_reducible repeat (first | apply Kd.R_alloc | apply Kd.R_drewN | apply Kd.R_drew)); exact HO1038.out))) (below_size (by repeat (first | (with_reducible first | exact HB.out | apply below_alloc | apply pw_below_drewN | apply below_drew1 | refine below_set ?_ GE0.out) | exact HB.out)))); have n2_ := Aside0.mk (blk_below (g := gb0_) (o := .cells #[.int .i64 a0_0, .slice A0_1 l0_1.length c0_1] 29 (0, 0)) (by (with_reducible repeat (first | refine blk_drewN ?_ _ | refine blk_drew ?_ | refine blk_alloc ?_ _)); exact BK0.out) hb); have n3_ := Aside0.mk (below_step (by repeat (first | (with_reducible first | exact HB.out | apply below_alloc | apply pw_below_drewN | apply below_drew1 | refine below_set ?_ GE0.out) | exact HB.out)) hb); clear HO1038; clear BK0; clear HB; have HO1038 := n0_; have HO1041 := n1_; have BK0 := n2_; have HB := n3_; clear n0_ n1_ n2_ n3_; (try clear hb); (try clear hb2); (try clear hk); (try clear hi); (try clear ho0); obtain ⟨Ao7, co7, eo7⟩ := Kd.R_slice HO1041.out; subst eo7))
  go_loopg [5, 13] k (fun kq v5 v13 w' => ∃ (x5_1 : List Int) (x13_1 : Int), v13 = .int .i64 x13_1 ∧ Aside0 (impl_Hyper_singles.l0 kq x5_1 t1039 (t1039.length : Int) x13_1 = some r) ∧ Aside0 (kq ≤ k) ∧ Aside0 (Kd.R (Kd.int .i64) 3 w' w.heap.size (fun k_ => some k_ ≠ ((.slice Ao7 t1039.length co7) : Value).ownBlock) v5 x5_1) ∧ Aside0 (Kd.R (Kd.int .i64) 3 w' w.heap.size (fun k_ => some k_ ≠ (v5 : Value).ownBlock) (.slice Ao7 t1039.length co7) t1039) ∧ Aside0 (w'.heap[gb0_]? = some (.cells #[.int .i64 a0_0, (.slice A0_1 l0_1.length c0_1)] 29 (0, 0))) ∧ Aside0 (Below w.heap.size w w'))
  case atStart => exact ⟨(y1036), (0), (by first | rfl | (simp; done) | (simp [*]; done)), H', ⟨Nat.le_refl _⟩, ⟨by (with_reducible repeat (first | apply Kd.R_alloc | apply Kd.R_drewN | apply Kd.R_drew)); exact Kd.R_mono HO1038.out (fun _ hk => hk.2)⟩, ⟨by (with_reducible repeat (first | apply Kd.R_alloc | apply Kd.R_drewN | apply Kd.R_drew)); exact Kd.R_mono HO1041.out (fun _ hk => hk.2)⟩, ⟨by (with_reducible repeat (first | refine blk_drewN ?_ _ | refine blk_drew ?_ | refine blk_alloc ?_ _)); exact BK0.out⟩, ⟨by repeat (first | (with_reducible first | exact HB.out | apply below_alloc | apply pw_below_drewN | apply below_drew1 | refine below_set ?_ GE0.out) | exact HB.out)⟩⟩
  case round =>
   clear H'
   try clear c1
   try clear p2
   try clear c7
   obtain ⟨x5_1, x13_1, rfl, HA, HK1, HO_5, HO_11, BK0, HB⟩ := hrel
   cases gk with
   | zero => exact absurd HA.out (by simp [impl_Hyper_singles.l0])
   | succ k1 =>
    have H := HA.out
    clear HA
    simp only [impl_Hyper_singles.l0] at H
    by_cases c8 : x13_1 < (t1039.length : Int)
    ·rw [if_pos c8] at H
     have c8b0 : decide (x13_1 < (t1039.length : Int)) = true := decide_eq_true c8
     clear c8
     by_cases c9 : 0 ≤ x13_1
     ·rw [if_pos c9] at H
      have c9b0 : decide (0 ≤ x13_1) = true := decide_eq_true c9
      clear c9
      by_cases c10 : x13_1 < (t1039.length : Int)
      ·rw [if_pos c10] at H
       have c10b0 : decide (x13_1 < (t1039.length : Int)) = true := decide_eq_true c10
       clear c10
       by_cases c11 : (rd t1039 x13_1) = 1
       ·rw [if_pos c11] at H
        have c11b0 : ((rd t1039 x13_1) == 1) = true := beq_iff_eq.mpr c11
        have c11b1 : ((rd t1039 x13_1) != 1) = false := bne_eq_false_iff_eq.mpr c11
        clear c11
        by_cases c12 : x5_1.length < 17592186044416
        ·rw [if_pos c12] at H
         have LMc12 := Aside0.mk c12
         clear c12
         obtain ⟨y1043, hy1043⟩ : ∃ y_ : List Int, y_ = (x5_1 ++ [x13_1]) := ⟨_, rfl⟩
         replace H : (impl_Hyper_singles.l0 k1 y1043 t1039 (t1039.length : Int) (wrap64 (x13_1 + 1))) = some r := by first | (rw [hy1043]; with_reducible exact H) | (have H2_ := (Option.bind_some _ _).symm.trans H; rw [hy1043]; with_reducible exact H2_) | (have H2_ := (Option.bind_some _ _).symm.trans H; with_reducible exact H2_) | with_reducible exact H | (rw [hy1043]; exact H) | exact H
         have Ny1043 := Aside0.mk hy1043
         clear hy1043
         have H' := Aside0.mk H
         clear H
         have p1042 : 0 ≤ (x13_1 : Int) := of_decide_eq_true (by first | (with_reducible assumption) | assumption)
         have q1042 : x13_1 < (t1039.length : Int) := of_decide_eq_true (by first | (with_reducible assumption) | assumption)
         obtain ⟨ad1042, e1042, hx1042_0⟩ := Kd.at_int (Kd.R_reads' HO_11.out).2.2 x13_1 p1042 q1042
         cases e1042
         replace p1042 := eq_true p1042
         replace q1042 := eq_true q1042
         go_wp2_with (first | ((with_reducible refine gate_builtin (b := .append) (xs := #[.tmp 20, .tmp 22]) rfl ?_); at_builtin; refine Kd.R_append (Kd.int .i64) (w0 := w) w.heap.size rfl (.tmp 20) (.tmp 22) 26 3 (.int .i64 0) 8 rfl Try.underlying26 info3 rfl (by decide) (by omega) u5 x5_1 x13_1 [.int .i64 x13_1] (fun k_ => some k_ ≠ (.slice (some ad1042) t1039.length co7 : Value).ownBlock) (fun _ => False) rfl rfl ?aP (fun _ hk => hk.elim) ?aF ?aO ?aB ?aS ?aL ?_; (case aP => exact rfl); (case aB => exact (by repeat (first | (with_reducible first | exact HB.out | apply below_alloc | apply pw_below_drewN | apply below_drew1 | refine below_set ?_ GE0.out) | exact HB.out))); (case aF => exact (fun k_ hk => Kd.fresh' (Kd.R_lt (by (with_reducible repeat (first | apply Kd.R_alloc | apply Kd.R_drewN | apply Kd.R_drew)); exact HO_11.out)) k_ hk)); (case aO => exact (by (with_reducible repeat (first | apply Kd.R_alloc | apply Kd.R_drewN | apply Kd.R_drew)); exact HO_5.out)); (case aS => exact (below_size (by repeat (first | (with_reducible first | exact HB.out | apply below_alloc | apply pw_below_drewN | apply below_drew1 | refine below_set ?_ GE0.out) | exact HB.out)))); (case aL => have := LMc12.out; omega); intro v1044 w13 ho hb hg hat; rw [← Ny1043.out] at ho; have n0_ := Aside0.mk (Kd.R_after (ok := (fun _ => True)) (by (with_reducible repeat (first | apply Kd.R_alloc | apply Kd.R_drewN | apply Kd.R_drew)); exact Kd.R_mono HO_11.out (fun _ hk => ⟨trivial, hk⟩)) hg hat); have n1_ := Aside0.mk (blk_grown (g := gb0_) (o := .cells #[.int .i64 a0_0, .slice A0_1 l0_1.length c0_1] 29 (0, 0)) (by (with_reducible repeat (first | refine blk_drewN ?_ _ | refine blk_drew ?_ | refine blk_alloc ?_ _)); exact BK0.out) hg (Kd.R_ne HO_5.out BK0.out (by decide))); have n2_ := Aside0.mk (hb); have n3_ := Aside0.mk (ho); clear HO_11; clear BK0; clear HB; clear HO_5; have HO_11 := n0_; have BK0 := n1_; have HB := n2_; have HO1045 := n3_; clear n0_ n1_ n2_ n3_; clear ho hb hg hat))
         go_roundg k1
         case measure => have := HK1.out; omega
         case rel => exact ⟨(y1043), (wrap64 (x13_1 + 1)), (by first | rfl | (simp; done) | (simp [*]; done)), H', ⟨by have := HK1.out; omega⟩, ⟨by (with_reducible repeat (first | apply Kd.R_alloc | apply Kd.R_drewN | apply Kd.R_drew)); exact HO1045.out⟩, ⟨by (with_reducible repeat (first | apply Kd.R_alloc | apply Kd.R_drewN | apply Kd.R_drew)); exact Kd.R_mono HO_11.out (fun _ hk => hk.2)⟩, ⟨by (with_reducible repeat (first | refine blk_drewN ?_ _ | refine blk_drew ?_ | refine blk_alloc ?_ _)); exact BK0.out⟩, ⟨by repeat (first | (with_reducible first | exact HB.out | apply below_alloc | apply pw_below_drewN | apply below_drew1 | refine below_set ?_ GE0.out) | exact HB.out)⟩⟩
        ·rw [if_neg c12] at H
         exact absurd H (by simp)
       ·rw [if_neg c11] at H
        have c11b0 : ((rd t1039 x13_1) == 1) = false := beq_eq_false_iff_ne.mpr c11
        have c11b1 : ((rd t1039 x13_1) != 1) = true := bne_iff_ne.mpr c11
        have H' := Aside0.mk H
        clear H
        have p1042 : 0 ≤ (x13_1 : Int) := of_decide_eq_true (by first | (with_reducible assumption) | assumption)
        have q1042 : x13_1 < (t1039.length : Int) := of_decide_eq_true (by first | (with_reducible assumption) | assumption)
        obtain ⟨ad1042, e1042, hx1042_0⟩ := Kd.at_int (Kd.R_reads' HO_11.out).2.2 x13_1 p1042 q1042
        cases e1042
        replace p1042 := eq_true p1042
        replace q1042 := eq_true q1042
        go_wp2
        go_roundg k1
        case measure => have := HK1.out; omega
        case rel => exact ⟨(x5_1), (wrap64 (x13_1 + 1)), (by first | rfl | (simp; done) | (simp [*]; done)), H', ⟨by have := HK1.out; omega⟩, ⟨by (with_reducible repeat (first | apply Kd.R_alloc | apply Kd.R_drewN | apply Kd.R_drew)); exact HO_5.out⟩, ⟨by (with_reducible repeat (first | apply Kd.R_alloc | apply Kd.R_drewN | apply Kd.R_drew)); exact HO_11.out⟩, ⟨by (with_reducible repeat (first | refine blk_drewN ?_ _ | refine blk_drew ?_ | refine blk_alloc ?_ _)); exact BK0.out⟩, ⟨by repeat (first | (with_reducible first | exact HB.out | apply below_alloc | apply pw_below_drewN | apply below_drew1 | refine below_set ?_ GE0.out) | exact HB.out)⟩⟩
      ·rw [if_neg c10] at H
       exact absurd H (by simp)
     ·rw [if_neg c9] at H
      exact absurd H (by simp)
    ·rw [if_neg c8] at H
     have c8b0 : decide (x13_1 < (t1039.length : Int)) = false := decide_eq_false c8
     clear c8
     obtain rfl := Option.some.inj H
     go_wp2
     go_ret
     exact ⟨_, by first | rfl | (simp [errW_none, errW_some] <;> rfl) | (simp [*, errW_none, errW_some] <;> rfl), by (with_reducible repeat (first | apply Kd.R_alloc | apply Kd.R_drewN | apply Kd.R_drew)); exact Kd.R_mono HO_5.out (fun _ hk => trivial), by repeat (first | (with_reducible first | exact HB.out | apply below_alloc | apply pw_below_drewN | apply below_drew1 | refine below_set ?_ GE0.out) | exact HB.out)⟩
/-! ### impl_Hyper_edgeAt: function 112 -/
def impl_Hyper_edgeAt.l0 : Nat → List Bool → Int → Int → Int → List (List Int) → Option (Int)
  | 0, _, _, _, _, _ => none
  | k + 1, x1, x2, x7, x1000, x1001 => if 0 ≤ x7 then (if x7 < (x1.length : Int) then (if rdOf false x1 x7 = true then (impl_Hyper_edgeAt.l0 k x1 x2 (wrap64 (x7 + 1)) x1000 x1001) else (if x7 < (x1001.length : Int) then ((slices_Contains_int_int.f k (rd_L1 x1001 x7) x2).bind fun t1048 => (if t1048 = true then (some x7) else (impl_Hyper_edgeAt.l0 k x1 x2 (wrap64 (x7 + 1)) x1000 x1001))) else (none))) else (none)) else (none)
def impl_Hyper_edgeAt.f (k : Nat) (a0_0 : Int) (l0_1 : List (List Int)) (l1 : List Bool) (a2 : Int) : Option (Int) := impl_Hyper_edgeAt.l0 k l1 a2 0 a0_0 l0_1
theorem impl_Hyper_edgeAt.mono_l : ∀ k, (∀ y0 y1 y2 y3 y4, LeO (impl_Hyper_edgeAt.l0 k y0 y1 y2 y3 y4) (impl_Hyper_edgeAt.l0 (k + 1) y0 y1 y2 y3 y4))
  | 0 => fun _ _ _ _ _ r h => by simp [impl_Hyper_edgeAt.l0] at h
  | k + 1 => by
    have ih0 := impl_Hyper_edgeAt.mono_l k
    · intro y0 y1 y2 y3 y4
      unfold impl_Hyper_edgeAt.l0
      repeat' first
      | (with_reducible exact ih0 _ _ _ _ _)
      | (with_reducible exact slices_Contains_int_int.mono _ _ _)
      | (with_reducible exact LeO.refl _)
      | (with_reducible exact LeO.none _)
      | (with_reducible refine LeO.ite ?_ ?_)
      | (with_reducible refine LeO.bind ?_ (fun _ => ?_))
      | exact ih0 _ _ _ _ _
      | exact slices_Contains_int_int.mono _ _ _
      | exact LeO.none _
      | refine LeO.ite ?_ ?_
      | refine LeO.bind ?_ (fun _ => ?_)
theorem impl_Hyper_edgeAt.mono : ∀ a0 a1 a2 a3 k, LeO (impl_Hyper_edgeAt.f k a0 a1 a2 a3) (impl_Hyper_edgeAt.f (k + 1) a0 a1 a2 a3) := by
  intro a0 a1 a2 a3 k
  have ih0 := impl_Hyper_edgeAt.mono_l k
  unfold impl_Hyper_edgeAt.f
  repeat' first
      | (with_reducible exact ih0 _ _ _ _ _)
      | (with_reducible exact slices_Contains_int_int.mono _ _ _)
      | (with_reducible exact LeO.refl _)
      | (with_reducible exact LeO.none _)
      | (with_reducible refine LeO.ite ?_ ?_)
      | (with_reducible refine LeO.bind ?_ (fun _ => ?_))
      | exact ih0 _ _ _ _ _
      | exact slices_Contains_int_int.mono _ _ _
      | exact LeO.none _
      | refine LeO.ite ?_ ?_
      | refine LeO.bind ?_ (fun _ => ?_)
noncomputable def impl_Hyper_edgeAt.L0 (y0 : List Bool) (y1 : Int) (y2 : Int) (y3 : Int) (y4 : List (List Int)) : Option (Int) := lim fun k => impl_Hyper_edgeAt.l0 k y0 y1 y2 y3 y4
theorem impl_Hyper_edgeAt.L0_sup (y0 : List Bool) (y1 : Int) (y2 : Int) (y3 : Int) (y4 : List (List Int)) : Sup (fun k => impl_Hyper_edgeAt.l0 k y0 y1 y2 y3 y4) (impl_Hyper_edgeAt.L0 y0 y1 y2 y3 y4) := Sup.of_mono fun k => impl_Hyper_edgeAt.mono_l k y0 y1 y2 y3 y4
noncomputable def impl_Hyper_edgeAt.F (a0_0 : Int) (l0_1 : List (List Int)) (l1 : List Bool) (a2 : Int) : Option (Int) := lim fun k => impl_Hyper_edgeAt.f k a0_0 l0_1 l1 a2
theorem impl_Hyper_edgeAt.F_sup (a0_0 : Int) (l0_1 : List (List Int)) (l1 : List Bool) (a2 : Int) : Sup (fun k => impl_Hyper_edgeAt.f k a0_0 l0_1 l1 a2) (impl_Hyper_edgeAt.F a0_0 l0_1 l1 a2) := Sup.of_mono fun k => impl_Hyper_edgeAt.mono a0_0 l0_1 l1 a2 k
theorem impl_Hyper_edgeAt.L0_eq (x1 : List Bool) (x2 : Int) (x7 : Int) (x1000 : Int) (x1001 : List (List Int)) : impl_Hyper_edgeAt.L0 x1 x2 x7 x1000 x1001 = if 0 ≤ x7 then (if x7 < (x1.length : Int) then (if rdOf false x1 x7 = true then (impl_Hyper_edgeAt.L0 x1 x2 (wrap64 (x7 + 1)) x1000 x1001) else (if x7 < (x1001.length : Int) then ((slices_Contains_int_int.F (rd_L1 x1001 x7) x2).bind fun t1048 => (if t1048 = true then (some x7) else (impl_Hyper_edgeAt.L0 x1 x2 (wrap64 (x7 + 1)) x1000 x1001))) else (none))) else (none)) else (none) := by
  refine Sup.unique (impl_Hyper_edgeAt.L0_sup x1 x2 x7 x1000 x1001) (Sup.shift (fun k => impl_Hyper_edgeAt.mono_l k x1 x2 x7 x1000 x1001) (Sup.congr (g' := fun k => if 0 ≤ x7 then (if x7 < (x1.length : Int) then (if rdOf false x1 x7 = true then (impl_Hyper_edgeAt.l0 k x1 x2 (wrap64 (x7 + 1)) x1000 x1001) else (if x7 < (x1001.length : Int) then ((slices_Contains_int_int.f k (rd_L1 x1001 x7) x2).bind fun t1048 => (if t1048 = true then (some x7) else (impl_Hyper_edgeAt.l0 k x1 x2 (wrap64 (x7 + 1)) x1000 x1001))) else (none))) else (none)) else (none)) (fun k => by first | rfl | simp only [impl_Hyper_edgeAt.l0]) ?_))
  repeat' first
    | (with_reducible exact impl_Hyper_edgeAt.L0_sup _ _ _ _ _)
    | (with_reducible exact slices_Contains_int_int.F_sup _ _)
    | (with_reducible refine Sup.ite ?_ ?_)
    | (with_reducible refine Sup.bind ?_ (fun _ => ?_))
    | (with_reducible exact Sup.const _)
    | exact impl_Hyper_edgeAt.L0_sup _ _ _ _ _
    | exact slices_Contains_int_int.F_sup _ _
    | exact Sup.const _
theorem impl_Hyper_edgeAt.F_eq (a0_0 : Int) (l0_1 : List (List Int)) (l1 : List Bool) (a2 : Int) : impl_Hyper_edgeAt.F a0_0 l0_1 l1 a2 = impl_Hyper_edgeAt.L0 l1 a2 0 a0_0 l0_1 := by
  refine Sup.unique (impl_Hyper_edgeAt.F_sup a0_0 l0_1 l1 a2) (Sup.congr (g' := fun k => impl_Hyper_edgeAt.l0 k l1 a2 0 a0_0 l0_1) (fun k => by first | rfl | simp only [impl_Hyper_edgeAt.f]) ?_)
  repeat' first
    | (with_reducible exact impl_Hyper_edgeAt.L0_sup _ _ _ _ _)
    | (with_reducible exact slices_Contains_int_int.F_sup _ _)
    | (with_reducible refine Sup.ite ?_ ?_)
    | (with_reducible refine Sup.bind ?_ (fun _ => ?_))
    | (with_reducible exact Sup.const _)
    | exact impl_Hyper_edgeAt.L0_sup _ _ _ _ _
    | exact slices_Contains_int_int.F_sup _ _
    | exact Sup.const _
set_option maxHeartbeats 8000000 in
set_option maxRecDepth 100000 in
theorem impl_Hyper_edgeAt.calls (k : Nat) (gb0_ : Nat) (a0_0 : Int) (A0_1 : Option Addr) (c0_1 : Nat) (l0_1 : List (List Int)) (A1 : Option Addr) (c1 : Nat) (l1 : List Bool) (a2 : Int) (r : Int) (w : World) (hr0_1 : Kd.C (Kd.slice 3 (Kd.int .i64)) w A0_1 l0_1.length l0_1) (hc0_1 : l0_1.length ≤ c0_1) (hr1 : Kd.C Kd.bool w A1 l1.length l1) (hc1 : l1.length ≤ c1) (hb0_ : w.heap[gb0_]? = some (.cells #[.int .i64 a0_0, .slice A0_1 l0_1.length c0_1] 29 (0, 0))) (h : impl_Hyper_edgeAt.f k a0_0 l0_1 l1 a2 = some r) :
    Calls Try.prog 112 #[.pointer (some ⟨gb0_, 0, none⟩), .slice A1 l1.length c1, .int .i64 a2] w fun e w' => e = .returned (.int .i64 r) ∧ Drawn0 w w' := by
  have hu22 := Try.underlying22
  have hu26 := Try.underlying26
  have HR0_1 := Aside0.mk hr0_1
  have HC0_1 := Aside0.mk hc0_1
  clear hr0_1 hc0_1
  have HR1 := Aside0.mk hr1
  have HC1 := Aside0.mk hc1
  clear hr1 hc1
  have BK0 := Aside0.mk hb0_
  clear hb0_
  have H : (impl_Hyper_edgeAt.l0 k l1 a2 0 a0_0 l0_1) = some r := h
  clear h
  have H' := Aside0.mk H
  clear H
  go_enter Try.func112, Try.ntmps112
  go_wp2
  go_loopg [7] k (fun kq v7 w' => ∃ (x7_1 : Int), v7 = .int .i64 x7_1 ∧ Aside0 (impl_Hyper_edgeAt.l0 kq l1 a2 x7_1 a0_0 l0_1 = some r) ∧ Aside0 (kq ≤ k) ∧ Drawn0 w w')
  case atStart => exact ⟨(0), (by first | rfl | (simp; done) | (simp [*]; done)), H', ⟨Nat.le_refl _⟩, by repeat (first | exact Drawn0.refl _ | apply Drawn0.step)⟩
  case round =>
   clear H'
   try clear c1
   try clear p2
   obtain ⟨x7_1, rfl, HA, HK1, ⟨m1, rfl⟩⟩ := hrel
   cases gk with
   | zero => exact absurd HA.out (by simp [impl_Hyper_edgeAt.l0])
   | succ k1 =>
    have H := HA.out
    clear HA
    simp only [impl_Hyper_edgeAt.l0] at H
    by_cases c4 : 0 ≤ x7_1
    ·rw [if_pos c4] at H
     have c4b0 : decide (0 ≤ x7_1) = true := decide_eq_true c4
     clear c4
     by_cases c5 : x7_1 < (l1.length : Int)
     ·rw [if_pos c5] at H
      have c5b0 : decide (x7_1 < (l1.length : Int)) = true := decide_eq_true c5
      clear c5
      obtain ⟨bq6, hbq6⟩ : ∃ b_ : Bool, b_ = (rdOf false l1 x7_1) := ⟨_, rfl⟩
      replace H : (if bq6 = true then (impl_Hyper_edgeAt.l0 k1 l1 a2 (wrap64 (x7_1 + 1)) a0_0 l0_1) else (if x7_1 < (l0_1.length : Int) then ((slices_Contains_int_int.f k1 (rd_L1 l0_1 x7_1) a2).bind fun t1048 => (if t1048 = true then (some x7_1) else (impl_Hyper_edgeAt.l0 k1 l1 a2 (wrap64 (x7_1 + 1)) a0_0 l0_1))) else (none))) = some r := by rw [← hbq6] at H; exact H
      have Nbq6 := Aside0.mk hbq6
      clear hbq6
      by_cases c7 : bq6 = true
      ·subst c7
       have H1 : (impl_Hyper_edgeAt.l0 k1 l1 a2 (wrap64 (x7_1 + 1)) a0_0 l0_1) = some r := by rw [if_pos rfl] at H; exact H
       clear H
       have H := H1
       clear H1
       have H' := Aside0.mk H
       clear H
       have p1046 : 0 ≤ (x7_1 : Int) := of_decide_eq_true (by first | (with_reducible assumption) | assumption)
       have q1046 : x7_1 < (l1.length : Int) := of_decide_eq_true (by first | (with_reducible assumption) | assumption)
       obtain ⟨ad1046, e1046, hx1046_0⟩ := Kd.at_bool HR1.out x7_1 p1046 q1046
       (try rw [← Nbq6.out] at hx1046_0)
       cases e1046
       replace p1046 := eq_true p1046
       replace q1046 := eq_true q1046
       go_wp2
       go_roundg k1
       case measure => have := HK1.out; omega
       case rel => exact ⟨(wrap64 (x7_1 + 1)), (by first | rfl | (simp; done) | (simp [*]; done)), H', ⟨by have := HK1.out; omega⟩, by repeat (first | exact Drawn0.refl _ | apply Drawn0.step)⟩
      ·replace c7 := Bool.eq_false_iff.mpr c7
       subst c7
       have H1 : (if x7_1 < (l0_1.length : Int) then ((slices_Contains_int_int.f k1 (rd_L1 l0_1 x7_1) a2).bind fun t1048 => (if t1048 = true then (some x7_1) else (impl_Hyper_edgeAt.l0 k1 l1 a2 (wrap64 (x7_1 + 1)) a0_0 l0_1))) else (none)) = some r := by rw [if_neg (show ¬ (false = true) by decide)] at H; exact H
       clear H
       have H := H1
       clear H1
       by_cases c8 : x7_1 < (l0_1.length : Int)
       ·rw [if_pos c8] at H
        have c8b0 : decide (x7_1 < (l0_1.length : Int)) = true := decide_eq_true c8
        clear c8
        replace H := Option.bind_eq_some_iff.mp H
        obtain ⟨t1048, A90, H⟩ := H
        replace H : (if t1048 = true then (some x7_1) else (impl_Hyper_edgeAt.l0 k1 l1 a2 (wrap64 (x7_1 + 1)) a0_0 l0_1)) = some r := H
        have A9 := Aside0.mk A90
        clear A90
        by_cases c10 : t1048 = true
        ·subst c10
         have H1 : (some x7_1) = some r := by rw [if_pos rfl] at H; exact H
         clear H
         have H := H1
         clear H1
         obtain rfl := Option.some.inj H
         have p1046 : 0 ≤ (x7_1 : Int) := of_decide_eq_true (by first | (with_reducible assumption) | assumption)
         have q1046 : x7_1 < (l1.length : Int) := of_decide_eq_true (by first | (with_reducible assumption) | assumption)
         obtain ⟨ad1046, e1046, hx1046_0⟩ := Kd.at_bool HR1.out x7_1 p1046 q1046
         (try rw [← Nbq6.out] at hx1046_0)
         cases e1046
         replace p1046 := eq_true p1046
         replace q1046 := eq_true q1046
         have hcz11_0 : w.cell? ⟨gb0_, 0, none⟩ = some (.int .i64 a0_0) := (blk_cell BK0.out 0).trans rfl
         have hcz11_1 : w.cell? ⟨gb0_, 1, none⟩ = some (.slice A0_1 l0_1.length c0_1) := (blk_cell BK0.out 1).trans rfl
         have hfz11_0 := blk_frozen BK0.out 0
         have hfz11_1 := blk_frozen BK0.out 1
         have p1047 : 0 ≤ (x7_1 : Int) := of_decide_eq_true (by first | (with_reducible assumption) | assumption)
         have q1047 : x7_1 < (l0_1.length : Int) := of_decide_eq_true (by first | (with_reducible assumption) | assumption)
         obtain ⟨ad1047, A1047_0, c1047_0, e1047, hx1047_0, hl1047_0, hi1047_0⟩ := at_L1 HR0_1.out x7_1 p1047 q1047
         cases e1047
         have HR1047_0 := Aside0.mk hi1047_0
         have HC1047_0 := Aside0.mk hl1047_0
         clear hi1047_0 hl1047_0
         replace p1047 := eq_true p1047
         replace q1047 := eq_true q1047
         go_wp2_with (first | (go_at_call 77; (with_reducible refine (slices_Contains_int_int.calls k1 _ _ (rd_L1 l0_1 x7_1) a2 true _ ?side1 ?side2 A9.out).mono ?_); (case side1 => repeat (first | exact HR1047_0.out | (with_reducible refine Kd.C_alloc ?_ _) | (with_reducible refine Kd.C_drewN ?_ _) | (with_reducible refine Kd.C_drew ?_))); (case side2 => exact HC1047_0.out); rintro e w' ⟨rfl, ⟨nd, rfl⟩⟩))
         go_ret
         exact ⟨by first | rfl | (simp; done) | (simp [*]; done), by repeat (first | exact Drawn0.refl _ | apply Drawn0.step)⟩
        ·replace c10 := Bool.eq_false_iff.mpr c10
         subst c10
         have H1 : (impl_Hyper_edgeAt.l0 k1 l1 a2 (wrap64 (x7_1 + 1)) a0_0 l0_1) = some r := by rw [if_neg (show ¬ (false = true) by decide)] at H; exact H
         clear H
         have H := H1
         clear H1
         have H' := Aside0.mk H
         clear H
         have p1046 : 0 ≤ (x7_1 : Int) := of_decide_eq_true (by first | (with_reducible assumption) | assumption)
         have q1046 : x7_1 < (l1.length : Int) := of_decide_eq_true (by first | (with_reducible assumption) | assumption)
         obtain ⟨ad1046, e1046, hx1046_0⟩ := Kd.at_bool HR1.out x7_1 p1046 q1046
         (try rw [← Nbq6.out] at hx1046_0)
         cases e1046
         replace p1046 := eq_true p1046
         replace q1046 := eq_true q1046
         have hcz12_0 : w.cell? ⟨gb0_, 0, none⟩ = some (.int .i64 a0_0) := (blk_cell BK0.out 0).trans rfl
         have hcz12_1 : w.cell? ⟨gb0_, 1, none⟩ = some (.slice A0_1 l0_1.length c0_1) := (blk_cell BK0.out 1).trans rfl
         have hfz12_0 := blk_frozen BK0.out 0
         have hfz12_1 := blk_frozen BK0.out 1
         have p1047 : 0 ≤ (x7_1 : Int) := of_decide_eq_true (by first | (with_reducible assumption) | assumption)
         have q1047 : x7_1 < (l0_1.length : Int) := of_decide_eq_true (by first | (with_reducible assumption) | assumption)
         obtain ⟨ad1047, A1047_0, c1047_0, e1047, hx1047_0, hl1047_0, hi1047_0⟩ := at_L1 HR0_1.out x7_1 p1047 q1047
         cases e1047
         have HR1047_0 := Aside0.mk hi1047_0
         have HC1047_0 := Aside0.mk hl1047_0
         clear hi1047_0 hl1047_0
         replace p1047 := eq_true p1047
         replace q1047 := eq_true q1047
         go_wp2_with (first | (go_at_call 77; (with_reducible refine (slices_Contains_int_int.calls k1 _ _ (rd_L1 l0_1 x7_1) a2 false _ ?side1 ?side2 A9.out).mono ?_); (case side1 => repeat (first | exact HR1047_0.out | (with_reducible refine Kd.C_alloc ?_ _) | (with_reducible refine Kd.C_drewN ?_ _) | (with_reducible refine Kd.C_drew ?_))); (case side2 => exact HC1047_0.out); rintro e w' ⟨rfl, ⟨nd, rfl⟩⟩))
         go_roundg k1
         case measure => have := HK1.out; omega
         case rel => exact ⟨(wrap64 (x7_1 + 1)), (by first | rfl | (simp; done) | (simp [*]; done)), H', ⟨by have := HK1.out; omega⟩, by repeat (first | exact Drawn0.refl _ | apply Drawn0.step)⟩
       ·rw [if_neg c8] at H
        exact absurd H (by simp)
     ·rw [if_neg c5] at H
      exact absurd H (by simp)
    ·rw [if_neg c4] at H
     exact absurd H (by simp)
end Go.Proofs.Ytlcedciocmjggaa.X
