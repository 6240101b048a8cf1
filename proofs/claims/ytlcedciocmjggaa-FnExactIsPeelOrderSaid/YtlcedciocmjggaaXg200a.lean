/- Written by a program of this session: what functions of the given program compute, and that their calls do so. -/
import Derived.Test.YtlcedciocmjggaaXx0
import Derived.Test.YtlcedciocmjggaaXg3f04a
import Derived.Test.YtlcedciocmjggaaXg3f05a
import Derived.Test.YtlcedciocmjggaaXg3f0ea
import Derived.Test.YtlcedciocmjggaaXg3f1fa
namespace Go.Proofs.Ytlcedciocmjggaa.X
open Go.RowKit Go.Proofs.YtlcedciocmjggaaW.PrintWords Go.Proofs.YtlcedciocmjggaaW.PrintLast Go.Proofs.YtlcedciocmjggaaW.PrintMore
attribute [local go_sem] max2_int min2_int max_two min_two max_three min_three max_four min_four   -- for this text's walks alone
set_option linter.unusedVariables false
set_option linter.unusedSimpArgs false
/-! ### laws_szPeelStepS: function 51 -/
def laws_szPeelStepS.f (l0 : List (S90)) (a1 : Int) : Option (Int) := if (wrap64 (a1 - (l0.length : Int))) < 0 then (some (-1)) else (some (wrap64 (a1 - (l0.length : Int))))
set_option maxHeartbeats 8000000 in
set_option maxRecDepth 100000 in
theorem laws_szPeelStepS.calls (A0 : Option Addr) (c0 : Nat) (l0 : List (S90)) (a1 : Int) (r : Int) (w : World) (hr0 : Kd.C k90 w A0 l0.length l0) (hc0 : l0.length ≤ c0) (h : laws_szPeelStepS.f l0 a1 = some r) :
    Calls Try.prog 51 #[.slice A0 l0.length c0, .int .i64 a1] w fun e w' => e = .returned (.int .i64 r) ∧ Drawn0 w w' := by
  have HR0 := Aside0.mk hr0
  have HC0 := Aside0.mk hc0
  clear hr0 hc0
  have H : (if (wrap64 (a1 - (l0.length : Int))) < 0 then (some (-1)) else (some (wrap64 (a1 - (l0.length : Int))))) = some r := h
  clear h
  by_cases c3 : (wrap64 (a1 - (l0.length : Int))) < 0
  ·rw [if_pos c3] at H
   have c3b0 : decide ((wrap64 (a1 - (l0.length : Int))) < 0) = true := decide_eq_true c3
   clear c3
   obtain rfl := Option.some.inj H
   go_enter Try.func51, Try.ntmps51
   go_wp2
   go_ret
   exact ⟨by first | rfl | (simp; done) | (simp [*]; done), by repeat (first | exact Drawn0.refl _ | apply Drawn0.step)⟩
  ·rw [if_neg c3] at H
   have c3b0 : decide ((wrap64 (a1 - (l0.length : Int))) < 0) = false := decide_eq_false c3
   clear c3
   obtain rfl := Option.some.inj H
   go_enter Try.func51, Try.ntmps51
   go_wp2
   go_ret
   exact ⟨by first | rfl | (simp; done) | (simp [*]; done), by repeat (first | exact Drawn0.refl _ | apply Drawn0.step)⟩
/-! ### spec_peOrder: function 100 -/
def spec_peOrder.l0 : Nat → List Int → List (S88) → Int → Int → Int → List (List Int) → Option (Bool)
  | 0, _, _, _, _, _, _ => none
  | k + 1, x5, x10, x11, x12, x907000, x907001 => if x12 < x11 then (if 0 ≤ x12 then (if x12 < (x10.length : Int) then ((spec_l1Has.f k x5 ((rd_T88 x10 x12).f0)).bind fun t912 => (if t912 = true then ((spec_peFree.f k x907000 x907001 x5).bind fun t913 => ((spec_l1Has.f k t913 ((rd_T88 x10 x12).f1)).bind fun t916 => (if t916 = true then ((spec_peWith.f k x907000 x907001 x5 ((rd_T88 x10 x12).f1)).bind fun t917 => (if t917 = ((rd_T88 x10 x12).f0) then ((spec_l1Drop.f k x5 ((rd_T88 x10 x12).f0)).bind fun t918 => (spec_peOrder.l0 k t918 x10 x11 (wrap64 (x12 + 1)) x907000 x907001)) else (some false))) else (some false)))) else (some false))) else (none)) else (none)) else (some ((x5.length : Int) == 0))
def spec_peOrder.f (k : Nat) (a0_0 : Int) (l0_1 : List (List Int)) (l1 : List (S88)) : Option (Bool) := (spec_peAll.f k a0_0 l0_1).bind fun t907 => (spec_peOrder.l0 k t907 l1 (l1.length : Int) 0 a0_0 l0_1)
theorem spec_peOrder.mono_l : ∀ k, (∀ y0 y1 y2 y3 y4 y5, LeO (spec_peOrder.l0 k y0 y1 y2 y3 y4 y5) (spec_peOrder.l0 (k + 1) y0 y1 y2 y3 y4 y5))
  | 0 => fun _ _ _ _ _ _ r h => by simp [spec_peOrder.l0] at h
  | k + 1 => by
    have ih0 := spec_peOrder.mono_l k
    · intro y0 y1 y2 y3 y4 y5
      unfold spec_peOrder.l0
      repeat' first
      | (with_reducible exact ih0 _ _ _ _ _ _)
      | (with_reducible exact spec_l1Drop.mono _ _ _)
      | (with_reducible exact spec_l1Has.mono _ _ _)
      | (with_reducible exact spec_peAll.mono _ _ _)
      | (with_reducible exact spec_peFree.mono _ _ _ _)
      | (with_reducible exact spec_peWith.mono _ _ _ _ _)
      | (with_reducible exact LeO.refl _)
      | (with_reducible exact LeO.none _)
      | (with_reducible refine LeO.ite ?_ ?_)
      | (with_reducible refine LeO.bind ?_ (fun _ => ?_))
      | exact ih0 _ _ _ _ _ _
      | exact spec_l1Drop.mono _ _ _
      | exact spec_l1Has.mono _ _ _
      | exact spec_peAll.mono _ _ _
      | exact spec_peFree.mono _ _ _ _
      | exact spec_peWith.mono _ _ _ _ _
      | exact LeO.none _
      | refine LeO.ite ?_ ?_
      | refine LeO.bind ?_ (fun _ => ?_)
theorem spec_peOrder.mono : ∀ a0 a1 a2 k, LeO (spec_peOrder.f k a0 a1 a2) (spec_peOrder.f (k + 1) a0 a1 a2) := by
  intro a0 a1 a2 k
  have ih0 := spec_peOrder.mono_l k
  unfold spec_peOrder.f
  repeat' first
      | (with_reducible exact ih0 _ _ _ _ _ _)
      | (with_reducible exact spec_l1Drop.mono _ _ _)
      | (with_reducible exact spec_l1Has.mono _ _ _)
      | (with_reducible exact spec_peAll.mono _ _ _)
      | (with_reducible exact spec_peFree.mono _ _ _ _)
      | (with_reducible exact spec_peWith.mono _ _ _ _ _)
      | (with_reducible exact LeO.refl _)
      | (with_reducible exact LeO.none _)
      | (with_reducible refine LeO.ite ?_ ?_)
      | (with_reducible refine LeO.bind ?_ (fun _ => ?_))
      | exact ih0 _ _ _ _ _ _
      | exact spec_l1Drop.mono _ _ _
      | exact spec_l1Has.mono _ _ _
      | exact spec_peAll.mono _ _ _
      | exact spec_peFree.mono _ _ _ _
      | exact spec_peWith.mono _ _ _ _ _
      | exact LeO.none _
      | refine LeO.ite ?_ ?_
      | refine LeO.bind ?_ (fun _ => ?_)
noncomputable def spec_peOrder.L0 (y0 : List Int) (y1 : List (S88)) (y2 : Int) (y3 : Int) (y4 : Int) (y5 : List (List Int)) : Option (Bool) := lim fun k => spec_peOrder.l0 k y0 y1 y2 y3 y4 y5
theorem spec_peOrder.L0_sup (y0 : List Int) (y1 : List (S88)) (y2 : Int) (y3 : Int) (y4 : Int) (y5 : List (List Int)) : Sup (fun k => spec_peOrder.l0 k y0 y1 y2 y3 y4 y5) (spec_peOrder.L0 y0 y1 y2 y3 y4 y5) := Sup.of_mono fun k => spec_peOrder.mono_l k y0 y1 y2 y3 y4 y5
noncomputable def spec_peOrder.F (a0_0 : Int) (l0_1 : List (List Int)) (l1 : List (S88)) : Option (Bool) := lim fun k => spec_peOrder.f k a0_0 l0_1 l1
theorem spec_peOrder.F_sup (a0_0 : Int) (l0_1 : List (List Int)) (l1 : List (S88)) : Sup (fun k => spec_peOrder.f k a0_0 l0_1 l1) (spec_peOrder.F a0_0 l0_1 l1) := Sup.of_mono fun k => spec_peOrder.mono a0_0 l0_1 l1 k
theorem spec_peOrder.L0_eq (x5 : List Int) (x10 : List (S88)) (x11 : Int) (x12 : Int) (x907000 : Int) (x907001 : List (List Int)) : spec_peOrder.L0 x5 x10 x11 x12 x907000 x907001 = if x12 < x11 then (if 0 ≤ x12 then (if x12 < (x10.length : Int) then ((spec_l1Has.F x5 ((rd_T88 x10 x12).f0)).bind fun t912 => (if t912 = true then ((spec_peFree.F x907000 x907001 x5).bind fun t913 => ((spec_l1Has.F t913 ((rd_T88 x10 x12).f1)).bind fun t916 => (if t916 = true then ((spec_peWith.F x907000 x907001 x5 ((rd_T88 x10 x12).f1)).bind fun t917 => (if t917 = ((rd_T88 x10 x12).f0) then ((spec_l1Drop.F x5 ((rd_T88 x10 x12).f0)).bind fun t918 => (spec_peOrder.L0 t918 x10 x11 (wrap64 (x12 + 1)) x907000 x907001)) else (some false))) else (some false)))) else (some false))) else (none)) else (none)) else (some ((x5.length : Int) == 0)) := by
  refine Sup.unique (spec_peOrder.L0_sup x5 x10 x11 x12 x907000 x907001) (Sup.shift (fun k => spec_peOrder.mono_l k x5 x10 x11 x12 x907000 x907001) (Sup.congr (g' := fun k => if x12 < x11 then (if 0 ≤ x12 then (if x12 < (x10.length : Int) then ((spec_l1Has.f k x5 ((rd_T88 x10 x12).f0)).bind fun t912 => (if t912 = true then ((spec_peFree.f k x907000 x907001 x5).bind fun t913 => ((spec_l1Has.f k t913 ((rd_T88 x10 x12).f1)).bind fun t916 => (if t916 = true then ((spec_peWith.f k x907000 x907001 x5 ((rd_T88 x10 x12).f1)).bind fun t917 => (if t917 = ((rd_T88 x10 x12).f0) then ((spec_l1Drop.f k x5 ((rd_T88 x10 x12).f0)).bind fun t918 => (spec_peOrder.l0 k t918 x10 x11 (wrap64 (x12 + 1)) x907000 x907001)) else (some false))) else (some false)))) else (some false))) else (none)) else (none)) else (some ((x5.length : Int) == 0))) (fun k => by first | rfl | simp only [spec_peOrder.l0]) ?_))
  repeat' first
    | (with_reducible exact spec_peOrder.L0_sup _ _ _ _ _ _)
    | (with_reducible exact spec_peAll.F_sup _ _)
    | (with_reducible exact spec_l1Has.F_sup _ _)
    | (with_reducible exact spec_peFree.F_sup _ _ _)
    | (with_reducible exact spec_peWith.F_sup _ _ _ _)
    | (with_reducible exact spec_l1Drop.F_sup _ _)
    | (with_reducible refine Sup.ite ?_ ?_)
    | (with_reducible refine Sup.bind ?_ (fun _ => ?_))
    | (with_reducible exact Sup.const _)
    | exact spec_peOrder.L0_sup _ _ _ _ _ _
    | exact spec_peAll.F_sup _ _
    | exact spec_l1Has.F_sup _ _
    | exact spec_peFree.F_sup _ _ _
    | exact spec_peWith.F_sup _ _ _ _
    | exact spec_l1Drop.F_sup _ _
    | exact Sup.const _
theorem spec_peOrder.F_eq (a0_0 : Int) (l0_1 : List (List Int)) (l1 : List (S88)) : spec_peOrder.F a0_0 l0_1 l1 = (spec_peAll.F a0_0 l0_1).bind fun t907 => (spec_peOrder.L0 t907 l1 (l1.length : Int) 0 a0_0 l0_1) := by
  refine Sup.unique (spec_peOrder.F_sup a0_0 l0_1 l1) (Sup.congr (g' := fun k => (spec_peAll.f k a0_0 l0_1).bind fun t907 => (spec_peOrder.l0 k t907 l1 (l1.length : Int) 0 a0_0 l0_1)) (fun k => by first | rfl | simp only [spec_peOrder.f]) ?_)
  repeat' first
    | (with_reducible exact spec_peOrder.L0_sup _ _ _ _ _ _)
    | (with_reducible exact spec_peAll.F_sup _ _)
    | (with_reducible exact spec_l1Has.F_sup _ _)
    | (with_reducible exact spec_peFree.F_sup _ _ _)
    | (with_reducible exact spec_peWith.F_sup _ _ _ _)
    | (with_reducible exact spec_l1Drop.F_sup _ _)
    | (with_reducible refine Sup.ite ?_ ?_)
    | (with_reducible refine Sup.bind ?_ (fun _ => ?_))
    | (with_reducible exact Sup.const _)
    | exact spec_peOrder.L0_sup _ _ _ _ _ _
    | exact spec_peAll.F_sup _ _
    | exact spec_l1Has.F_sup _ _
    | exact spec_peFree.F_sup _ _ _
    | exact spec_peWith.F_sup _ _ _ _
    | exact spec_l1Drop.F_sup _ _
    | exact Sup.const _
def spec_peOrder.T5 : Bool × List (List Nat × List Nat) := (true, [([], []), ([], []), ([1], [1]), ([0, 2], [0, 2]), ([3], [3]), ([4, 3], [4]), ([5], [5]), ([5], [5]), ([6, 7, 5, 5], [5, 6, 7]), ([5], [5]), ([9, 5], [5, 9]), ([8, 10, 8, 5], [5, 8, 10]), ([11, 5], [5, 11]), ([5, 12], [5, 12]), ([13, 11], [13]), ([14], [14]), ([14], [14]), ([14], [14]), ([17, 14], [14, 17]), ([15, 16, 18, 14, 14], [14, 15, 16, 18]), ([14], [14]), ([20, 14], [14, 20]), ([19, 21, 14], [14, 19, 21]), ([14, 22], [14, 22])])
def spec_peOrder.B5 : List Nat := [0, 0, 2, 7, 15, 31, 63, 63, 255, 63, 575, 2047, 4095, 8191, 16383, 32767, 32767, 32767, 163839, 524287, 32767, 1081343, 4194303, 8388607]
theorem spec_peOrder.tab5 : rtab .any (opsOf Try.f100 5) = spec_peOrder.T5 := by kernel_rfl
theorem spec_peOrder.bits5 : waitsOk spec_peOrder.T5.2 spec_peOrder.B5 = true := by kernel_rfl
set_option maxHeartbeats 8000000 in
set_option maxRecDepth 100000 in
theorem spec_peOrder.calls (k : Nat) (a0_0 : Int) (A0_1 : Option Addr) (c0_1 : Nat) (l0_1 : List (List Int)) (A1 : Option Addr) (c1 : Nat) (l1 : List (S88)) (r : Bool) (w : World) (hr0_1 : Kd.C (Kd.slice 3 (Kd.int .i64)) w A0_1 l0_1.length l0_1) (hc0_1 : l0_1.length ≤ c0_1) (hr1 : Kd.C k88 w A1 l1.length l1) (hc1 : l1.length ≤ c1) (h : spec_peOrder.f k a0_0 l0_1 l1 = some r) :
    Calls Try.prog 100 #[.agg #[.int .i64 a0_0, .slice A0_1 l0_1.length c0_1], .slice A1 l1.length c1] w fun e w' => e = .returned (.bool r) ∧ Below w.heap.size w w' := by
  have hu29 := Try.underlying29
  have hu88 := Try.underlying88
  have HR0_1 := Aside0.mk hr0_1
  have HC0_1 := Aside0.mk hc0_1
  clear hr0_1 hc0_1
  have HR1 := Aside0.mk hr1
  have HC1 := Aside0.mk hc1
  clear hr1 hc1
  have HB := Aside0.mk (Below.refl w.heap.size w)
  have H : ((spec_peAll.f k a0_0 l0_1).bind fun t907 => (spec_peOrder.l0 k t907 l1 (l1.length : Int) 0 a0_0 l0_1)) = some r := h
  clear h
  replace H := Option.bind_eq_some_iff.mp H
  obtain ⟨t907, A30, H⟩ := H
  replace H : (spec_peOrder.l0 k t907 l1 (l1.length : Int) 0 a0_0 l0_1) = some r := H
  have A3 := Aside0.mk A30
  clear A30
  have H' := Aside0.mk H
  clear H
  go_enter Try.func100, Try.ntmps100
  go_wp2_with (first | ((with_reducible refine gate_dst (N := 2) rfl ?_); refine box_event ?hg (N := 2) ?hd (cs := #[.int .i64 a0_0, .slice A0_1 l0_1.length c0_1]) (t := 29) ?hr ?_; (case hd => rfl); (case hg => rfl); (case hr => first | (go_simp; done) | (go_simp; rfl)); intro gb906 hg w4 hbox hb; have n0_ := Aside0.mk (below_step (by repeat (first | (with_reducible first | exact HB.out | apply below_alloc | apply pw_below_drewN | apply below_drew1) | exact HB.out)) hb); have n1_ := Aside0.mk (hbox); have n2_ := Aside0.mk ((by rw [hg]; exact (below_size (by repeat (first | (with_reducible first | exact HB.out | apply below_alloc | apply pw_below_drewN | apply below_drew1) | exact HB.out))) : w.heap.size ≤ gb906)); have n3_ := Aside0.mk ((by rw [hg]; exact (below_size (by repeat (first | (with_reducible first | exact HB.out | apply below_alloc | apply pw_below_drewN | apply below_drew1) | exact HB.out))) : w.heap.size ≤ gb906)); clear HB; have HB := n0_; have BK906 := n1_; have GW906 := n2_; have GE906 := n3_; clear n0_ n1_ n2_ n3_; clear hb hbox hg; have hcz5_0 : w4.cell? ⟨gb906, 0, none⟩ = some (.int .i64 a0_0) := (blk_cell BK906.out 0).trans rfl; have hcz5_1 : w4.cell? ⟨gb906, 1, none⟩ = some (.slice A0_1 l0_1.length c0_1) := (blk_cell BK906.out 1).trans rfl; have hfz5_0 := blk_frozen BK906.out 0; have hfz5_1 := blk_frozen BK906.out 1) | ((with_reducible refine gate_callee (f := 69) rfl ?_); refine goesL_ (some 9) rfl rfl Try.func69 (by kernel_rfl) rfl #[.agg #[.int .i64 a0_0, .slice A0_1 l0_1.length c0_1]] rfl (by (try simp only [List.map_toArray, List.map_cons, List.map_nil]); first | done | rfl | (simp only [List.length_drop, List.length_take]; rfl)) ?_; (with_reducible refine (spec_peAll.calls k a0_0 _ _ l0_1 t907 _ ?side1 ?side2 A3.out).mono ?_); (case side1 => repeat (first | exact (Kd.C_below HR0_1.out HB.out) | (with_reducible refine Kd.C_alloc ?_ _) | (with_reducible refine Kd.C_drewN ?_ _) | (with_reducible refine Kd.C_drew ?_))); (case side2 => exact HC0_1.out); rintro e w6 ⟨v908, rfl, ho0, hb⟩; refine ⟨_, rfl, ?_⟩; have n0_ := Aside0.mk (Kd.R_lower ho0 (below_size (by repeat (first | (with_reducible first | exact HB.out | apply below_alloc | apply pw_below_drewN | apply below_drew1 | refine below_set ?_ GE906.out) | exact HB.out)))); have n1_ := Aside0.mk (blk_below (g := gb906) (o := .cells #[.int .i64 a0_0, .slice A0_1 l0_1.length c0_1] 29 (0, 0)) (by (with_reducible repeat (first | refine blk_drewN ?_ _ | refine blk_drew ?_ | refine blk_alloc ?_ _)); exact BK906.out) hb); have n2_ := Aside0.mk (below_step (by repeat (first | (with_reducible first | exact HB.out | apply below_alloc | apply pw_below_drewN | apply below_drew1 | refine below_set ?_ GE906.out) | exact HB.out)) hb); clear BK906; clear HB; have HO909 := n0_; have BK906 := n1_; have HB := n2_; clear n0_ n1_ n2_; (try clear hb); (try clear hb2); (try clear hk); (try clear hi); (try clear ho0)))
  go_loopg [5, 12] k (fun kq v5 v12 w' => ∃ (x5_1 : List Int) (x12_1 : Int), v12 = .int .i64 x12_1 ∧ Aside0 (spec_peOrder.l0 kq x5_1 l1 (l1.length : Int) x12_1 a0_0 l0_1 = some r) ∧ Aside0 (kq ≤ k) ∧ Aside0 (Kd.R (Kd.int .i64) 3 w' w.heap.size (fun _ => True) v5 x5_1) ∧ Aside0 (w'.heap[gb906]? = some (.cells #[.int .i64 a0_0, (.slice A0_1 l0_1.length c0_1)] 29 (0, 0))) ∧ Aside0 (Below w.heap.size w w'))
  case atStart => exact ⟨(t907), (0), (by first | rfl | (simp; done) | (simp [*]; done)), H', ⟨Nat.le_refl _⟩, ⟨by (with_reducible repeat (first | apply Kd.R_alloc | apply Kd.R_drewN | apply Kd.R_drew)); exact HO909.out⟩, ⟨by (with_reducible repeat (first | refine blk_drewN ?_ _ | refine blk_drew ?_ | refine blk_alloc ?_ _)); exact BK906.out⟩, ⟨by repeat (first | (with_reducible first | exact HB.out | apply below_alloc | apply pw_below_drewN | apply below_drew1 | refine below_set ?_ GE906.out) | exact HB.out)⟩⟩
  case round =>
   clear H'
   try clear c1
   try clear p2
   try clear c6
   try clear hcz5_0
   try clear hcz5_1
   try clear hfz5_0
   try clear hfz5_1
   obtain ⟨x5_1, x12_1, rfl, HA, HK1, HO_5, BK906, HB⟩ := hrel
   cases gk with
   | zero => exact absurd HA.out (by simp [spec_peOrder.l0])
   | succ k1 =>
    have H := HA.out
    clear HA
    simp only [spec_peOrder.l0] at H
    by_cases c7 : x12_1 < (l1.length : Int)
    ·rw [if_pos c7] at H
     have c7b0 : decide (x12_1 < (l1.length : Int)) = true := decide_eq_true c7
     clear c7
     by_cases c8 : 0 ≤ x12_1
     ·rw [if_pos c8] at H
      have c8b0 : decide (0 ≤ x12_1) = true := decide_eq_true c8
      clear c8
      by_cases c9 : x12_1 < (l1.length : Int)
      ·rw [if_pos c9] at H
       have c9b0 : decide (x12_1 < (l1.length : Int)) = true := decide_eq_true c9
       clear c9
       replace H := Option.bind_eq_some_iff.mp H
       obtain ⟨t912, A100, H⟩ := H
       replace H : (if t912 = true then ((spec_peFree.f k1 a0_0 l0_1 x5_1).bind fun t913 => ((spec_l1Has.f k1 t913 ((rd_T88 l1 x12_1).f1)).bind fun t916 => (if t916 = true then ((spec_peWith.f k1 a0_0 l0_1 x5_1 ((rd_T88 l1 x12_1).f1)).bind fun t917 => (if t917 = ((rd_T88 l1 x12_1).f0) then ((spec_l1Drop.f k1 x5_1 ((rd_T88 l1 x12_1).f0)).bind fun t918 => (spec_peOrder.l0 k1 t918 l1 (l1.length : Int) (wrap64 (x12_1 + 1)) a0_0 l0_1)) else (some false))) else (some false)))) else (some false)) = some r := H
       have A10 := Aside0.mk A100
       clear A100
       by_cases c11 : t912 = true
       ·subst c11
        have H1 : ((spec_peFree.f k1 a0_0 l0_1 x5_1).bind fun t913 => ((spec_l1Has.f k1 t913 ((rd_T88 l1 x12_1).f1)).bind fun t916 => (if t916 = true then ((spec_peWith.f k1 a0_0 l0_1 x5_1 ((rd_T88 l1 x12_1).f1)).bind fun t917 => (if t917 = ((rd_T88 l1 x12_1).f0) then ((spec_l1Drop.f k1 x5_1 ((rd_T88 l1 x12_1).f0)).bind fun t918 => (spec_peOrder.l0 k1 t918 l1 (l1.length : Int) (wrap64 (x12_1 + 1)) a0_0 l0_1)) else (some false))) else (some false)))) = some r := by rw [if_pos rfl] at H; exact H
        clear H
        have H := H1
        clear H1
        replace H := Option.bind_eq_some_iff.mp H
        obtain ⟨t913, A120, H⟩ := H
        replace H : ((spec_l1Has.f k1 t913 ((rd_T88 l1 x12_1).f1)).bind fun t916 => (if t916 = true then ((spec_peWith.f k1 a0_0 l0_1 x5_1 ((rd_T88 l1 x12_1).f1)).bind fun t917 => (if t917 = ((rd_T88 l1 x12_1).f0) then ((spec_l1Drop.f k1 x5_1 ((rd_T88 l1 x12_1).f0)).bind fun t918 => (spec_peOrder.l0 k1 t918 l1 (l1.length : Int) (wrap64 (x12_1 + 1)) a0_0 l0_1)) else (some false))) else (some false))) = some r := H
        have A12 := Aside0.mk A120
        clear A120
        replace H := Option.bind_eq_some_iff.mp H
        obtain ⟨t916, A130, H⟩ := H
        replace H : (if t916 = true then ((spec_peWith.f k1 a0_0 l0_1 x5_1 ((rd_T88 l1 x12_1).f1)).bind fun t917 => (if t917 = ((rd_T88 l1 x12_1).f0) then ((spec_l1Drop.f k1 x5_1 ((rd_T88 l1 x12_1).f0)).bind fun t918 => (spec_peOrder.l0 k1 t918 l1 (l1.length : Int) (wrap64 (x12_1 + 1)) a0_0 l0_1)) else (some false))) else (some false)) = some r := H
        have A13 := Aside0.mk A130
        clear A130
        by_cases c14 : t916 = true
        ·subst c14
         have H1 : ((spec_peWith.f k1 a0_0 l0_1 x5_1 ((rd_T88 l1 x12_1).f1)).bind fun t917 => (if t917 = ((rd_T88 l1 x12_1).f0) then ((spec_l1Drop.f k1 x5_1 ((rd_T88 l1 x12_1).f0)).bind fun t918 => (spec_peOrder.l0 k1 t918 l1 (l1.length : Int) (wrap64 (x12_1 + 1)) a0_0 l0_1)) else (some false))) = some r := by rw [if_pos rfl] at H; exact H
         clear H
         have H := H1
         clear H1
         replace H := Option.bind_eq_some_iff.mp H
         obtain ⟨t917, A150, H⟩ := H
         replace H : (if t917 = ((rd_T88 l1 x12_1).f0) then ((spec_l1Drop.f k1 x5_1 ((rd_T88 l1 x12_1).f0)).bind fun t918 => (spec_peOrder.l0 k1 t918 l1 (l1.length : Int) (wrap64 (x12_1 + 1)) a0_0 l0_1)) else (some false)) = some r := H
         have A15 := Aside0.mk A150
         clear A150
         by_cases c16 : t917 = ((rd_T88 l1 x12_1).f0)
         ·rw [if_pos c16] at H
          have c16b0 : (t917 == ((rd_T88 l1 x12_1).f0)) = true := beq_iff_eq.mpr c16
          have c16b1 : (t917 != ((rd_T88 l1 x12_1).f0)) = false := bne_eq_false_iff_eq.mpr c16
          clear c16
          replace H := Option.bind_eq_some_iff.mp H
          obtain ⟨t918, A170, H⟩ := H
          replace H : (spec_peOrder.l0 k1 t918 l1 (l1.length : Int) (wrap64 (x12_1 + 1)) a0_0 l0_1) = some r := H
          have A17 := Aside0.mk A170
          clear A170
          have H' := Aside0.mk H
          clear H
          have p910 : 0 ≤ (x12_1 : Int) := of_decide_eq_true (by first | (with_reducible assumption) | assumption)
          have q910 : x12_1 < (l1.length : Int) := of_decide_eq_true (by first | (with_reducible assumption) | assumption)
          obtain ⟨ad910, e910, hx910_0, hx910_1⟩ := at_T88 HR1.out x12_1 p910 q910
          cases e910
          replace hx910_0 := (HB.out.cell (World.block_lt_of_cell? w _ hx910_0)).trans hx910_0
          replace hx910_1 := (HB.out.cell (World.block_lt_of_cell? w _ hx910_1)).trans hx910_1
          replace p910 := eq_true p910
          replace q910 := eq_true q910
          try go_wp2_with (first | ((with_reducible refine gate_dst (N := 7) rfl ?_); refine box_event ?hg (N := 7) ?hd (cs := #[.int .i64 0, .int .i64 0]) (t := 88) ?hr ?_; (case hd => rfl); (case hg => rfl); (case hr => first | (go_simp; done) | (go_simp; rfl)); intro gb911 hg w18 hbox hb; have n0_ := Aside0.mk (Kd.R_below (by (with_reducible repeat (first | apply Kd.R_alloc | apply Kd.R_drewN | apply Kd.R_drew)); exact HO_5.out) hb); have n1_ := Aside0.mk (blk_below (g := gb906) (o := .cells #[.int .i64 a0_0, .slice A0_1 l0_1.length c0_1] 29 (0, 0)) (by (with_reducible repeat (first | refine blk_drewN ?_ _ | refine blk_drew ?_ | refine blk_alloc ?_ _)); exact BK906.out) hb); have n2_ := Aside0.mk (below_step (by repeat (first | (with_reducible first | exact HB.out | apply below_alloc | apply pw_below_drewN | apply below_drew1 | refine below_set ?_ GE906.out) | exact HB.out)) hb); have n3_ := Aside0.mk (hbox); have n4_ := Aside0.mk ((by rw [hg]; exact (below_size (by repeat (first | (with_reducible first | exact HB.out | apply below_alloc | apply pw_below_drewN | apply below_drew1 | refine below_set ?_ GE906.out) | exact HB.out))) : w.heap.size ≤ gb911)); have n5_ := Aside0.mk ((by rw [hg]; exact (below_size (by repeat (first | (with_reducible first | exact HB.out | apply below_alloc | apply pw_below_drewN | apply below_drew1 | refine below_set ?_ GE906.out) | exact HB.out))) : w.heap.size ≤ gb911)); have n6_ := Aside0.mk ((by rw [hg]; exact Nat.ne_of_lt (blk_lt (g := gb906) (o := .cells #[.int .i64 a0_0, .slice A0_1 l0_1.length c0_1] 29 (0, 0)) (by (with_reducible repeat (first | refine blk_drewN ?_ _ | refine blk_drew ?_ | refine blk_alloc ?_ _)); exact BK906.out)) : gb906 ≠ gb911)); have n7_ := Aside0.mk ((by rw [hg]; exact Nat.ne_of_gt (blk_lt (g := gb906) (o := .cells #[.int .i64 a0_0, .slice A0_1 l0_1.length c0_1] 29 (0, 0)) (by (with_reducible repeat (first | refine blk_drewN ?_ _ | refine blk_drew ?_ | refine blk_alloc ?_ _)); exact BK906.out)) : gb911 ≠ gb906)); clear HO_5; clear BK906; clear HB; have HO_5 := n0_; have BK906 := n1_; have HB := n2_; have BK911 := n3_; have GW911 := n4_; have GE911 := n5_; have NB906_911 := n6_; have NB911_906 := n7_; clear n0_ n1_ n2_ n3_ n4_ n5_ n6_ n7_; clear hb hbox hg; have hnb19 := NB911_906.out; have hnc19 := NB906_911.out; have hcz20_0 : w18.cell? ⟨gb911, 0, none⟩ = some (.int .i64 0) := (blk_cell BK911.out 0).trans rfl; have hcz20_1 : w18.cell? ⟨gb911, 1, none⟩ = some (.int .i64 0) := (blk_cell BK911.out 1).trans rfl; have hfz20_0 := blk_frozen BK911.out 0; have hfz20_1 := blk_frozen BK911.out 1))
          have n0_ : Aside0 (Kd.R (Kd.int .i64) 3 ((w18.setCell ⟨gb911, 0, none⟩ (.int .i64 ((rd_T88 l1 x12_1).f0))).setCell ⟨gb911, 1, none⟩ (.int .i64 ((rd_T88 l1 x12_1).f1))) w.heap.size (fun _ => True) u5 x5_1) := ⟨by (with_reducible repeat (first | apply Kd.R_alloc | apply Kd.R_drewN | apply Kd.R_drew)); exact Kd.R_mono (Kd.R_far (p := ⟨gb911, 1, none⟩) (Kd.R_far (p := ⟨gb911, 0, none⟩) (Kd.R_types HO_5.out BK911.out (by decide)) (fun _ hk => hk.2) (.int .i64 ((rd_T88 l1 x12_1).f0))) (fun _ hk => hk.2) (.int .i64 ((rd_T88 l1 x12_1).f1))) (fun _ hk => trivial)⟩
          have n1_ : Aside0 (((w18.setCell ⟨gb911, 0, none⟩ (.int .i64 ((rd_T88 l1 x12_1).f0))).setCell ⟨gb911, 1, none⟩ (.int .i64 ((rd_T88 l1 x12_1).f1))).heap[gb906]? = some (.cells #[.int .i64 a0_0, .slice A0_1 l0_1.length c0_1] 29 (0, 0))) := ⟨by (with_reducible repeat (first | refine blk_drewN ?_ _ | refine blk_drew ?_ | refine blk_alloc ?_ _)); refine blk_far ?_ NB906_911.out _; (with_reducible repeat (first | refine blk_drewN ?_ _ | refine blk_drew ?_ | refine blk_alloc ?_ _)); refine blk_far ?_ NB906_911.out _; (with_reducible repeat (first | refine blk_drewN ?_ _ | refine blk_drew ?_ | refine blk_alloc ?_ _)); exact BK906.out⟩
          have n2_ : Aside0 (((w18.setCell ⟨gb911, 0, none⟩ (.int .i64 ((rd_T88 l1 x12_1).f0))).setCell ⟨gb911, 1, none⟩ (.int .i64 ((rd_T88 l1 x12_1).f1))).heap[gb911]? = some (.cells #[.int .i64 ((rd_T88 l1 x12_1).f0), .int .i64 ((rd_T88 l1 x12_1).f1)] 88 (0, 0))) := ⟨by (with_reducible repeat (first | refine blk_drewN ?_ _ | refine blk_drew ?_ | refine blk_alloc ?_ _)); refine blk_put (cs := #[.int .i64 ((rd_T88 l1 x12_1).f0), .int .i64 0]) ?_ 1 _ rfl; (with_reducible repeat (first | refine blk_drewN ?_ _ | refine blk_drew ?_ | refine blk_alloc ?_ _)); refine blk_put (cs := #[.int .i64 0, .int .i64 0]) ?_ 0 _ rfl; (with_reducible repeat (first | refine blk_drewN ?_ _ | refine blk_drew ?_ | refine blk_alloc ?_ _)); exact BK911.out⟩
          have n3_ : Aside0 (Below w.heap.size w ((w18.setCell ⟨gb911, 0, none⟩ (.int .i64 ((rd_T88 l1 x12_1).f0))).setCell ⟨gb911, 1, none⟩ (.int .i64 ((rd_T88 l1 x12_1).f1)))) := ⟨by repeat (first | (with_reducible first | exact HB.out | apply below_alloc | apply pw_below_drewN | apply below_drew1 | refine below_set ?_ GE906.out | refine below_set ?_ GE911.out) | exact HB.out)⟩
          (try clear HO_5)
          (try clear BK906)
          (try clear BK911)
          (try clear HB)
          generalize ((w18.setCell ⟨gb911, 0, none⟩ (.int .i64 ((rd_T88 l1 x12_1).f0))).setCell ⟨gb911, 1, none⟩ (.int .i64 ((rd_T88 l1 x12_1).f1))) = w21 at n0_ n1_ n2_ n3_ ⊢
          have HO_5 := n0_
          have BK906 := n1_
          have BK911 := n2_
          have HB := n3_
          clear n0_ n1_ n2_ n3_
          have n0_ := Aside0.mk (Kd.R_drew HO_5.out)
          have n1_ := Aside0.mk (blk_drew BK906.out)
          have n2_ := Aside0.mk (blk_drew BK911.out)
          have n3_ := Aside0.mk (below_drew1 HB.out)
          clear HO_5
          clear BK906
          clear BK911
          clear HB
          have HO_5 := n0_
          have BK906 := n1_
          have BK911 := n2_
          have HB := n3_
          clear n0_ n1_ n2_ n3_
          obtain ⟨Ao23, co23, eo23⟩ := Kd.R_slice HO_5.out
          (first | subst eo23 | (injection eo23 with f1_ f2_ f3_; have f4_ := f1_.symm; have f5_ := f3_.symm; clear f1_ f2_ f3_; subst f4_; subst f5_))
          refine start_ (n := 24) (S := fun w' => w'.cell? ⟨gb911, 0, none⟩ = some (.int .i64 ((rd_T88 l1 x12_1).f0)) ∧ w'.cell? ⟨gb911, 1, none⟩ = some (.int .i64 ((rd_T88 l1 x12_1).f1)) ∧ w'.cell? ⟨gb906, 0, none⟩ = some (.int .i64 a0_0) ∧ w'.cell? ⟨gb906, 1, none⟩ = some (.slice A0_1 l0_1.length c0_1)) (ds := []) #[false, false, false, false, false, false, false, false, false, false, false, false, false, false, false, false, false, false, false, false, false, false, false, false] (by kernel_rfl) rfl rfl ⟨(blk_cell BK911.out 0).trans rfl, (blk_cell BK911.out 1).trans rfl, (blk_cell BK906.out 0).trans rfl, (blk_cell BK906.out 1).trans rfl⟩ (fun hHeld => ?_); refine with_tabW spec_peOrder.tab5 spec_peOrder.bits5 (fun HT_ HW_ => ?_)
          generalize w21.drew = w22 at HO_5 BK906 BK911 HB hHeld ⊢
          refine pq_ 0 16 24 1 HT_.out (by kernel_rfl) ?_
          refine pq_ 1 17 24 3 HT_.out (by kernel_rfl) ?_
          refine tq_ 2 18 24 7 HT_.out HW_.out (by kernel_rfl) hHeld ?_ rfl (by rintro w' ⟨s0, s1, s2, s3⟩; go_simp; with_reducible rfl)
          refine one_ (i := 3) (N := some 19) (bsA 24 15) rfl rfl (one_of HT_.out (by kernel_rfl)) (by decide) (fun K hK => ?_)
          refine goes_ Try.func75 (by kernel_rfl) rfl #[.slice Ao23 x5_1.length co23, .int .i64 ((rd_T88 l1 x12_1).f0)] (by rfl) rfl rfl (by (try simp only [List.map_toArray, List.map_cons, List.map_nil]); first | done | rfl | (simp only [List.length_drop, List.length_take]; rfl)) ?_
          with_reducible refine (spec_l1Has.calls k1 _ _ x5_1 ((rd_T88 l1 x12_1).f0) true _ ?side1 ?side2 A10.out).mono ?_
          (case side1 => repeat (first | exact (Kd.R_reads' HO_5.out).2.2 | (with_reducible refine Kd.C_alloc ?_ _) | (with_reducible refine Kd.C_drewN ?_ _) | (with_reducible refine Kd.C_drew ?_)))
          (case side2 => exact (Kd.R_reads' HO_5.out).2.1)
          rintro e w' ⟨rfl, ⟨nd, rfl⟩⟩
          refine ⟨_, rfl, ?_⟩
          refine hK.out _ _ ⟨(blk_cell BK911.out 0).trans rfl, (blk_cell BK911.out 1).trans rfl, (blk_cell BK906.out 0).trans rfl, (blk_cell BK906.out 1).trans rfl⟩ (fun hHeld => ?_)
          clear hK K
          refine norm_ (a' := ?_) ?_ ?_
          rotate_left
          ·show Act.put _ (some 19) _ = _
           simp only [Act.put, List.setIfInBounds_toArray, List.set_cons_zero, List.set_cons_succ, i64_w]
           rfl
          refine pq_ 4 20 24 31 HT_.out (by kernel_rfl) ?_
          refine pq_ 5 21 24 63 HT_.out (by kernel_rfl) ?_
          refine pq_ 7 23 24 191 HT_.out (by kernel_rfl) ?_
          refine pq_ 9 25 24 703 HT_.out (by kernel_rfl) ?_
          refine tq_ 6 22 24 767 HT_.out HW_.out (by kernel_rfl) hHeld ?_ rfl (by rintro w' ⟨s0, s1, s2, s3⟩; go_simp; with_reducible rfl)
          refine tq_ 10 26 24 1791 HT_.out HW_.out (by kernel_rfl) hHeld ?_ rfl (by rintro w' ⟨s0, s1, s2, s3⟩; go_simp; with_reducible rfl)
          refine one_ (i := 8) (N := some 24) (bsA 24 2047) rfl rfl (one_of HT_.out (by kernel_rfl)) (by decide) (fun K hK => ?_)
          refine goes_ Try.func79 (by kernel_rfl) rfl #[.agg #[.int .i64 a0_0, .slice A0_1 l0_1.length c0_1], .slice Ao23 x5_1.length co23] (by rfl) rfl rfl (by (try simp only [List.map_toArray, List.map_cons, List.map_nil]); first | done | rfl | (simp only [List.length_drop, List.length_take]; rfl)) ?_
          with_reducible refine (spec_peFree.calls k1 a0_0 _ _ l0_1 _ _ x5_1 t913 _ ?side1 ?side2 ?side3 ?side4 A12.out).mono ?_
          (case side1 => repeat (first | exact (Kd.C_below HR0_1.out (by repeat (first | (with_reducible first | exact HB.out | apply below_alloc | apply pw_below_drewN | apply below_drew1 | refine below_set ?_ GE906.out | refine below_set ?_ GE911.out) | exact HB.out))) | (with_reducible refine Kd.C_alloc ?_ _) | (with_reducible refine Kd.C_drewN ?_ _) | (with_reducible refine Kd.C_drew ?_)))
          (case side2 => exact HC0_1.out)
          (case side3 => repeat (first | exact (Kd.R_reads' HO_5.out).2.2 | (with_reducible refine Kd.C_alloc ?_ _) | (with_reducible refine Kd.C_drewN ?_ _) | (with_reducible refine Kd.C_drew ?_)))
          (case side4 => exact (Kd.R_reads' HO_5.out).2.1)
          rintro e w24 ⟨v914, rfl, ho0, hb⟩
          refine ⟨_, rfl, ?_⟩
          have n0_ := Aside0.mk (Kd.R_elder' (by (with_reducible repeat (first | apply Kd.R_alloc | apply Kd.R_drewN | apply Kd.R_drew)); exact HO_5.out) (Kd.R_base ho0) hb)
          have n1_ := Aside0.mk (Kd.R_lower (Kd.R_new' ho0 (Kd.R_lt (by (with_reducible repeat (first | apply Kd.R_alloc | apply Kd.R_drewN | apply Kd.R_drew)); exact HO_5.out))) (below_size (by repeat (first | (with_reducible first | exact HB.out | apply below_alloc | apply pw_below_drewN | apply below_drew1 | refine below_set ?_ GE906.out | refine below_set ?_ GE911.out) | exact HB.out))))
          have n2_ := Aside0.mk (blk_below (g := gb906) (o := .cells #[.int .i64 a0_0, .slice A0_1 l0_1.length c0_1] 29 (0, 0)) (by (with_reducible repeat (first | refine blk_drewN ?_ _ | refine blk_drew ?_ | refine blk_alloc ?_ _)); exact BK906.out) hb)
          have n3_ := Aside0.mk (blk_below (g := gb911) (o := .cells #[.int .i64 ((rd_T88 l1 x12_1).f0), .int .i64 ((rd_T88 l1 x12_1).f1)] 88 (0, 0)) (by (with_reducible repeat (first | refine blk_drewN ?_ _ | refine blk_drew ?_ | refine blk_alloc ?_ _)); exact BK911.out) hb)
          have n4_ := Aside0.mk (below_step (by repeat (first | (with_reducible first | exact HB.out | apply below_alloc | apply pw_below_drewN | apply below_drew1 | refine below_set ?_ GE906.out | refine below_set ?_ GE911.out) | exact HB.out)) hb)
          clear HO_5
          clear BK906
          clear BK911
          clear HB
          have HO_5 := n0_
          have HO915 := n1_
          have BK906 := n2_
          have BK911 := n3_
          have HB := n4_
          clear n0_ n1_ n2_ n3_ n4_
          (try clear hb)
          (try clear hb2)
          (try clear hk)
          (try clear hi)
          (try clear ho0)
          obtain ⟨Ao25, co25, eo25⟩ := Kd.R_slice HO915.out
          (first | subst eo25 | (injection eo25 with f1_ f2_ f3_; have f4_ := f1_.symm; have f5_ := f3_.symm; clear f1_ f2_ f3_; subst f4_; subst f5_))
          refine hK.out _ _ ⟨(blk_cell BK911.out 0).trans rfl, (blk_cell BK911.out 1).trans rfl, (blk_cell BK906.out 0).trans rfl, (blk_cell BK906.out 1).trans rfl⟩ (fun hHeld => ?_)
          clear hK K
          refine norm_ (a' := ?_) ?_ ?_
          rotate_left
          ·show Act.put _ (some 24) _ = _
           simp only [Act.put, List.setIfInBounds_toArray, List.set_cons_zero, List.set_cons_succ, i64_w]
           rfl
          refine one_ (i := 11) (N := some 27) (bsA 24 4095) rfl rfl (one_of HT_.out (by kernel_rfl)) (by decide) (fun K hK => ?_)
          refine goes_ Try.func75 (by kernel_rfl) rfl #[.slice Ao25 t913.length co25, .int .i64 ((rd_T88 l1 x12_1).f1)] (by rfl) rfl rfl (by (try simp only [List.map_toArray, List.map_cons, List.map_nil]); first | done | rfl | (simp only [List.length_drop, List.length_take]; rfl)) ?_
          with_reducible refine (spec_l1Has.calls k1 _ _ t913 ((rd_T88 l1 x12_1).f1) true _ ?side1 ?side2 A13.out).mono ?_
          (case side1 => repeat (first | exact (Kd.R_reads' HO915.out).2.2 | (with_reducible refine Kd.C_alloc ?_ _) | (with_reducible refine Kd.C_drewN ?_ _) | (with_reducible refine Kd.C_drew ?_)))
          (case side2 => exact (Kd.R_reads' HO915.out).2.1)
          rintro e w' ⟨rfl, ⟨nd, rfl⟩⟩
          refine ⟨_, rfl, ?_⟩
          refine hK.out _ _ ⟨(blk_cell BK911.out 0).trans rfl, (blk_cell BK911.out 1).trans rfl, (blk_cell BK906.out 0).trans rfl, (blk_cell BK906.out 1).trans rfl⟩ (fun hHeld => ?_)
          clear hK K
          refine norm_ (a' := ?_) ?_ ?_
          rotate_left
          ·show Act.put _ (some 27) _ = _
           simp only [Act.put, List.setIfInBounds_toArray, List.set_cons_zero, List.set_cons_succ, i64_w]
           rfl
          refine pq_ 12 28 24 8191 HT_.out (by kernel_rfl) ?_
          refine pq_ 13 29 24 16383 HT_.out (by kernel_rfl) ?_
          refine pq_ 14 30 24 32767 HT_.out (by kernel_rfl) ?_
          refine pq_ 16 32 24 98303 HT_.out (by kernel_rfl) ?_
          refine pq_ 17 33 24 229375 HT_.out (by kernel_rfl) ?_
          refine pq_ 20 36 24 1277951 HT_.out (by kernel_rfl) ?_
          refine tq_ 15 31 24 1310719 HT_.out HW_.out (by kernel_rfl) hHeld ?_ rfl (by rintro w' ⟨s0, s1, s2, s3⟩; go_simp; with_reducible rfl)
          refine tq_ 18 34 24 1572863 HT_.out HW_.out (by kernel_rfl) hHeld ?_ rfl (by rintro w' ⟨s0, s1, s2, s3⟩; go_simp; with_reducible rfl)
          refine tq_ 21 37 24 3670015 HT_.out HW_.out (by kernel_rfl) hHeld ?_ rfl (by rintro w' ⟨s0, s1, s2, s3⟩; go_simp; with_reducible rfl)
          refine one_ (i := 19) (N := some 35) (bsA 24 4194303) rfl rfl (one_of HT_.out (by kernel_rfl)) (by decide) (fun K hK => ?_)
          refine goes_ Try.func125 (by kernel_rfl) rfl #[.agg #[.int .i64 a0_0, .slice A0_1 l0_1.length c0_1], .slice Ao23 x5_1.length co23, .int .i64 ((rd_T88 l1 x12_1).f1)] (by rfl) rfl rfl (by (try simp only [List.map_toArray, List.map_cons, List.map_nil]); first | done | rfl | (simp only [List.length_drop, List.length_take]; rfl)) ?_
          with_reducible refine (spec_peWith.calls k1 a0_0 _ _ l0_1 _ _ x5_1 ((rd_T88 l1 x12_1).f1) t917 _ ?side1 ?side2 ?side3 ?side4 A15.out).mono ?_
          (case side1 => repeat (first | exact (Kd.C_below HR0_1.out (by repeat (first | (with_reducible first | exact HB.out | apply below_alloc | apply pw_below_drewN | apply below_drew1 | refine below_set ?_ GE906.out | refine below_set ?_ GE911.out) | exact HB.out))) | (with_reducible refine Kd.C_alloc ?_ _) | (with_reducible refine Kd.C_drewN ?_ _) | (with_reducible refine Kd.C_drew ?_)))
          (case side2 => exact HC0_1.out)
          (case side3 => repeat (first | exact (Kd.R_reads' HO_5.out).2.2 | (with_reducible refine Kd.C_alloc ?_ _) | (with_reducible refine Kd.C_drewN ?_ _) | (with_reducible refine Kd.C_drew ?_)))
          (case side4 => exact (Kd.R_reads' HO_5.out).2.1)
          rintro e w26 ⟨rfl, hb⟩
          refine ⟨_, rfl, ?_⟩
          have n0_ := Aside0.mk (Kd.R_below (by (with_reducible repeat (first | apply Kd.R_alloc | apply Kd.R_drewN | apply Kd.R_drew)); exact HO_5.out) hb)
          have n1_ := Aside0.mk (Kd.R_below (by (with_reducible repeat (first | apply Kd.R_alloc | apply Kd.R_drewN | apply Kd.R_drew)); exact HO915.out) hb)
          have n2_ := Aside0.mk (blk_below (g := gb906) (o := .cells #[.int .i64 a0_0, .slice A0_1 l0_1.length c0_1] 29 (0, 0)) (by (with_reducible repeat (first | refine blk_drewN ?_ _ | refine blk_drew ?_ | refine blk_alloc ?_ _)); exact BK906.out) hb)
          have n3_ := Aside0.mk (blk_below (g := gb911) (o := .cells #[.int .i64 ((rd_T88 l1 x12_1).f0), .int .i64 ((rd_T88 l1 x12_1).f1)] 88 (0, 0)) (by (with_reducible repeat (first | refine blk_drewN ?_ _ | refine blk_drew ?_ | refine blk_alloc ?_ _)); exact BK911.out) hb)
          have n4_ := Aside0.mk (below_step (by repeat (first | (with_reducible first | exact HB.out | apply below_alloc | apply pw_below_drewN | apply below_drew1 | refine below_set ?_ GE906.out | refine below_set ?_ GE911.out) | exact HB.out)) hb)
          clear HO_5
          clear HO915
          clear BK906
          clear BK911
          clear HB
          have HO_5 := n0_
          have HO915 := n1_
          have BK906 := n2_
          have BK911 := n3_
          have HB := n4_
          clear n0_ n1_ n2_ n3_ n4_
          (try clear hb)
          (try clear hb2)
          (try clear hk)
          (try clear hi)
          refine hK.out _ _ ⟨(blk_cell BK911.out 0).trans rfl, (blk_cell BK911.out 1).trans rfl, (blk_cell BK906.out 0).trans rfl, (blk_cell BK906.out 1).trans rfl⟩ (fun hHeld => ?_)
          clear hK K
          refine norm_ (a' := ?_) ?_ ?_
          rotate_left
          ·show Act.put _ (some 35) _ = _
           simp only [Act.put, List.setIfInBounds_toArray, List.set_cons_zero, List.set_cons_succ, i64_w]
           rfl
          refine pq_ 22 38 24 8388607 HT_.out (by kernel_rfl) ?_
          refine pq_ 23 39 24 16777215 HT_.out (by kernel_rfl) ?_
          refine done_ (done_of HT_.out (by kernel_rfl)) ?_
          have hcz27_0 : w26.cell? ⟨gb911, 0, none⟩ = some (.int .i64 ((rd_T88 l1 x12_1).f0)) := (blk_cell BK911.out 0).trans rfl
          have hcz27_1 : w26.cell? ⟨gb911, 1, none⟩ = some (.int .i64 ((rd_T88 l1 x12_1).f1)) := (blk_cell BK911.out 1).trans rfl
          have hfz27_0 := blk_frozen BK911.out 0
          have hfz27_1 := blk_frozen BK911.out 1
          try go_wp2_with (first | ((with_reducible refine gate_callee (f := 126) rfl ?_); refine goesL_ (some 43) rfl rfl Try.func126 (by kernel_rfl) rfl #[.slice Ao23 x5_1.length co23, .int .i64 ((rd_T88 l1 x12_1).f0)] rfl (by (try simp only [List.map_toArray, List.map_cons, List.map_nil]); first | done | rfl | (simp only [List.length_drop, List.length_take]; rfl)) ?_; (with_reducible refine (spec_l1Drop.calls k1 _ _ x5_1 ((rd_T88 l1 x12_1).f0) t918 _ ?side1 ?side2 A17.out).mono ?_); (case side1 => repeat (first | exact (Kd.R_reads' HO_5.out).2.2 | (with_reducible refine Kd.C_alloc ?_ _) | (with_reducible refine Kd.C_drewN ?_ _) | (with_reducible refine Kd.C_drew ?_))); (case side2 => exact (Kd.R_reads' HO_5.out).2.1); rintro e w28 ⟨v919, rfl, ho0, hb⟩; refine ⟨_, rfl, ?_⟩; have n0_ := Aside0.mk (Kd.R_elder' (by (with_reducible repeat (first | apply Kd.R_alloc | apply Kd.R_drewN | apply Kd.R_drew)); exact HO_5.out) (Kd.R_base ho0) hb); have n1_ := Aside0.mk (Kd.R_elder' (by (with_reducible repeat (first | apply Kd.R_alloc | apply Kd.R_drewN | apply Kd.R_drew)); exact HO915.out) (Kd.R_base ho0) hb); have n2_ := Aside0.mk (Kd.R_lower (Kd.R_new' (Kd.R_new' ho0 (Kd.R_lt (by (with_reducible repeat (first | apply Kd.R_alloc | apply Kd.R_drewN | apply Kd.R_drew)); exact HO_5.out))) (Kd.R_lt (by (with_reducible repeat (first | apply Kd.R_alloc | apply Kd.R_drewN | apply Kd.R_drew)); exact HO915.out))) (below_size (by repeat (first | (with_reducible first | exact HB.out | apply below_alloc | apply pw_below_drewN | apply below_drew1 | refine below_set ?_ GE906.out | refine below_set ?_ GE911.out) | exact HB.out)))); have n3_ := Aside0.mk (blk_below (g := gb906) (o := .cells #[.int .i64 a0_0, .slice A0_1 l0_1.length c0_1] 29 (0, 0)) (by (with_reducible repeat (first | refine blk_drewN ?_ _ | refine blk_drew ?_ | refine blk_alloc ?_ _)); exact BK906.out) hb); have n4_ := Aside0.mk (blk_below (g := gb911) (o := .cells #[.int .i64 ((rd_T88 l1 x12_1).f0), .int .i64 ((rd_T88 l1 x12_1).f1)] 88 (0, 0)) (by (with_reducible repeat (first | refine blk_drewN ?_ _ | refine blk_drew ?_ | refine blk_alloc ?_ _)); exact BK911.out) hb); have n5_ := Aside0.mk (below_step (by repeat (first | (with_reducible first | exact HB.out | apply below_alloc | apply pw_below_drewN | apply below_drew1 | refine below_set ?_ GE906.out | refine below_set ?_ GE911.out) | exact HB.out)) hb); clear HO_5; clear HO915; clear BK906; clear BK911; clear HB; have HO_5 := n0_; have HO915 := n1_; have HO920 := n2_; have BK906 := n3_; have BK911 := n4_; have HB := n5_; clear n0_ n1_ n2_ n3_ n4_ n5_; (try clear hb); (try clear hb2); (try clear hk); (try clear hi); (try clear ho0)))
          go_roundg k1
          case measure => have := HK1.out; omega
          case rel => exact ⟨(t918), (wrap64 (x12_1 + 1)), (by first | rfl | (simp; done) | (simp [*]; done)), H', ⟨by have := HK1.out; omega⟩, ⟨by (with_reducible repeat (first | apply Kd.R_alloc | apply Kd.R_drewN | apply Kd.R_drew)); exact Kd.R_mono HO920.out (fun _ hk => trivial)⟩, ⟨by (with_reducible repeat (first | refine blk_drewN ?_ _ | refine blk_drew ?_ | refine blk_alloc ?_ _)); exact BK906.out⟩, ⟨by repeat (first | (with_reducible first | exact HB.out | apply below_alloc | apply pw_below_drewN | apply below_drew1 | refine below_set ?_ GE906.out | refine below_set ?_ GE911.out) | exact HB.out)⟩⟩
         ·rw [if_neg c16] at H
          have c16b0 : (t917 == ((rd_T88 l1 x12_1).f0)) = false := beq_eq_false_iff_ne.mpr c16
          have c16b1 : (t917 != ((rd_T88 l1 x12_1).f0)) = true := bne_iff_ne.mpr c16
          obtain rfl := Option.some.inj H
          have p910 : 0 ≤ (x12_1 : Int) := of_decide_eq_true (by first | (with_reducible assumption) | assumption)
          have q910 : x12_1 < (l1.length : Int) := of_decide_eq_true (by first | (with_reducible assumption) | assumption)
          obtain ⟨ad910, e910, hx910_0, hx910_1⟩ := at_T88 HR1.out x12_1 p910 q910
          cases e910
          replace hx910_0 := (HB.out.cell (World.block_lt_of_cell? w _ hx910_0)).trans hx910_0
          replace hx910_1 := (HB.out.cell (World.block_lt_of_cell? w _ hx910_1)).trans hx910_1
          replace p910 := eq_true p910
          replace q910 := eq_true q910
          try go_wp2_with (first | ((with_reducible refine gate_dst (N := 7) rfl ?_); refine box_event ?hg (N := 7) ?hd (cs := #[.int .i64 0, .int .i64 0]) (t := 88) ?hr ?_; (case hd => rfl); (case hg => rfl); (case hr => first | (go_simp; done) | (go_simp; rfl)); intro gb911 hg w29 hbox hb; have n0_ := Aside0.mk (Kd.R_below (by (with_reducible repeat (first | apply Kd.R_alloc | apply Kd.R_drewN | apply Kd.R_drew)); exact HO_5.out) hb); have n1_ := Aside0.mk (blk_below (g := gb906) (o := .cells #[.int .i64 a0_0, .slice A0_1 l0_1.length c0_1] 29 (0, 0)) (by (with_reducible repeat (first | refine blk_drewN ?_ _ | refine blk_drew ?_ | refine blk_alloc ?_ _)); exact BK906.out) hb); have n2_ := Aside0.mk (below_step (by repeat (first | (with_reducible first | exact HB.out | apply below_alloc | apply pw_below_drewN | apply below_drew1 | refine below_set ?_ GE906.out) | exact HB.out)) hb); have n3_ := Aside0.mk (hbox); have n4_ := Aside0.mk ((by rw [hg]; exact (below_size (by repeat (first | (with_reducible first | exact HB.out | apply below_alloc | apply pw_below_drewN | apply below_drew1 | refine below_set ?_ GE906.out) | exact HB.out))) : w.heap.size ≤ gb911)); have n5_ := Aside0.mk ((by rw [hg]; exact (below_size (by repeat (first | (with_reducible first | exact HB.out | apply below_alloc | apply pw_below_drewN | apply below_drew1 | refine below_set ?_ GE906.out) | exact HB.out))) : w.heap.size ≤ gb911)); have n6_ := Aside0.mk ((by rw [hg]; exact Nat.ne_of_lt (blk_lt (g := gb906) (o := .cells #[.int .i64 a0_0, .slice A0_1 l0_1.length c0_1] 29 (0, 0)) (by (with_reducible repeat (first | refine blk_drewN ?_ _ | refine blk_drew ?_ | refine blk_alloc ?_ _)); exact BK906.out)) : gb906 ≠ gb911)); have n7_ := Aside0.mk ((by rw [hg]; exact Nat.ne_of_gt (blk_lt (g := gb906) (o := .cells #[.int .i64 a0_0, .slice A0_1 l0_1.length c0_1] 29 (0, 0)) (by (with_reducible repeat (first | refine blk_drewN ?_ _ | refine blk_drew ?_ | refine blk_alloc ?_ _)); exact BK906.out)) : gb911 ≠ gb906)); clear HO_5; clear BK906; clear HB; have HO_5 := n0_; have BK906 := n1_; have HB := n2_; have BK911 := n3_; have GW911 := n4_; have GE911 := n5_; have NB906_911 := n6_; have NB911_906 := n7_; clear n0_ n1_ n2_ n3_ n4_ n5_ n6_ n7_; clear hb hbox hg; have hnb30 := NB911_906.out; have hnc30 := NB906_911.out; have hcz31_0 : w29.cell? ⟨gb911, 0, none⟩ = some (.int .i64 0) := (blk_cell BK911.out 0).trans rfl; have hcz31_1 : w29.cell? ⟨gb911, 1, none⟩ = some (.int .i64 0) := (blk_cell BK911.out 1).trans rfl; have hfz31_0 := blk_frozen BK911.out 0; have hfz31_1 := blk_frozen BK911.out 1))
          have n0_ : Aside0 (Kd.R (Kd.int .i64) 3 ((w29.setCell ⟨gb911, 0, none⟩ (.int .i64 ((rd_T88 l1 x12_1).f0))).setCell ⟨gb911, 1, none⟩ (.int .i64 ((rd_T88 l1 x12_1).f1))) w.heap.size (fun _ => True) u5 x5_1) := ⟨by (with_reducible repeat (first | apply Kd.R_alloc | apply Kd.R_drewN | apply Kd.R_drew)); exact Kd.R_mono (Kd.R_far (p := ⟨gb911, 1, none⟩) (Kd.R_far (p := ⟨gb911, 0, none⟩) (Kd.R_types HO_5.out BK911.out (by decide)) (fun _ hk => hk.2) (.int .i64 ((rd_T88 l1 x12_1).f0))) (fun _ hk => hk.2) (.int .i64 ((rd_T88 l1 x12_1).f1))) (fun _ hk => trivial)⟩
          have n1_ : Aside0 (((w29.setCell ⟨gb911, 0, none⟩ (.int .i64 ((rd_T88 l1 x12_1).f0))).setCell ⟨gb911, 1, none⟩ (.int .i64 ((rd_T88 l1 x12_1).f1))).heap[gb906]? = some (.cells #[.int .i64 a0_0, .slice A0_1 l0_1.length c0_1] 29 (0, 0))) := ⟨by (with_reducible repeat (first | refine blk_drewN ?_ _ | refine blk_drew ?_ | refine blk_alloc ?_ _)); refine blk_far ?_ NB906_911.out _; (with_reducible repeat (first | refine blk_drewN ?_ _ | refine blk_drew ?_ | refine blk_alloc ?_ _)); refine blk_far ?_ NB906_911.out _; (with_reducible repeat (first | refine blk_drewN ?_ _ | refine blk_drew ?_ | refine blk_alloc ?_ _)); exact BK906.out⟩
          have n2_ : Aside0 (((w29.setCell ⟨gb911, 0, none⟩ (.int .i64 ((rd_T88 l1 x12_1).f0))).setCell ⟨gb911, 1, none⟩ (.int .i64 ((rd_T88 l1 x12_1).f1))).heap[gb911]? = some (.cells #[.int .i64 ((rd_T88 l1 x12_1).f0), .int .i64 ((rd_T88 l1 x12_1).f1)] 88 (0, 0))) := ⟨by (with_reducible repeat (first | refine blk_drewN ?_ _ | refine blk_drew ?_ | refine blk_alloc ?_ _)); refine blk_put (cs := #[.int .i64 ((rd_T88 l1 x12_1).f0), .int .i64 0]) ?_ 1 _ rfl; (with_reducible repeat (first | refine blk_drewN ?_ _ | refine blk_drew ?_ | refine blk_alloc ?_ _)); refine blk_put (cs := #[.int .i64 0, .int .i64 0]) ?_ 0 _ rfl; (with_reducible repeat (first | refine blk_drewN ?_ _ | refine blk_drew ?_ | refine blk_alloc ?_ _)); exact BK911.out⟩
          have n3_ : Aside0 (Below w.heap.size w ((w29.setCell ⟨gb911, 0, none⟩ (.int .i64 ((rd_T88 l1 x12_1).f0))).setCell ⟨gb911, 1, none⟩ (.int .i64 ((rd_T88 l1 x12_1).f1)))) := ⟨by repeat (first | (with_reducible first | exact HB.out | apply below_alloc | apply pw_below_drewN | apply below_drew1 | refine below_set ?_ GE906.out | refine below_set ?_ GE911.out) | exact HB.out)⟩
          (try clear HO_5)
          (try clear BK906)
          (try clear BK911)
          (try clear HB)
          generalize ((w29.setCell ⟨gb911, 0, none⟩ (.int .i64 ((rd_T88 l1 x12_1).f0))).setCell ⟨gb911, 1, none⟩ (.int .i64 ((rd_T88 l1 x12_1).f1))) = w32 at n0_ n1_ n2_ n3_ ⊢
          have HO_5 := n0_
          have BK906 := n1_
          have BK911 := n2_
          have HB := n3_
          clear n0_ n1_ n2_ n3_
          have n0_ := Aside0.mk (Kd.R_drew HO_5.out)
          have n1_ := Aside0.mk (blk_drew BK906.out)
          have n2_ := Aside0.mk (blk_drew BK911.out)
          have n3_ := Aside0.mk (below_drew1 HB.out)
          clear HO_5
          clear BK906
          clear BK911
          clear HB
          have HO_5 := n0_
          have BK906 := n1_
          have BK911 := n2_
          have HB := n3_
          clear n0_ n1_ n2_ n3_
          obtain ⟨Ao34, co34, eo34⟩ := Kd.R_slice HO_5.out
          (first | subst eo34 | (injection eo34 with f1_ f2_ f3_; have f4_ := f1_.symm; have f5_ := f3_.symm; clear f1_ f2_ f3_; subst f4_; subst f5_))
          refine start_ (n := 24) (S := fun w' => w'.cell? ⟨gb911, 0, none⟩ = some (.int .i64 ((rd_T88 l1 x12_1).f0)) ∧ w'.cell? ⟨gb911, 1, none⟩ = some (.int .i64 ((rd_T88 l1 x12_1).f1)) ∧ w'.cell? ⟨gb906, 0, none⟩ = some (.int .i64 a0_0) ∧ w'.cell? ⟨gb906, 1, none⟩ = some (.slice A0_1 l0_1.length c0_1)) (ds := []) #[false, false, false, false, false, false, false, false, false, false, false, false, false, false, false, false, false, false, false, false, false, false, false, false] (by kernel_rfl) rfl rfl ⟨(blk_cell BK911.out 0).trans rfl, (blk_cell BK911.out 1).trans rfl, (blk_cell BK906.out 0).trans rfl, (blk_cell BK906.out 1).trans rfl⟩ (fun hHeld => ?_); refine with_tabW spec_peOrder.tab5 spec_peOrder.bits5 (fun HT_ HW_ => ?_)
          generalize w32.drew = w33 at HO_5 BK906 BK911 HB hHeld ⊢
          refine pq_ 0 16 24 1 HT_.out (by kernel_rfl) ?_
          refine pq_ 1 17 24 3 HT_.out (by kernel_rfl) ?_
          refine tq_ 2 18 24 7 HT_.out HW_.out (by kernel_rfl) hHeld ?_ rfl (by rintro w' ⟨s0, s1, s2, s3⟩; go_simp; with_reducible rfl)
          refine one_ (i := 3) (N := some 19) (bsA 24 15) rfl rfl (one_of HT_.out (by kernel_rfl)) (by decide) (fun K hK => ?_)
          refine goes_ Try.func75 (by kernel_rfl) rfl #[.slice Ao34 x5_1.length co34, .int .i64 ((rd_T88 l1 x12_1).f0)] (by rfl) rfl rfl (by (try simp only [List.map_toArray, List.map_cons, List.map_nil]); first | done | rfl | (simp only [List.length_drop, List.length_take]; rfl)) ?_
          with_reducible refine (spec_l1Has.calls k1 _ _ x5_1 ((rd_T88 l1 x12_1).f0) true _ ?side1 ?side2 A10.out).mono ?_
          (case side1 => repeat (first | exact (Kd.R_reads' HO_5.out).2.2 | (with_reducible refine Kd.C_alloc ?_ _) | (with_reducible refine Kd.C_drewN ?_ _) | (with_reducible refine Kd.C_drew ?_)))
          (case side2 => exact (Kd.R_reads' HO_5.out).2.1)
          rintro e w' ⟨rfl, ⟨nd, rfl⟩⟩
          refine ⟨_, rfl, ?_⟩
          refine hK.out _ _ ⟨(blk_cell BK911.out 0).trans rfl, (blk_cell BK911.out 1).trans rfl, (blk_cell BK906.out 0).trans rfl, (blk_cell BK906.out 1).trans rfl⟩ (fun hHeld => ?_)
          clear hK K
          refine norm_ (a' := ?_) ?_ ?_
          rotate_left
          ·show Act.put _ (some 19) _ = _
           simp only [Act.put, List.setIfInBounds_toArray, List.set_cons_zero, List.set_cons_succ, i64_w]
           rfl
          refine pq_ 4 20 24 31 HT_.out (by kernel_rfl) ?_
          refine pq_ 5 21 24 63 HT_.out (by kernel_rfl) ?_
          refine pq_ 7 23 24 191 HT_.out (by kernel_rfl) ?_
          refine pq_ 9 25 24 703 HT_.out (by kernel_rfl) ?_
          refine tq_ 6 22 24 767 HT_.out HW_.out (by kernel_rfl) hHeld ?_ rfl (by rintro w' ⟨s0, s1, s2, s3⟩; go_simp; with_reducible rfl)
          refine tq_ 10 26 24 1791 HT_.out HW_.out (by kernel_rfl) hHeld ?_ rfl (by rintro w' ⟨s0, s1, s2, s3⟩; go_simp; with_reducible rfl)
          refine one_ (i := 8) (N := some 24) (bsA 24 2047) rfl rfl (one_of HT_.out (by kernel_rfl)) (by decide) (fun K hK => ?_)
          refine goes_ Try.func79 (by kernel_rfl) rfl #[.agg #[.int .i64 a0_0, .slice A0_1 l0_1.length c0_1], .slice Ao34 x5_1.length co34] (by rfl) rfl rfl (by (try simp only [List.map_toArray, List.map_cons, List.map_nil]); first | done | rfl | (simp only [List.length_drop, List.length_take]; rfl)) ?_
          with_reducible refine (spec_peFree.calls k1 a0_0 _ _ l0_1 _ _ x5_1 t913 _ ?side1 ?side2 ?side3 ?side4 A12.out).mono ?_
          (case side1 => repeat (first | exact (Kd.C_below HR0_1.out (by repeat (first | (with_reducible first | exact HB.out | apply below_alloc | apply pw_below_drewN | apply below_drew1 | refine below_set ?_ GE906.out | refine below_set ?_ GE911.out) | exact HB.out))) | (with_reducible refine Kd.C_alloc ?_ _) | (with_reducible refine Kd.C_drewN ?_ _) | (with_reducible refine Kd.C_drew ?_)))
          (case side2 => exact HC0_1.out)
          (case side3 => repeat (first | exact (Kd.R_reads' HO_5.out).2.2 | (with_reducible refine Kd.C_alloc ?_ _) | (with_reducible refine Kd.C_drewN ?_ _) | (with_reducible refine Kd.C_drew ?_)))
          (case side4 => exact (Kd.R_reads' HO_5.out).2.1)
          rintro e w35 ⟨v914, rfl, ho0, hb⟩
          refine ⟨_, rfl, ?_⟩
          have n0_ := Aside0.mk (Kd.R_elder' (by (with_reducible repeat (first | apply Kd.R_alloc | apply Kd.R_drewN | apply Kd.R_drew)); exact HO_5.out) (Kd.R_base ho0) hb)
          have n1_ := Aside0.mk (Kd.R_lower (Kd.R_new' ho0 (Kd.R_lt (by (with_reducible repeat (first | apply Kd.R_alloc | apply Kd.R_drewN | apply Kd.R_drew)); exact HO_5.out))) (below_size (by repeat (first | (with_reducible first | exact HB.out | apply below_alloc | apply pw_below_drewN | apply below_drew1 | refine below_set ?_ GE906.out | refine below_set ?_ GE911.out) | exact HB.out))))
          have n2_ := Aside0.mk (blk_below (g := gb906) (o := .cells #[.int .i64 a0_0, .slice A0_1 l0_1.length c0_1] 29 (0, 0)) (by (with_reducible repeat (first | refine blk_drewN ?_ _ | refine blk_drew ?_ | refine blk_alloc ?_ _)); exact BK906.out) hb)
          have n3_ := Aside0.mk (blk_below (g := gb911) (o := .cells #[.int .i64 ((rd_T88 l1 x12_1).f0), .int .i64 ((rd_T88 l1 x12_1).f1)] 88 (0, 0)) (by (with_reducible repeat (first | refine blk_drewN ?_ _ | refine blk_drew ?_ | refine blk_alloc ?_ _)); exact BK911.out) hb)
          have n4_ := Aside0.mk (below_step (by repeat (first | (with_reducible first | exact HB.out | apply below_alloc | apply pw_below_drewN | apply below_drew1 | refine below_set ?_ GE906.out | refine below_set ?_ GE911.out) | exact HB.out)) hb)
          clear HO_5
          clear BK906
          clear BK911
          clear HB
          have HO_5 := n0_
          have HO915 := n1_
          have BK906 := n2_
          have BK911 := n3_
          have HB := n4_
          clear n0_ n1_ n2_ n3_ n4_
          (try clear hb)
          (try clear hb2)
          (try clear hk)
          (try clear hi)
          (try clear ho0)
          obtain ⟨Ao36, co36, eo36⟩ := Kd.R_slice HO915.out
          (first | subst eo36 | (injection eo36 with f1_ f2_ f3_; have f4_ := f1_.symm; have f5_ := f3_.symm; clear f1_ f2_ f3_; subst f4_; subst f5_))
          refine hK.out _ _ ⟨(blk_cell BK911.out 0).trans rfl, (blk_cell BK911.out 1).trans rfl, (blk_cell BK906.out 0).trans rfl, (blk_cell BK906.out 1).trans rfl⟩ (fun hHeld => ?_)
          clear hK K
          refine norm_ (a' := ?_) ?_ ?_
          rotate_left
          ·show Act.put _ (some 24) _ = _
           simp only [Act.put, List.setIfInBounds_toArray, List.set_cons_zero, List.set_cons_succ, i64_w]
           rfl
          refine one_ (i := 11) (N := some 27) (bsA 24 4095) rfl rfl (one_of HT_.out (by kernel_rfl)) (by decide) (fun K hK => ?_)
          refine goes_ Try.func75 (by kernel_rfl) rfl #[.slice Ao36 t913.length co36, .int .i64 ((rd_T88 l1 x12_1).f1)] (by rfl) rfl rfl (by (try simp only [List.map_toArray, List.map_cons, List.map_nil]); first | done | rfl | (simp only [List.length_drop, List.length_take]; rfl)) ?_
          with_reducible refine (spec_l1Has.calls k1 _ _ t913 ((rd_T88 l1 x12_1).f1) true _ ?side1 ?side2 A13.out).mono ?_
          (case side1 => repeat (first | exact (Kd.R_reads' HO915.out).2.2 | (with_reducible refine Kd.C_alloc ?_ _) | (with_reducible refine Kd.C_drewN ?_ _) | (with_reducible refine Kd.C_drew ?_)))
          (case side2 => exact (Kd.R_reads' HO915.out).2.1)
          rintro e w' ⟨rfl, ⟨nd, rfl⟩⟩
          refine ⟨_, rfl, ?_⟩
          refine hK.out _ _ ⟨(blk_cell BK911.out 0).trans rfl, (blk_cell BK911.out 1).trans rfl, (blk_cell BK906.out 0).trans rfl, (blk_cell BK906.out 1).trans rfl⟩ (fun hHeld => ?_)
          clear hK K
          refine norm_ (a' := ?_) ?_ ?_
          rotate_left
          ·show Act.put _ (some 27) _ = _
           simp only [Act.put, List.setIfInBounds_toArray, List.set_cons_zero, List.set_cons_succ, i64_w]
           rfl
          refine pq_ 12 28 24 8191 HT_.out (by kernel_rfl) ?_
          refine pq_ 13 29 24 16383 HT_.out (by kernel_rfl) ?_
          refine pq_ 14 30 24 32767 HT_.out (by kernel_rfl) ?_
          refine pq_ 16 32 24 98303 HT_.out (by kernel_rfl) ?_
          refine pq_ 17 33 24 229375 HT_.out (by kernel_rfl) ?_
          refine pq_ 20 36 24 1277951 HT_.out (by kernel_rfl) ?_
          refine tq_ 15 31 24 1310719 HT_.out HW_.out (by kernel_rfl) hHeld ?_ rfl (by rintro w' ⟨s0, s1, s2, s3⟩; go_simp; with_reducible rfl)
          refine tq_ 18 34 24 1572863 HT_.out HW_.out (by kernel_rfl) hHeld ?_ rfl (by rintro w' ⟨s0, s1, s2, s3⟩; go_simp; with_reducible rfl)
          refine tq_ 21 37 24 3670015 HT_.out HW_.out (by kernel_rfl) hHeld ?_ rfl (by rintro w' ⟨s0, s1, s2, s3⟩; go_simp; with_reducible rfl)
          refine one_ (i := 19) (N := some 35) (bsA 24 4194303) rfl rfl (one_of HT_.out (by kernel_rfl)) (by decide) (fun K hK => ?_)
          refine goes_ Try.func125 (by kernel_rfl) rfl #[.agg #[.int .i64 a0_0, .slice A0_1 l0_1.length c0_1], .slice Ao34 x5_1.length co34, .int .i64 ((rd_T88 l1 x12_1).f1)] (by rfl) rfl rfl (by (try simp only [List.map_toArray, List.map_cons, List.map_nil]); first | done | rfl | (simp only [List.length_drop, List.length_take]; rfl)) ?_
          with_reducible refine (spec_peWith.calls k1 a0_0 _ _ l0_1 _ _ x5_1 ((rd_T88 l1 x12_1).f1) t917 _ ?side1 ?side2 ?side3 ?side4 A15.out).mono ?_
          (case side1 => repeat (first | exact (Kd.C_below HR0_1.out (by repeat (first | (with_reducible first | exact HB.out | apply below_alloc | apply pw_below_drewN | apply below_drew1 | refine below_set ?_ GE906.out | refine below_set ?_ GE911.out) | exact HB.out))) | (with_reducible refine Kd.C_alloc ?_ _) | (with_reducible refine Kd.C_drewN ?_ _) | (with_reducible refine Kd.C_drew ?_)))
          (case side2 => exact HC0_1.out)
          (case side3 => repeat (first | exact (Kd.R_reads' HO_5.out).2.2 | (with_reducible refine Kd.C_alloc ?_ _) | (with_reducible refine Kd.C_drewN ?_ _) | (with_reducible refine Kd.C_drew ?_)))
          (case side4 => exact (Kd.R_reads' HO_5.out).2.1)
          rintro e w37 ⟨rfl, hb⟩
          refine ⟨_, rfl, ?_⟩
          have n0_ := Aside0.mk (Kd.R_below (by (with_reducible repeat (first | apply Kd.R_alloc | apply Kd.R_drewN | apply Kd.R_drew)); exact HO_5.out) hb)
          have n1_ := Aside0.mk (Kd.R_below (by (with_reducible repeat (first | apply Kd.R_alloc | apply Kd.R_drewN | apply Kd.R_drew)); exact HO915.out) hb)
          have n2_ := Aside0.mk (blk_below (g := gb906) (o := .cells #[.int .i64 a0_0, .slice A0_1 l0_1.length c0_1] 29 (0, 0)) (by (with_reducible repeat (first | refine blk_drewN ?_ _ | refine blk_drew ?_ | refine blk_alloc ?_ _)); exact BK906.out) hb)
          have n3_ := Aside0.mk (blk_below (g := gb911) (o := .cells #[.int .i64 ((rd_T88 l1 x12_1).f0), .int .i64 ((rd_T88 l1 x12_1).f1)] 88 (0, 0)) (by (with_reducible repeat (first | refine blk_drewN ?_ _ | refine blk_drew ?_ | refine blk_alloc ?_ _)); exact BK911.out) hb)
          have n4_ := Aside0.mk (below_step (by repeat (first | (with_reducible first | exact HB.out | apply below_alloc | apply pw_below_drewN | apply below_drew1 | refine below_set ?_ GE906.out | refine below_set ?_ GE911.out) | exact HB.out)) hb)
          clear HO_5
          clear HO915
          clear BK906
          clear BK911
          clear HB
          have HO_5 := n0_
          have HO915 := n1_
          have BK906 := n2_
          have BK911 := n3_
          have HB := n4_
          clear n0_ n1_ n2_ n3_ n4_
          (try clear hb)
          (try clear hb2)
          (try clear hk)
          (try clear hi)
          refine hK.out _ _ ⟨(blk_cell BK911.out 0).trans rfl, (blk_cell BK911.out 1).trans rfl, (blk_cell BK906.out 0).trans rfl, (blk_cell BK906.out 1).trans rfl⟩ (fun hHeld => ?_)
          clear hK K
          refine norm_ (a' := ?_) ?_ ?_
          rotate_left
          ·show Act.put _ (some 35) _ = _
           simp only [Act.put, List.setIfInBounds_toArray, List.set_cons_zero, List.set_cons_succ, i64_w]
           rfl
          refine pq_ 22 38 24 8388607 HT_.out (by kernel_rfl) ?_
          refine pq_ 23 39 24 16777215 HT_.out (by kernel_rfl) ?_
          refine done_ (done_of HT_.out (by kernel_rfl)) ?_
          try go_wp2
          go_ret
          exact ⟨by first | rfl | (simp [errW_none, errW_some] <;> rfl) | (simp [*, errW_none, errW_some] <;> rfl), by repeat (first | (with_reducible first | exact HB.out | apply below_alloc | apply pw_below_drewN | apply below_drew1 | refine below_set ?_ GE906.out | refine below_set ?_ GE911.out) | exact HB.out)⟩
        ·replace c14 := Bool.eq_false_iff.mpr c14
         subst c14
         have H1 : (some false) = some r := by rw [if_neg (show ¬ (false = true) by decide)] at H; exact H
         clear H
         have H := H1
         clear H1
         obtain rfl := Option.some.inj H
         have p910 : 0 ≤ (x12_1 : Int) := of_decide_eq_true (by first | (with_reducible assumption) | assumption)
         have q910 : x12_1 < (l1.length : Int) := of_decide_eq_true (by first | (with_reducible assumption) | assumption)
         obtain ⟨ad910, e910, hx910_0, hx910_1⟩ := at_T88 HR1.out x12_1 p910 q910
         cases e910
         replace hx910_0 := (HB.out.cell (World.block_lt_of_cell? w _ hx910_0)).trans hx910_0
         replace hx910_1 := (HB.out.cell (World.block_lt_of_cell? w _ hx910_1)).trans hx910_1
         replace p910 := eq_true p910
         replace q910 := eq_true q910
         try go_wp2_with (first | ((with_reducible refine gate_dst (N := 7) rfl ?_); refine box_event ?hg (N := 7) ?hd (cs := #[.int .i64 0, .int .i64 0]) (t := 88) ?hr ?_; (case hd => rfl); (case hg => rfl); (case hr => first | (go_simp; done) | (go_simp; rfl)); intro gb911 hg w38 hbox hb; have n0_ := Aside0.mk (Kd.R_below (by (with_reducible repeat (first | apply Kd.R_alloc | apply Kd.R_drewN | apply Kd.R_drew)); exact HO_5.out) hb); have n1_ := Aside0.mk (blk_below (g := gb906) (o := .cells #[.int .i64 a0_0, .slice A0_1 l0_1.length c0_1] 29 (0, 0)) (by (with_reducible repeat (first | refine blk_drewN ?_ _ | refine blk_drew ?_ | refine blk_alloc ?_ _)); exact BK906.out) hb); have n2_ := Aside0.mk (below_step (by repeat (first | (with_reducible first | exact HB.out | apply below_alloc | apply pw_below_drewN | apply below_drew1 | refine below_set ?_ GE906.out) | exact HB.out)) hb); have n3_ := Aside0.mk (hbox); have n4_ := Aside0.mk ((by rw [hg]; exact (below_size (by repeat (first | (with_reducible first | exact HB.out | apply below_alloc | apply pw_below_drewN | apply below_drew1 | refine below_set ?_ GE906.out) | exact HB.out))) : w.heap.size ≤ gb911)); have n5_ := Aside0.mk ((by rw [hg]; exact (below_size (by repeat (first | (with_reducible first | exact HB.out | apply below_alloc | apply pw_below_drewN | apply below_drew1 | refine below_set ?_ GE906.out) | exact HB.out))) : w.heap.size ≤ gb911)); have n6_ := Aside0.mk ((by rw [hg]; exact Nat.ne_of_lt (blk_lt (g := gb906) (o := .cells #[.int .i64 a0_0, .slice A0_1 l0_1.length c0_1] 29 (0, 0)) (by (with_reducible repeat (first | refine blk_drewN ?_ _ | refine blk_drew ?_ | refine blk_alloc ?_ _)); exact BK906.out)) : gb906 ≠ gb911)); have n7_ := Aside0.mk ((by rw [hg]; exact Nat.ne_of_gt (blk_lt (g := gb906) (o := .cells #[.int .i64 a0_0, .slice A0_1 l0_1.length c0_1] 29 (0, 0)) (by (with_reducible repeat (first | refine blk_drewN ?_ _ | refine blk_drew ?_ | refine blk_alloc ?_ _)); exact BK906.out)) : gb911 ≠ gb906)); clear HO_5; clear BK906; clear HB; have HO_5 := n0_; have BK906 := n1_; have HB := n2_; have BK911 := n3_; have GW911 := n4_; have GE911 := n5_; have NB906_911 := n6_; have NB911_906 := n7_; clear n0_ n1_ n2_ n3_ n4_ n5_ n6_ n7_; clear hb hbox hg; have hnb39 := NB911_906.out; have hnc39 := NB906_911.out; have hcz40_0 : w38.cell? ⟨gb911, 0, none⟩ = some (.int .i64 0) := (blk_cell BK911.out 0).trans rfl; have hcz40_1 : w38.cell? ⟨gb911, 1, none⟩ = some (.int .i64 0) := (blk_cell BK911.out 1).trans rfl; have hfz40_0 := blk_frozen BK911.out 0; have hfz40_1 := blk_frozen BK911.out 1))
         have n0_ : Aside0 (Kd.R (Kd.int .i64) 3 ((w38.setCell ⟨gb911, 0, none⟩ (.int .i64 ((rd_T88 l1 x12_1).f0))).setCell ⟨gb911, 1, none⟩ (.int .i64 ((rd_T88 l1 x12_1).f1))) w.heap.size (fun _ => True) u5 x5_1) := ⟨by (with_reducible repeat (first | apply Kd.R_alloc | apply Kd.R_drewN | apply Kd.R_drew)); exact Kd.R_mono (Kd.R_far (p := ⟨gb911, 1, none⟩) (Kd.R_far (p := ⟨gb911, 0, none⟩) (Kd.R_types HO_5.out BK911.out (by decide)) (fun _ hk => hk.2) (.int .i64 ((rd_T88 l1 x12_1).f0))) (fun _ hk => hk.2) (.int .i64 ((rd_T88 l1 x12_1).f1))) (fun _ hk => trivial)⟩
         have n1_ : Aside0 (((w38.setCell ⟨gb911, 0, none⟩ (.int .i64 ((rd_T88 l1 x12_1).f0))).setCell ⟨gb911, 1, none⟩ (.int .i64 ((rd_T88 l1 x12_1).f1))).heap[gb906]? = some (.cells #[.int .i64 a0_0, .slice A0_1 l0_1.length c0_1] 29 (0, 0))) := ⟨by (with_reducible repeat (first | refine blk_drewN ?_ _ | refine blk_drew ?_ | refine blk_alloc ?_ _)); refine blk_far ?_ NB906_911.out _; (with_reducible repeat (first | refine blk_drewN ?_ _ | refine blk_drew ?_ | refine blk_alloc ?_ _)); refine blk_far ?_ NB906_911.out _; (with_reducible repeat (first | refine blk_drewN ?_ _ | refine blk_drew ?_ | refine blk_alloc ?_ _)); exact BK906.out⟩
         have n2_ : Aside0 (((w38.setCell ⟨gb911, 0, none⟩ (.int .i64 ((rd_T88 l1 x12_1).f0))).setCell ⟨gb911, 1, none⟩ (.int .i64 ((rd_T88 l1 x12_1).f1))).heap[gb911]? = some (.cells #[.int .i64 ((rd_T88 l1 x12_1).f0), .int .i64 ((rd_T88 l1 x12_1).f1)] 88 (0, 0))) := ⟨by (with_reducible repeat (first | refine blk_drewN ?_ _ | refine blk_drew ?_ | refine blk_alloc ?_ _)); refine blk_put (cs := #[.int .i64 ((rd_T88 l1 x12_1).f0), .int .i64 0]) ?_ 1 _ rfl; (with_reducible repeat (first | refine blk_drewN ?_ _ | refine blk_drew ?_ | refine blk_alloc ?_ _)); refine blk_put (cs := #[.int .i64 0, .int .i64 0]) ?_ 0 _ rfl; (with_reducible repeat (first | refine blk_drewN ?_ _ | refine blk_drew ?_ | refine blk_alloc ?_ _)); exact BK911.out⟩
         have n3_ : Aside0 (Below w.heap.size w ((w38.setCell ⟨gb911, 0, none⟩ (.int .i64 ((rd_T88 l1 x12_1).f0))).setCell ⟨gb911, 1, none⟩ (.int .i64 ((rd_T88 l1 x12_1).f1)))) := ⟨by repeat (first | (with_reducible first | exact HB.out | apply below_alloc | apply pw_below_drewN | apply below_drew1 | refine below_set ?_ GE906.out | refine below_set ?_ GE911.out) | exact HB.out)⟩
         (try clear HO_5)
         (try clear BK906)
         (try clear BK911)
         (try clear HB)
         generalize ((w38.setCell ⟨gb911, 0, none⟩ (.int .i64 ((rd_T88 l1 x12_1).f0))).setCell ⟨gb911, 1, none⟩ (.int .i64 ((rd_T88 l1 x12_1).f1))) = w41 at n0_ n1_ n2_ n3_ ⊢
         have HO_5 := n0_
         have BK906 := n1_
         have BK911 := n2_
         have HB := n3_
         clear n0_ n1_ n2_ n3_
         have n0_ := Aside0.mk (Kd.R_drew HO_5.out)
         have n1_ := Aside0.mk (blk_drew BK906.out)
         have n2_ := Aside0.mk (blk_drew BK911.out)
         have n3_ := Aside0.mk (below_drew1 HB.out)
         clear HO_5
         clear BK906
         clear BK911
         clear HB
         have HO_5 := n0_
         have BK906 := n1_
         have BK911 := n2_
         have HB := n3_
         clear n0_ n1_ n2_ n3_
         obtain ⟨Ao43, co43, eo43⟩ := Kd.R_slice HO_5.out
         (first | subst eo43 | (injection eo43 with f1_ f2_ f3_; have f4_ := f1_.symm; have f5_ := f3_.symm; clear f1_ f2_ f3_; subst f4_; subst f5_))
         refine start_ (n := 24) (S := fun w' => w'.cell? ⟨gb911, 0, none⟩ = some (.int .i64 ((rd_T88 l1 x12_1).f0)) ∧ w'.cell? ⟨gb911, 1, none⟩ = some (.int .i64 ((rd_T88 l1 x12_1).f1)) ∧ w'.cell? ⟨gb906, 0, none⟩ = some (.int .i64 a0_0) ∧ w'.cell? ⟨gb906, 1, none⟩ = some (.slice A0_1 l0_1.length c0_1)) (ds := []) #[false, false, false, false, false, false, false, false, false, false, false, false, false, false, false, false, false, false, false, false, false, false, false, false] (by kernel_rfl) rfl rfl ⟨(blk_cell BK911.out 0).trans rfl, (blk_cell BK911.out 1).trans rfl, (blk_cell BK906.out 0).trans rfl, (blk_cell BK906.out 1).trans rfl⟩ (fun hHeld => ?_); refine with_tabW spec_peOrder.tab5 spec_peOrder.bits5 (fun HT_ HW_ => ?_)
         generalize w41.drew = w42 at HO_5 BK906 BK911 HB hHeld ⊢
         refine pq_ 0 16 24 1 HT_.out (by kernel_rfl) ?_
         refine pq_ 1 17 24 3 HT_.out (by kernel_rfl) ?_
         refine tq_ 2 18 24 7 HT_.out HW_.out (by kernel_rfl) hHeld ?_ rfl (by rintro w' ⟨s0, s1, s2, s3⟩; go_simp; with_reducible rfl)
         refine one_ (i := 3) (N := some 19) (bsA 24 15) rfl rfl (one_of HT_.out (by kernel_rfl)) (by decide) (fun K hK => ?_)
         refine goes_ Try.func75 (by kernel_rfl) rfl #[.slice Ao43 x5_1.length co43, .int .i64 ((rd_T88 l1 x12_1).f0)] (by rfl) rfl rfl (by (try simp only [List.map_toArray, List.map_cons, List.map_nil]); first | done | rfl | (simp only [List.length_drop, List.length_take]; rfl)) ?_
         with_reducible refine (spec_l1Has.calls k1 _ _ x5_1 ((rd_T88 l1 x12_1).f0) true _ ?side1 ?side2 A10.out).mono ?_
         (case side1 => repeat (first | exact (Kd.R_reads' HO_5.out).2.2 | (with_reducible refine Kd.C_alloc ?_ _) | (with_reducible refine Kd.C_drewN ?_ _) | (with_reducible refine Kd.C_drew ?_)))
         (case side2 => exact (Kd.R_reads' HO_5.out).2.1)
         rintro e w' ⟨rfl, ⟨nd, rfl⟩⟩
         refine ⟨_, rfl, ?_⟩
         refine hK.out _ _ ⟨(blk_cell BK911.out 0).trans rfl, (blk_cell BK911.out 1).trans rfl, (blk_cell BK906.out 0).trans rfl, (blk_cell BK906.out 1).trans rfl⟩ (fun hHeld => ?_)
         clear hK K
         refine norm_ (a' := ?_) ?_ ?_
         rotate_left
         ·show Act.put _ (some 19) _ = _
          simp only [Act.put, List.setIfInBounds_toArray, List.set_cons_zero, List.set_cons_succ, i64_w]
          rfl
         refine pq_ 4 20 24 31 HT_.out (by kernel_rfl) ?_
         refine pq_ 5 21 24 63 HT_.out (by kernel_rfl) ?_
         refine pq_ 7 23 24 191 HT_.out (by kernel_rfl) ?_
         refine pq_ 9 25 24 703 HT_.out (by kernel_rfl) ?_
         refine tq_ 6 22 24 767 HT_.out HW_.out (by kernel_rfl) hHeld ?_ rfl (by rintro w' ⟨s0, s1, s2, s3⟩; go_simp; with_reducible rfl)
         refine tq_ 10 26 24 1791 HT_.out HW_.out (by kernel_rfl) hHeld ?_ rfl (by rintro w' ⟨s0, s1, s2, s3⟩; go_simp; with_reducible rfl)
         refine one_ (i := 8) (N := some 24) (bsA 24 2047) rfl rfl (one_of HT_.out (by kernel_rfl)) (by decide) (fun K hK => ?_)
         refine goes_ Try.func79 (by kernel_rfl) rfl #[.agg #[.int .i64 a0_0, .slice A0_1 l0_1.length c0_1], .slice Ao43 x5_1.length co43] (by rfl) rfl rfl (by (try simp only [List.map_toArray, List.map_cons, List.map_nil]); first | done | rfl | (simp only [List.length_drop, List.length_take]; rfl)) ?_
         with_reducible refine (spec_peFree.calls k1 a0_0 _ _ l0_1 _ _ x5_1 t913 _ ?side1 ?side2 ?side3 ?side4 A12.out).mono ?_
         (case side1 => repeat (first | exact (Kd.C_below HR0_1.out (by repeat (first | (with_reducible first | exact HB.out | apply below_alloc | apply pw_below_drewN | apply below_drew1 | refine below_set ?_ GE906.out | refine below_set ?_ GE911.out) | exact HB.out))) | (with_reducible refine Kd.C_alloc ?_ _) | (with_reducible refine Kd.C_drewN ?_ _) | (with_reducible refine Kd.C_drew ?_)))
         (case side2 => exact HC0_1.out)
         (case side3 => repeat (first | exact (Kd.R_reads' HO_5.out).2.2 | (with_reducible refine Kd.C_alloc ?_ _) | (with_reducible refine Kd.C_drewN ?_ _) | (with_reducible refine Kd.C_drew ?_)))
         (case side4 => exact (Kd.R_reads' HO_5.out).2.1)
         rintro e w44 ⟨v914, rfl, ho0, hb⟩
         refine ⟨_, rfl, ?_⟩
         have n0_ := Aside0.mk (Kd.R_elder' (by (with_reducible repeat (first | apply Kd.R_alloc | apply Kd.R_drewN | apply Kd.R_drew)); exact HO_5.out) (Kd.R_base ho0) hb)
         have n1_ := Aside0.mk (Kd.R_lower (Kd.R_new' ho0 (Kd.R_lt (by (with_reducible repeat (first | apply Kd.R_alloc | apply Kd.R_drewN | apply Kd.R_drew)); exact HO_5.out))) (below_size (by repeat (first | (with_reducible first | exact HB.out | apply below_alloc | apply pw_below_drewN | apply below_drew1 | refine below_set ?_ GE906.out | refine below_set ?_ GE911.out) | exact HB.out))))
         have n2_ := Aside0.mk (blk_below (g := gb906) (o := .cells #[.int .i64 a0_0, .slice A0_1 l0_1.length c0_1] 29 (0, 0)) (by (with_reducible repeat (first | refine blk_drewN ?_ _ | refine blk_drew ?_ | refine blk_alloc ?_ _)); exact BK906.out) hb)
         have n3_ := Aside0.mk (blk_below (g := gb911) (o := .cells #[.int .i64 ((rd_T88 l1 x12_1).f0), .int .i64 ((rd_T88 l1 x12_1).f1)] 88 (0, 0)) (by (with_reducible repeat (first | refine blk_drewN ?_ _ | refine blk_drew ?_ | refine blk_alloc ?_ _)); exact BK911.out) hb)
         have n4_ := Aside0.mk (below_step (by repeat (first | (with_reducible first | exact HB.out | apply below_alloc | apply pw_below_drewN | apply below_drew1 | refine below_set ?_ GE906.out | refine below_set ?_ GE911.out) | exact HB.out)) hb)
         clear HO_5
         clear BK906
         clear BK911
         clear HB
         have HO_5 := n0_
         have HO915 := n1_
         have BK906 := n2_
         have BK911 := n3_
         have HB := n4_
         clear n0_ n1_ n2_ n3_ n4_
         (try clear hb)
         (try clear hb2)
         (try clear hk)
         (try clear hi)
         (try clear ho0)
         obtain ⟨Ao45, co45, eo45⟩ := Kd.R_slice HO915.out
         (first | subst eo45 | (injection eo45 with f1_ f2_ f3_; have f4_ := f1_.symm; have f5_ := f3_.symm; clear f1_ f2_ f3_; subst f4_; subst f5_))
         refine hK.out _ _ ⟨(blk_cell BK911.out 0).trans rfl, (blk_cell BK911.out 1).trans rfl, (blk_cell BK906.out 0).trans rfl, (blk_cell BK906.out 1).trans rfl⟩ (fun hHeld => ?_)
         clear hK K
         refine norm_ (a' := ?_) ?_ ?_
         rotate_left
         ·show Act.put _ (some 24) _ = _
          simp only [Act.put, List.setIfInBounds_toArray, List.set_cons_zero, List.set_cons_succ, i64_w]
          rfl
         refine one_ (i := 11) (N := some 27) (bsA 24 4095) rfl rfl (one_of HT_.out (by kernel_rfl)) (by decide) (fun K hK => ?_)
         refine goes_ Try.func75 (by kernel_rfl) rfl #[.slice Ao45 t913.length co45, .int .i64 ((rd_T88 l1 x12_1).f1)] (by rfl) rfl rfl (by (try simp only [List.map_toArray, List.map_cons, List.map_nil]); first | done | rfl | (simp only [List.length_drop, List.length_take]; rfl)) ?_
         with_reducible refine (spec_l1Has.calls k1 _ _ t913 ((rd_T88 l1 x12_1).f1) false _ ?side1 ?side2 A13.out).mono ?_
         (case side1 => repeat (first | exact (Kd.R_reads' HO915.out).2.2 | (with_reducible refine Kd.C_alloc ?_ _) | (with_reducible refine Kd.C_drewN ?_ _) | (with_reducible refine Kd.C_drew ?_)))
         (case side2 => exact (Kd.R_reads' HO915.out).2.1)
         rintro e w' ⟨rfl, ⟨nd, rfl⟩⟩
         refine ⟨_, rfl, ?_⟩
         refine hK.out _ _ ⟨(blk_cell BK911.out 0).trans rfl, (blk_cell BK911.out 1).trans rfl, (blk_cell BK906.out 0).trans rfl, (blk_cell BK906.out 1).trans rfl⟩ (fun hHeld => ?_)
         clear hK K
         refine norm_ (a' := ?_) ?_ ?_
         rotate_left
         ·show Act.put _ (some 27) _ = _
          simp only [Act.put, List.setIfInBounds_toArray, List.set_cons_zero, List.set_cons_succ, i64_w]
          rfl
         refine pq_ 12 28 24 8191 HT_.out (by kernel_rfl) ?_
         refine pq_ 13 29 24 16383 HT_.out (by kernel_rfl) ?_
         refine pq_ 14 30 24 32767 HT_.out (by kernel_rfl) ?_
         refine uq_ 15 31 24 65535 HT_.out (by kernel_rfl) ?_
         refine uq_ 16 32 24 131071 HT_.out (by kernel_rfl) ?_
         refine uq_ 17 33 24 262143 HT_.out (by kernel_rfl) ?_
         refine uq_ 18 34 24 524287 HT_.out (by kernel_rfl) ?_
         refine uq_ 19 35 24 1048575 HT_.out (by kernel_rfl) ?_
         refine uq_ 20 36 24 2097151 HT_.out (by kernel_rfl) ?_
         refine uq_ 21 37 24 4194303 HT_.out (by kernel_rfl) ?_
         refine uq_ 22 38 24 8388607 HT_.out (by kernel_rfl) ?_
         refine pq_ 23 39 24 16777215 HT_.out (by kernel_rfl) ?_
         refine done_ (done_of HT_.out (by kernel_rfl)) ?_
         try go_wp2
         go_ret
         exact ⟨by first | rfl | (simp [errW_none, errW_some] <;> rfl) | (simp [*, errW_none, errW_some] <;> rfl), by repeat (first | (with_reducible first | exact HB.out | apply below_alloc | apply pw_below_drewN | apply below_drew1 | refine below_set ?_ GE906.out | refine below_set ?_ GE911.out) | exact HB.out)⟩
       ·replace c11 := Bool.eq_false_iff.mpr c11
        subst c11
        have H1 : (some false) = some r := by rw [if_neg (show ¬ (false = true) by decide)] at H; exact H
        clear H
        have H := H1
        clear H1
        obtain rfl := Option.some.inj H
        have p910 : 0 ≤ (x12_1 : Int) := of_decide_eq_true (by first | (with_reducible assumption) | assumption)
        have q910 : x12_1 < (l1.length : Int) := of_decide_eq_true (by first | (with_reducible assumption) | assumption)
        obtain ⟨ad910, e910, hx910_0, hx910_1⟩ := at_T88 HR1.out x12_1 p910 q910
        cases e910
        replace hx910_0 := (HB.out.cell (World.block_lt_of_cell? w _ hx910_0)).trans hx910_0
        replace hx910_1 := (HB.out.cell (World.block_lt_of_cell? w _ hx910_1)).trans hx910_1
        replace p910 := eq_true p910
        replace q910 := eq_true q910
        try go_wp2_with (first | ((with_reducible refine gate_dst (N := 7) rfl ?_); refine box_event ?hg (N := 7) ?hd (cs := #[.int .i64 0, .int .i64 0]) (t := 88) ?hr ?_; (case hd => rfl); (case hg => rfl); (case hr => first | (go_simp; done) | (go_simp; rfl)); intro gb911 hg w46 hbox hb; have n0_ := Aside0.mk (Kd.R_below (by (with_reducible repeat (first | apply Kd.R_alloc | apply Kd.R_drewN | apply Kd.R_drew)); exact HO_5.out) hb); have n1_ := Aside0.mk (blk_below (g := gb906) (o := .cells #[.int .i64 a0_0, .slice A0_1 l0_1.length c0_1] 29 (0, 0)) (by (with_reducible repeat (first | refine blk_drewN ?_ _ | refine blk_drew ?_ | refine blk_alloc ?_ _)); exact BK906.out) hb); have n2_ := Aside0.mk (below_step (by repeat (first | (with_reducible first | exact HB.out | apply below_alloc | apply pw_below_drewN | apply below_drew1 | refine below_set ?_ GE906.out) | exact HB.out)) hb); have n3_ := Aside0.mk (hbox); have n4_ := Aside0.mk ((by rw [hg]; exact (below_size (by repeat (first | (with_reducible first | exact HB.out | apply below_alloc | apply pw_below_drewN | apply below_drew1 | refine below_set ?_ GE906.out) | exact HB.out))) : w.heap.size ≤ gb911)); have n5_ := Aside0.mk ((by rw [hg]; exact (below_size (by repeat (first | (with_reducible first | exact HB.out | apply below_alloc | apply pw_below_drewN | apply below_drew1 | refine below_set ?_ GE906.out) | exact HB.out))) : w.heap.size ≤ gb911)); have n6_ := Aside0.mk ((by rw [hg]; exact Nat.ne_of_lt (blk_lt (g := gb906) (o := .cells #[.int .i64 a0_0, .slice A0_1 l0_1.length c0_1] 29 (0, 0)) (by (with_reducible repeat (first | refine blk_drewN ?_ _ | refine blk_drew ?_ | refine blk_alloc ?_ _)); exact BK906.out)) : gb906 ≠ gb911)); have n7_ := Aside0.mk ((by rw [hg]; exact Nat.ne_of_gt (blk_lt (g := gb906) (o := .cells #[.int .i64 a0_0, .slice A0_1 l0_1.length c0_1] 29 (0, 0)) (by (with_reducible repeat (first | refine blk_drewN ?_ _ | refine blk_drew ?_ | refine blk_alloc ?_ _)); exact BK906.out)) : gb911 ≠ gb906)); clear HO_5; clear BK906; clear HB; have HO_5 := n0_; have BK906 := n1_; have HB := n2_; have BK911 := n3_; have GW911 := n4_; have GE911 := n5_; have NB906_911 := n6_; have NB911_906 := n7_; clear n0_ n1_ n2_ n3_ n4_ n5_ n6_ n7_; clear hb hbox hg; have hnb47 := NB911_906.out; have hnc47 := NB906_911.out; have hcz48_0 : w46.cell? ⟨gb911, 0, none⟩ = some (.int .i64 0) := (blk_cell BK911.out 0).trans rfl; have hcz48_1 : w46.cell? ⟨gb911, 1, none⟩ = some (.int .i64 0) := (blk_cell BK911.out 1).trans rfl; have hfz48_0 := blk_frozen BK911.out 0; have hfz48_1 := blk_frozen BK911.out 1))
        have n0_ : Aside0 (Kd.R (Kd.int .i64) 3 ((w46.setCell ⟨gb911, 0, none⟩ (.int .i64 ((rd_T88 l1 x12_1).f0))).setCell ⟨gb911, 1, none⟩ (.int .i64 ((rd_T88 l1 x12_1).f1))) w.heap.size (fun _ => True) u5 x5_1) := ⟨by (with_reducible repeat (first | apply Kd.R_alloc | apply Kd.R_drewN | apply Kd.R_drew)); exact Kd.R_mono (Kd.R_far (p := ⟨gb911, 1, none⟩) (Kd.R_far (p := ⟨gb911, 0, none⟩) (Kd.R_types HO_5.out BK911.out (by decide)) (fun _ hk => hk.2) (.int .i64 ((rd_T88 l1 x12_1).f0))) (fun _ hk => hk.2) (.int .i64 ((rd_T88 l1 x12_1).f1))) (fun _ hk => trivial)⟩
        have n1_ : Aside0 (((w46.setCell ⟨gb911, 0, none⟩ (.int .i64 ((rd_T88 l1 x12_1).f0))).setCell ⟨gb911, 1, none⟩ (.int .i64 ((rd_T88 l1 x12_1).f1))).heap[gb906]? = some (.cells #[.int .i64 a0_0, .slice A0_1 l0_1.length c0_1] 29 (0, 0))) := ⟨by (with_reducible repeat (first | refine blk_drewN ?_ _ | refine blk_drew ?_ | refine blk_alloc ?_ _)); refine blk_far ?_ NB906_911.out _; (with_reducible repeat (first | refine blk_drewN ?_ _ | refine blk_drew ?_ | refine blk_alloc ?_ _)); refine blk_far ?_ NB906_911.out _; (with_reducible repeat (first | refine blk_drewN ?_ _ | refine blk_drew ?_ | refine blk_alloc ?_ _)); exact BK906.out⟩
        have n2_ : Aside0 (((w46.setCell ⟨gb911, 0, none⟩ (.int .i64 ((rd_T88 l1 x12_1).f0))).setCell ⟨gb911, 1, none⟩ (.int .i64 ((rd_T88 l1 x12_1).f1))).heap[gb911]? = some (.cells #[.int .i64 ((rd_T88 l1 x12_1).f0), .int .i64 ((rd_T88 l1 x12_1).f1)] 88 (0, 0))) := ⟨by (with_reducible repeat (first | refine blk_drewN ?_ _ | refine blk_drew ?_ | refine blk_alloc ?_ _)); refine blk_put (cs := #[.int .i64 ((rd_T88 l1 x12_1).f0), .int .i64 0]) ?_ 1 _ rfl; (with_reducible repeat (first | refine blk_drewN ?_ _ | refine blk_drew ?_ | refine blk_alloc ?_ _)); refine blk_put (cs := #[.int .i64 0, .int .i64 0]) ?_ 0 _ rfl; (with_reducible repeat (first | refine blk_drewN ?_ _ | refine blk_drew ?_ | refine blk_alloc ?_ _)); exact BK911.out⟩
        have n3_ : Aside0 (Below w.heap.size w ((w46.setCell ⟨gb911, 0, none⟩ (.int .i64 ((rd_T88 l1 x12_1).f0))).setCell ⟨gb911, 1, none⟩ (.int .i64 ((rd_T88 l1 x12_1).f1)))) := ⟨by repeat (first | (with_reducible first | exact HB.out | apply below_alloc | apply pw_below_drewN | apply below_drew1 | refine below_set ?_ GE906.out | refine below_set ?_ GE911.out) | exact HB.out)⟩
        (try clear HO_5)
        (try clear BK906)
        (try clear BK911)
        (try clear HB)
        generalize ((w46.setCell ⟨gb911, 0, none⟩ (.int .i64 ((rd_T88 l1 x12_1).f0))).setCell ⟨gb911, 1, none⟩ (.int .i64 ((rd_T88 l1 x12_1).f1))) = w49 at n0_ n1_ n2_ n3_ ⊢
        have HO_5 := n0_
        have BK906 := n1_
        have BK911 := n2_
        have HB := n3_
        clear n0_ n1_ n2_ n3_
        have n0_ := Aside0.mk (Kd.R_drew HO_5.out)
        have n1_ := Aside0.mk (blk_drew BK906.out)
        have n2_ := Aside0.mk (blk_drew BK911.out)
        have n3_ := Aside0.mk (below_drew1 HB.out)
        clear HO_5
        clear BK906
        clear BK911
        clear HB
        have HO_5 := n0_
        have BK906 := n1_
        have BK911 := n2_
        have HB := n3_
        clear n0_ n1_ n2_ n3_
        obtain ⟨Ao51, co51, eo51⟩ := Kd.R_slice HO_5.out
        (first | subst eo51 | (injection eo51 with f1_ f2_ f3_; have f4_ := f1_.symm; have f5_ := f3_.symm; clear f1_ f2_ f3_; subst f4_; subst f5_))
        refine start_ (n := 24) (S := fun w' => w'.cell? ⟨gb911, 0, none⟩ = some (.int .i64 ((rd_T88 l1 x12_1).f0)) ∧ w'.cell? ⟨gb911, 1, none⟩ = some (.int .i64 ((rd_T88 l1 x12_1).f1))) (ds := []) #[false, false, false, false, false, false, false, false, false, false, false, false, false, false, false, false, false, false, false, false, false, false, false, false] (by kernel_rfl) rfl rfl ⟨(blk_cell BK911.out 0).trans rfl, (blk_cell BK911.out 1).trans rfl⟩ (fun hHeld => ?_); refine with_tabW spec_peOrder.tab5 spec_peOrder.bits5 (fun HT_ HW_ => ?_)
        generalize w49.drew = w50 at HO_5 BK906 BK911 HB hHeld ⊢
        refine pq_ 0 16 24 1 HT_.out (by kernel_rfl) ?_
        refine pq_ 1 17 24 3 HT_.out (by kernel_rfl) ?_
        refine tq_ 2 18 24 7 HT_.out HW_.out (by kernel_rfl) hHeld ?_ rfl (by rintro w' ⟨s0, s1⟩; go_simp; with_reducible rfl)
        refine one_ (i := 3) (N := some 19) (bsA 24 15) rfl rfl (one_of HT_.out (by kernel_rfl)) (by decide) (fun K hK => ?_)
        refine goes_ Try.func75 (by kernel_rfl) rfl #[.slice Ao51 x5_1.length co51, .int .i64 ((rd_T88 l1 x12_1).f0)] (by rfl) rfl rfl (by (try simp only [List.map_toArray, List.map_cons, List.map_nil]); first | done | rfl | (simp only [List.length_drop, List.length_take]; rfl)) ?_
        with_reducible refine (spec_l1Has.calls k1 _ _ x5_1 ((rd_T88 l1 x12_1).f0) false _ ?side1 ?side2 A10.out).mono ?_
        (case side1 => repeat (first | exact (Kd.R_reads' HO_5.out).2.2 | (with_reducible refine Kd.C_alloc ?_ _) | (with_reducible refine Kd.C_drewN ?_ _) | (with_reducible refine Kd.C_drew ?_)))
        (case side2 => exact (Kd.R_reads' HO_5.out).2.1)
        rintro e w' ⟨rfl, ⟨nd, rfl⟩⟩
        refine ⟨_, rfl, ?_⟩
        refine hK.out _ _ ⟨(blk_cell BK911.out 0).trans rfl, (blk_cell BK911.out 1).trans rfl⟩ (fun hHeld => ?_)
        clear hK K
        refine norm_ (a' := ?_) ?_ ?_
        rotate_left
        ·show Act.put _ (some 19) _ = _
         simp only [Act.put, List.setIfInBounds_toArray, List.set_cons_zero, List.set_cons_succ, i64_w]
         rfl
        refine pq_ 4 20 24 31 HT_.out (by kernel_rfl) ?_
        refine pq_ 5 21 24 63 HT_.out (by kernel_rfl) ?_
        refine uq_ 6 22 24 127 HT_.out (by kernel_rfl) ?_
        refine uq_ 7 23 24 255 HT_.out (by kernel_rfl) ?_
        refine uq_ 8 24 24 511 HT_.out (by kernel_rfl) ?_
        refine uq_ 9 25 24 1023 HT_.out (by kernel_rfl) ?_
        refine uq_ 10 26 24 2047 HT_.out (by kernel_rfl) ?_
        refine uq_ 11 27 24 4095 HT_.out (by kernel_rfl) ?_
        refine uq_ 12 28 24 8191 HT_.out (by kernel_rfl) ?_
        refine pq_ 13 29 24 16383 HT_.out (by kernel_rfl) ?_
        refine pq_ 14 30 24 32767 HT_.out (by kernel_rfl) ?_
        refine uq_ 15 31 24 65535 HT_.out (by kernel_rfl) ?_
        refine uq_ 16 32 24 131071 HT_.out (by kernel_rfl) ?_
        refine uq_ 17 33 24 262143 HT_.out (by kernel_rfl) ?_
        refine uq_ 18 34 24 524287 HT_.out (by kernel_rfl) ?_
        refine uq_ 19 35 24 1048575 HT_.out (by kernel_rfl) ?_
        refine uq_ 20 36 24 2097151 HT_.out (by kernel_rfl) ?_
        refine uq_ 21 37 24 4194303 HT_.out (by kernel_rfl) ?_
        refine uq_ 22 38 24 8388607 HT_.out (by kernel_rfl) ?_
        refine pq_ 23 39 24 16777215 HT_.out (by kernel_rfl) ?_
        refine done_ (done_of HT_.out (by kernel_rfl)) ?_
        try go_wp2
        go_ret
        exact ⟨by first | rfl | (simp [errW_none, errW_some] <;> rfl) | (simp [*, errW_none, errW_some] <;> rfl), by repeat (first | (with_reducible first | exact HB.out | apply below_alloc | apply pw_below_drewN | apply below_drew1 | refine below_set ?_ GE906.out | refine below_set ?_ GE911.out) | exact HB.out)⟩
      ·rw [if_neg c9] at H
       exact absurd H (by simp)
     ·rw [if_neg c8] at H
      exact absurd H (by simp)
    ·rw [if_neg c7] at H
     have c7b0 : decide (x12_1 < (l1.length : Int)) = false := decide_eq_false c7
     clear c7
     obtain rfl := Option.some.inj H
     obtain ⟨Ao52, co52, eo52⟩ := Kd.R_slice HO_5.out
     subst eo52
     go_wp2
     go_ret
     exact ⟨by first | rfl | (simp [errW_none, errW_some] <;> rfl) | (simp [*, errW_none, errW_some] <;> rfl), by repeat (first | (with_reducible first | exact HB.out | apply below_alloc | apply pw_below_drewN | apply below_drew1 | refine below_set ?_ GE906.out) | exact HB.out)⟩
/-! ### spec_IsPeelOrder: function 52 -/
def spec_IsPeelOrder.f (k : Nat) (a0_0 : Int) (l0_1 : List (List Int)) (l1 : List (S88)) : Option (Bool × Bool) := (spec_peGood.f k a0_0 l0_1).bind fun t922 => (if t922 = true then ((spec_peOrder.f k a0_0 l0_1 l1).bind fun t923 => (some (t923, true))) else (some (false, false)))
theorem spec_IsPeelOrder.mono : ∀ a0 a1 a2 k, LeO (spec_IsPeelOrder.f k a0 a1 a2) (spec_IsPeelOrder.f (k + 1) a0 a1 a2) := by
  intro a0 a1 a2 k
  unfold spec_IsPeelOrder.f
  repeat' first
      | (with_reducible exact spec_peGood.mono _ _ _)
      | (with_reducible exact spec_peOrder.mono _ _ _ _)
      | (with_reducible exact LeO.refl _)
      | (with_reducible exact LeO.none _)
      | (with_reducible refine LeO.ite ?_ ?_)
      | (with_reducible refine LeO.bind ?_ (fun _ => ?_))
      | exact spec_peGood.mono _ _ _
      | exact spec_peOrder.mono _ _ _ _
      | exact LeO.none _
      | refine LeO.ite ?_ ?_
      | refine LeO.bind ?_ (fun _ => ?_)
noncomputable def spec_IsPeelOrder.F (a0_0 : Int) (l0_1 : List (List Int)) (l1 : List (S88)) : Option (Bool × Bool) := lim fun k => spec_IsPeelOrder.f k a0_0 l0_1 l1
theorem spec_IsPeelOrder.F_sup (a0_0 : Int) (l0_1 : List (List Int)) (l1 : List (S88)) : Sup (fun k => spec_IsPeelOrder.f k a0_0 l0_1 l1) (spec_IsPeelOrder.F a0_0 l0_1 l1) := Sup.of_mono fun k => spec_IsPeelOrder.mono a0_0 l0_1 l1 k
theorem spec_IsPeelOrder.F_eq (a0_0 : Int) (l0_1 : List (List Int)) (l1 : List (S88)) : spec_IsPeelOrder.F a0_0 l0_1 l1 = (spec_peGood.F a0_0 l0_1).bind fun t922 => (if t922 = true then ((spec_peOrder.F a0_0 l0_1 l1).bind fun t923 => (some (t923, true))) else (some (false, false))) := by
  refine Sup.unique (spec_IsPeelOrder.F_sup a0_0 l0_1 l1) (Sup.congr (g' := fun k => (spec_peGood.f k a0_0 l0_1).bind fun t922 => (if t922 = true then ((spec_peOrder.f k a0_0 l0_1 l1).bind fun t923 => (some (t923, true))) else (some (false, false)))) (fun k => by first | rfl | simp only [spec_IsPeelOrder.f]) ?_)
  repeat' first
    | (with_reducible exact spec_peGood.F_sup _ _)
    | (with_reducible exact spec_peOrder.F_sup _ _ _)
    | (with_reducible refine Sup.ite ?_ ?_)
    | (with_reducible refine Sup.bind ?_ (fun _ => ?_))
    | (with_reducible exact Sup.const _)
    | exact spec_peGood.F_sup _ _
    | exact spec_peOrder.F_sup _ _ _
    | exact Sup.const _
set_option maxHeartbeats 8000000 in
set_option maxRecDepth 100000 in
theorem spec_IsPeelOrder.calls (k : Nat) (a0_0 : Int) (A0_1 : Option Addr) (c0_1 : Nat) (l0_1 : List (List Int)) (A1 : Option Addr) (c1 : Nat) (l1 : List (S88)) (r1 : Bool) (r2 : Bool) (w : World) (hr0_1 : Kd.C (Kd.slice 3 (Kd.int .i64)) w A0_1 l0_1.length l0_1) (hc0_1 : l0_1.length ≤ c0_1) (hr1 : Kd.C k88 w A1 l1.length l1) (hc1 : l1.length ≤ c1) (h : spec_IsPeelOrder.f k a0_0 l0_1 l1 = some (r1, r2)) :
    Calls Try.prog 52 #[.agg #[.int .i64 a0_0, .slice A0_1 l0_1.length c0_1], .slice A1 l1.length c1] w fun e w' => e = .returned (.tuple #[.bool r1, .bool r2]) ∧ Below w.heap.size w w' := by
  have hu29 := Try.underlying29
  have HR0_1 := Aside0.mk hr0_1
  have HC0_1 := Aside0.mk hc0_1
  clear hr0_1 hc0_1
  have HR1 := Aside0.mk hr1
  have HC1 := Aside0.mk hc1
  clear hr1 hc1
  have HB := Aside0.mk (Below.refl w.heap.size w)
  have H : ((spec_peGood.f k a0_0 l0_1).bind fun t922 => (if t922 = true then ((spec_peOrder.f k a0_0 l0_1 l1).bind fun t923 => (some (t923, true))) else (some (false, false)))) = some (r1, r2) := h
  clear h
  replace H := Option.bind_eq_some_iff.mp H
  obtain ⟨t922, A30, H⟩ := H
  replace H : (if t922 = true then ((spec_peOrder.f k a0_0 l0_1 l1).bind fun t923 => (some (t923, true))) else (some (false, false))) = some (r1, r2) := H
  have A3 := Aside0.mk A30
  clear A30
  by_cases c4 : t922 = true
  ·subst c4
   have H1 : ((spec_peOrder.f k a0_0 l0_1 l1).bind fun t923 => (some (t923, true))) = some (r1, r2) := by rw [if_pos rfl] at H; exact H
   clear H
   have H := H1
   clear H1
   replace H := Option.bind_eq_some_iff.mp H
   obtain ⟨t923, A50, H⟩ := H
   replace H : (some (t923, true)) = some (r1, r2) := H
   have A5 := Aside0.mk A50
   clear A50
   simp only [Option.some.injEq, Prod.mk.injEq] at H
   obtain ⟨rfl, rfl⟩ := H
   go_enter Try.func52, Try.ntmps52
   go_wp2_with (first | ((with_reducible refine gate_dst (N := 2) rfl ?_); refine box_event ?hg (N := 2) ?hd (cs := #[.int .i64 a0_0, .slice A0_1 l0_1.length c0_1]) (t := 29) ?hr ?_; (case hd => rfl); (case hg => rfl); (case hr => first | (go_simp; done) | (go_simp; rfl)); intro gb921 hg w6 hbox hb; have n0_ := Aside0.mk (below_step (by repeat (first | (with_reducible first | exact HB.out | apply below_alloc | apply pw_below_drewN | apply below_drew1) | exact HB.out)) hb); have n1_ := Aside0.mk (hbox); have n2_ := Aside0.mk ((by rw [hg]; exact (below_size (by repeat (first | (with_reducible first | exact HB.out | apply below_alloc | apply pw_below_drewN | apply below_drew1) | exact HB.out))) : w.heap.size ≤ gb921)); have n3_ := Aside0.mk ((by rw [hg]; exact (below_size (by repeat (first | (with_reducible first | exact HB.out | apply below_alloc | apply pw_below_drewN | apply below_drew1) | exact HB.out))) : w.heap.size ≤ gb921)); clear HB; have HB := n0_; have BK921 := n1_; have GW921 := n2_; have GE921 := n3_; clear n0_ n1_ n2_ n3_; clear hb hbox hg; have hcz7_0 : w6.cell? ⟨gb921, 0, none⟩ = some (.int .i64 a0_0) := (blk_cell BK921.out 0).trans rfl; have hcz7_1 : w6.cell? ⟨gb921, 1, none⟩ = some (.slice A0_1 l0_1.length c0_1) := (blk_cell BK921.out 1).trans rfl; have hfz7_0 := blk_frozen BK921.out 0; have hfz7_1 := blk_frozen BK921.out 1) | ((with_reducible refine gate_callee (f := 67) rfl ?_); refine goesL_ (some 7) rfl rfl Try.func67 (by kernel_rfl) rfl #[.agg #[.int .i64 a0_0, .slice A0_1 l0_1.length c0_1]] rfl (by (try simp only [List.map_toArray, List.map_cons, List.map_nil]); first | done | rfl | (simp only [List.length_drop, List.length_take]; rfl)) ?_; (with_reducible refine (spec_peGood.calls k a0_0 _ _ l0_1 true _ ?side1 ?side2 A3.out).mono ?_); (case side1 => repeat (first | exact (Kd.C_below HR0_1.out HB.out) | (with_reducible refine Kd.C_alloc ?_ _) | (with_reducible refine Kd.C_drewN ?_ _) | (with_reducible refine Kd.C_drew ?_))); (case side2 => exact HC0_1.out); rintro e w8 ⟨rfl, hb⟩; refine ⟨_, rfl, ?_⟩; have n0_ := Aside0.mk (blk_below (g := gb921) (o := .cells #[.int .i64 a0_0, .slice A0_1 l0_1.length c0_1] 29 (0, 0)) (by (with_reducible repeat (first | refine blk_drewN ?_ _ | refine blk_drew ?_ | refine blk_alloc ?_ _)); exact BK921.out) hb); have n1_ := Aside0.mk (below_step (by repeat (first | (with_reducible first | exact HB.out | apply below_alloc | apply pw_below_drewN | apply below_drew1 | refine below_set ?_ GE921.out) | exact HB.out)) hb); clear BK921; clear HB; have BK921 := n0_; have HB := n1_; clear n0_ n1_; (try clear hb); (try clear hb2); (try clear hk); (try clear hi); have hcz9_0 : w8.cell? ⟨gb921, 0, none⟩ = some (.int .i64 a0_0) := (blk_cell BK921.out 0).trans rfl; have hcz9_1 : w8.cell? ⟨gb921, 1, none⟩ = some (.slice A0_1 l0_1.length c0_1) := (blk_cell BK921.out 1).trans rfl; have hfz9_0 := blk_frozen BK921.out 0; have hfz9_1 := blk_frozen BK921.out 1) | ((with_reducible refine gate_callee (f := 100) rfl ?_); refine goesL_ (some 11) rfl rfl Try.func100 (by kernel_rfl) rfl #[.agg #[.int .i64 a0_0, .slice A0_1 l0_1.length c0_1], .slice A1 l1.length c1] rfl (by (try simp only [List.map_toArray, List.map_cons, List.map_nil]); first | done | rfl | (simp only [List.length_drop, List.length_take]; rfl)) ?_; (with_reducible refine (spec_peOrder.calls k a0_0 _ _ l0_1 _ _ l1 t923 _ ?side1 ?side2 ?side3 ?side4 A5.out).mono ?_); (case side1 => repeat (first | exact (Kd.C_below HR0_1.out HB.out) | (with_reducible refine Kd.C_alloc ?_ _) | (with_reducible refine Kd.C_drewN ?_ _) | (with_reducible refine Kd.C_drew ?_))); (case side2 => exact HC0_1.out); (case side3 => repeat (first | exact (Kd.C_below HR1.out HB.out) | (with_reducible refine Kd.C_alloc ?_ _) | (with_reducible refine Kd.C_drewN ?_ _) | (with_reducible refine Kd.C_drew ?_))); (case side4 => exact HC1.out); rintro e w10 ⟨rfl, hb⟩; refine ⟨_, rfl, ?_⟩; have n0_ := Aside0.mk (blk_below (g := gb921) (o := .cells #[.int .i64 a0_0, .slice A0_1 l0_1.length c0_1] 29 (0, 0)) (by (with_reducible repeat (first | refine blk_drewN ?_ _ | refine blk_drew ?_ | refine blk_alloc ?_ _)); exact BK921.out) hb); have n1_ := Aside0.mk (below_step (by repeat (first | (with_reducible first | exact HB.out | apply below_alloc | apply pw_below_drewN | apply below_drew1 | refine below_set ?_ GE921.out) | exact HB.out)) hb); clear BK921; clear HB; have BK921 := n0_; have HB := n1_; clear n0_ n1_; (try clear hb); (try clear hb2); (try clear hk); (try clear hi)))
   go_ret2
   exact ⟨by first | rfl | (simp [errW_none, errW_some] <;> rfl) | (simp [*, errW_none, errW_some] <;> rfl), by repeat (first | (with_reducible first | exact HB.out | apply below_alloc | apply pw_below_drewN | apply below_drew1 | refine below_set ?_ GE921.out) | exact HB.out)⟩
  ·replace c4 := Bool.eq_false_iff.mpr c4
   subst c4
   have H1 : (some (false, false)) = some (r1, r2) := by rw [if_neg (show ¬ (false = true) by decide)] at H; exact H
   clear H
   have H := H1
   clear H1
   simp only [Option.some.injEq, Prod.mk.injEq] at H
   obtain ⟨rfl, rfl⟩ := H
   go_enter Try.func52, Try.ntmps52
   go_wp2_with (first | ((with_reducible refine gate_dst (N := 2) rfl ?_); refine box_event ?hg (N := 2) ?hd (cs := #[.int .i64 a0_0, .slice A0_1 l0_1.length c0_1]) (t := 29) ?hr ?_; (case hd => rfl); (case hg => rfl); (case hr => first | (go_simp; done) | (go_simp; rfl)); intro gb921 hg w11 hbox hb; have n0_ := Aside0.mk (below_step (by repeat (first | (with_reducible first | exact HB.out | apply below_alloc | apply pw_below_drewN | apply below_drew1) | exact HB.out)) hb); have n1_ := Aside0.mk (hbox); have n2_ := Aside0.mk ((by rw [hg]; exact (below_size (by repeat (first | (with_reducible first | exact HB.out | apply below_alloc | apply pw_below_drewN | apply below_drew1) | exact HB.out))) : w.heap.size ≤ gb921)); have n3_ := Aside0.mk ((by rw [hg]; exact (below_size (by repeat (first | (with_reducible first | exact HB.out | apply below_alloc | apply pw_below_drewN | apply below_drew1) | exact HB.out))) : w.heap.size ≤ gb921)); clear HB; have HB := n0_; have BK921 := n1_; have GW921 := n2_; have GE921 := n3_; clear n0_ n1_ n2_ n3_; clear hb hbox hg; have hcz12_0 : w11.cell? ⟨gb921, 0, none⟩ = some (.int .i64 a0_0) := (blk_cell BK921.out 0).trans rfl; have hcz12_1 : w11.cell? ⟨gb921, 1, none⟩ = some (.slice A0_1 l0_1.length c0_1) := (blk_cell BK921.out 1).trans rfl; have hfz12_0 := blk_frozen BK921.out 0; have hfz12_1 := blk_frozen BK921.out 1) | ((with_reducible refine gate_callee (f := 67) rfl ?_); refine goesL_ (some 7) rfl rfl Try.func67 (by kernel_rfl) rfl #[.agg #[.int .i64 a0_0, .slice A0_1 l0_1.length c0_1]] rfl (by (try simp only [List.map_toArray, List.map_cons, List.map_nil]); first | done | rfl | (simp only [List.length_drop, List.length_take]; rfl)) ?_; (with_reducible refine (spec_peGood.calls k a0_0 _ _ l0_1 false _ ?side1 ?side2 A3.out).mono ?_); (case side1 => repeat (first | exact (Kd.C_below HR0_1.out HB.out) | (with_reducible refine Kd.C_alloc ?_ _) | (with_reducible refine Kd.C_drewN ?_ _) | (with_reducible refine Kd.C_drew ?_))); (case side2 => exact HC0_1.out); rintro e w13 ⟨rfl, hb⟩; refine ⟨_, rfl, ?_⟩; have n0_ := Aside0.mk (blk_below (g := gb921) (o := .cells #[.int .i64 a0_0, .slice A0_1 l0_1.length c0_1] 29 (0, 0)) (by (with_reducible repeat (first | refine blk_drewN ?_ _ | refine blk_drew ?_ | refine blk_alloc ?_ _)); exact BK921.out) hb); have n1_ := Aside0.mk (below_step (by repeat (first | (with_reducible first | exact HB.out | apply below_alloc | apply pw_below_drewN | apply below_drew1 | refine below_set ?_ GE921.out) | exact HB.out)) hb); clear BK921; clear HB; have BK921 := n0_; have HB := n1_; clear n0_ n1_; (try clear hb); (try clear hb2); (try clear hk); (try clear hi)))
   go_ret2
   exact ⟨by first | rfl | (simp [errW_none, errW_some] <;> rfl) | (simp [*, errW_none, errW_some] <;> rfl), by repeat (first | (with_reducible first | exact HB.out | apply below_alloc | apply pw_below_drewN | apply below_drew1 | refine below_set ?_ GE921.out) | exact HB.out)⟩
/-! ### laws_toPeelStep: function 101 -/
def laws_toPeelStep.f (a0_0 : Int) (a0_1 : Int) : Option (Int × Int) := some (a0_0, a0_1)
set_option maxHeartbeats 8000000 in
set_option maxRecDepth 100000 in
theorem laws_toPeelStep.calls (a0_0 : Int) (a0_1 : Int) (r1 : Int) (r2 : Int) (w : World) (h : laws_toPeelStep.f a0_0 a0_1 = some (r1, r2)) :
    Calls Try.prog 101 #[.agg #[.int .i64 a0_0, .int .i64 a0_1]] w fun e w' => e = .returned (.agg #[.int .i64 r1, .int .i64 r2]) ∧ Below w.heap.size w w' := by
  have hu90 := Try.underlying90
  have hu88 := Try.underlying88
  have HB := Aside0.mk (Below.refl w.heap.size w)
  have H : (some (a0_0, a0_1)) = some (r1, r2) := h
  clear h
  simp only [Option.some.injEq, Prod.mk.injEq] at H
  obtain ⟨rfl, rfl⟩ := H
  go_enter Try.func101, Try.ntmps101
  go_wp2_with (first | ((with_reducible refine gate_dst (N := 1) rfl ?_); refine box_event ?hg (N := 1) ?hd (cs := #[.int .i64 a0_0, .int .i64 a0_1]) (t := 90) ?hr ?_; (case hd => rfl); (case hg => rfl); (case hr => first | (go_simp; done) | (go_simp; rfl)); intro gb924 hg w2 hbox hb; have n0_ := Aside0.mk (below_step (by repeat (first | (with_reducible first | exact HB.out | apply below_alloc | apply pw_below_drewN | apply below_drew1) | exact HB.out)) hb); have n1_ := Aside0.mk (hbox); have n2_ := Aside0.mk ((by rw [hg]; exact (below_size (by repeat (first | (with_reducible first | exact HB.out | apply below_alloc | apply pw_below_drewN | apply below_drew1) | exact HB.out))) : w.heap.size ≤ gb924)); have n3_ := Aside0.mk ((by rw [hg]; exact (below_size (by repeat (first | (with_reducible first | exact HB.out | apply below_alloc | apply pw_below_drewN | apply below_drew1) | exact HB.out))) : w.heap.size ≤ gb924)); clear HB; have HB := n0_; have BK924 := n1_; have GW924 := n2_; have GE924 := n3_; clear n0_ n1_ n2_ n3_; clear hb hbox hg) | ((with_reducible refine gate_dst (N := 2) rfl ?_); refine box_event ?hg (N := 2) ?hd (cs := #[.int .i64 0, .int .i64 0]) (t := 88) ?hr ?_; (case hd => rfl); (case hg => rfl); (case hr => first | (go_simp; done) | (go_simp; rfl)); intro gb925 hg w3 hbox hb; have n0_ := Aside0.mk (blk_below (g := gb924) (o := .cells #[.int .i64 a0_0, .int .i64 a0_1] 90 (0, 0)) (by (with_reducible repeat (first | refine blk_drewN ?_ _ | refine blk_drew ?_ | refine blk_alloc ?_ _)); exact BK924.out) hb); have n1_ := Aside0.mk (below_step (by repeat (first | (with_reducible first | exact HB.out | apply below_alloc | apply pw_below_drewN | apply below_drew1 | refine below_set ?_ GE924.out) | exact HB.out)) hb); have n2_ := Aside0.mk (hbox); have n3_ := Aside0.mk ((by rw [hg]; exact (below_size (by repeat (first | (with_reducible first | exact HB.out | apply below_alloc | apply pw_below_drewN | apply below_drew1 | refine below_set ?_ GE924.out) | exact HB.out))) : w.heap.size ≤ gb925)); have n4_ := Aside0.mk ((by rw [hg]; exact (below_size (by repeat (first | (with_reducible first | exact HB.out | apply below_alloc | apply pw_below_drewN | apply below_drew1 | refine below_set ?_ GE924.out) | exact HB.out))) : w.heap.size ≤ gb925)); have n5_ := Aside0.mk ((by rw [hg]; exact Nat.ne_of_lt (blk_lt (g := gb924) (o := .cells #[.int .i64 a0_0, .int .i64 a0_1] 90 (0, 0)) (by (with_reducible repeat (first | refine blk_drewN ?_ _ | refine blk_drew ?_ | refine blk_alloc ?_ _)); exact BK924.out)) : gb924 ≠ gb925)); have n6_ := Aside0.mk ((by rw [hg]; exact Nat.ne_of_gt (blk_lt (g := gb924) (o := .cells #[.int .i64 a0_0, .int .i64 a0_1] 90 (0, 0)) (by (with_reducible repeat (first | refine blk_drewN ?_ _ | refine blk_drew ?_ | refine blk_alloc ?_ _)); exact BK924.out)) : gb925 ≠ gb924)); clear BK924; clear HB; have BK924 := n0_; have HB := n1_; have BK925 := n2_; have GW925 := n3_; have GE925 := n4_; have NB924_925 := n5_; have NB925_924 := n6_; clear n0_ n1_ n2_ n3_ n4_ n5_ n6_; clear hb hbox hg) | ((with_reducible refine gate_dst (N := 3) rfl ?_); refine box_event ?hg (N := 3) ?hd (cs := #[.int .i64 0, .int .i64 0]) (t := 88) ?hr ?_; (case hd => rfl); (case hg => rfl); (case hr => first | (go_simp; done) | (go_simp; rfl)); intro gb926 hg w4 hbox hb; have n0_ := Aside0.mk (blk_below (g := gb924) (o := .cells #[.int .i64 a0_0, .int .i64 a0_1] 90 (0, 0)) (by (with_reducible repeat (first | refine blk_drewN ?_ _ | refine blk_drew ?_ | refine blk_alloc ?_ _)); exact BK924.out) hb); have n1_ := Aside0.mk (blk_below (g := gb925) (o := .cells #[.int .i64 0, .int .i64 0] 88 (0, 0)) (by (with_reducible repeat (first | refine blk_drewN ?_ _ | refine blk_drew ?_ | refine blk_alloc ?_ _)); exact BK925.out) hb); have n2_ := Aside0.mk (below_step (by repeat (first | (with_reducible first | exact HB.out | apply below_alloc | apply pw_below_drewN | apply below_drew1 | refine below_set ?_ GE924.out | refine below_set ?_ GE925.out) | exact HB.out)) hb); have n3_ := Aside0.mk (hbox); have n4_ := Aside0.mk ((by rw [hg]; exact (below_size (by repeat (first | (with_reducible first | exact HB.out | apply below_alloc | apply pw_below_drewN | apply below_drew1 | refine below_set ?_ GE924.out | refine below_set ?_ GE925.out) | exact HB.out))) : w.heap.size ≤ gb926)); have n5_ := Aside0.mk ((by rw [hg]; exact (below_size (by repeat (first | (with_reducible first | exact HB.out | apply below_alloc | apply pw_below_drewN | apply below_drew1 | refine below_set ?_ GE924.out | refine below_set ?_ GE925.out) | exact HB.out))) : w.heap.size ≤ gb926)); have n6_ := Aside0.mk ((by rw [hg]; exact Nat.ne_of_lt (blk_lt (g := gb924) (o := .cells #[.int .i64 a0_0, .int .i64 a0_1] 90 (0, 0)) (by (with_reducible repeat (first | refine blk_drewN ?_ _ | refine blk_drew ?_ | refine blk_alloc ?_ _)); exact BK924.out)) : gb924 ≠ gb926)); have n7_ := Aside0.mk ((by rw [hg]; exact Nat.ne_of_gt (blk_lt (g := gb924) (o := .cells #[.int .i64 a0_0, .int .i64 a0_1] 90 (0, 0)) (by (with_reducible repeat (first | refine blk_drewN ?_ _ | refine blk_drew ?_ | refine blk_alloc ?_ _)); exact BK924.out)) : gb926 ≠ gb924)); have n8_ := Aside0.mk ((by rw [hg]; exact Nat.ne_of_lt (blk_lt (g := gb925) (o := .cells #[.int .i64 0, .int .i64 0] 88 (0, 0)) (by (with_reducible repeat (first | refine blk_drewN ?_ _ | refine blk_drew ?_ | refine blk_alloc ?_ _)); exact BK925.out)) : gb925 ≠ gb926)); have n9_ := Aside0.mk ((by rw [hg]; exact Nat.ne_of_gt (blk_lt (g := gb925) (o := .cells #[.int .i64 0, .int .i64 0] 88 (0, 0)) (by (with_reducible repeat (first | refine blk_drewN ?_ _ | refine blk_drew ?_ | refine blk_alloc ?_ _)); exact BK925.out)) : gb926 ≠ gb925)); clear BK924; clear BK925; clear HB; have BK924 := n0_; have BK925 := n1_; have HB := n2_; have BK926 := n3_; have GW926 := n4_; have GE926 := n5_; have NB924_926 := n6_; have NB926_924 := n7_; have NB925_926 := n8_; have NB926_925 := n9_; clear n0_ n1_ n2_ n3_ n4_ n5_ n6_ n7_ n8_ n9_; clear hb hbox hg; have hnb5 := NB924_925.out; have hnc5 := NB925_924.out; have hnb6 := NB924_926.out; have hnc6 := NB926_924.out; have hcz7_0 : w4.cell? ⟨gb924, 0, none⟩ = some (.int .i64 a0_0) := (blk_cell BK924.out 0).trans rfl; have hcz7_1 : w4.cell? ⟨gb924, 1, none⟩ = some (.int .i64 a0_1) := (blk_cell BK924.out 1).trans rfl; have hfz7_0 := blk_frozen BK924.out 0; have hfz7_1 := blk_frozen BK924.out 1; have hnb8 := NB926_925.out; have hnc8 := NB925_926.out; have hcz9_0 : w4.cell? ⟨gb926, 0, none⟩ = some (.int .i64 0) := (blk_cell BK926.out 0).trans rfl; have hcz9_1 : w4.cell? ⟨gb926, 1, none⟩ = some (.int .i64 0) := (blk_cell BK926.out 1).trans rfl; have hfz9_0 := blk_frozen BK926.out 0; have hfz9_1 := blk_frozen BK926.out 1; have hcz10_0 : w4.cell? ⟨gb925, 0, none⟩ = some (.int .i64 0) := (blk_cell BK925.out 0).trans rfl; have hcz10_1 : w4.cell? ⟨gb925, 1, none⟩ = some (.int .i64 0) := (blk_cell BK925.out 1).trans rfl; have hfz10_0 := blk_frozen BK925.out 0; have hfz10_1 := blk_frozen BK925.out 1))
  refine bodyPost_ret (results_cell_row rfl _ _ gb925 88 #[.int .i64 a0_0, .int .i64 a0_1] (0, 0) _ rfl (by (with_reducible repeat (first | refine blk_drewN ?_ _ | refine blk_drew ?_ | refine blk_alloc ?_ _)); refine blk_put (cs := #[.int .i64 a0_0, .int .i64 0]) ?_ 1 _ rfl; (with_reducible repeat (first | refine blk_drewN ?_ _ | refine blk_drew ?_ | refine blk_alloc ?_ _)); refine blk_put (cs := #[.int .i64 0, .int .i64 0]) ?_ 0 _ rfl; (with_reducible repeat (first | refine blk_drewN ?_ _ | refine blk_drew ?_ | refine blk_alloc ?_ _)); refine blk_far ?_ NB925_926.out _; (with_reducible repeat (first | refine blk_drewN ?_ _ | refine blk_drew ?_ | refine blk_alloc ?_ _)); refine blk_far ?_ NB925_926.out _; (with_reducible repeat (first | refine blk_drewN ?_ _ | refine blk_drew ?_ | refine blk_alloc ?_ _)); exact BK925.out) Try.underlying88 rfl (by kernel_rfl)) rfl ?_
  exact ⟨by first | rfl | (simp [errW_none, errW_some] <;> rfl) | (simp [*, errW_none, errW_some] <;> rfl), by repeat (first | (with_reducible first | exact HB.out | apply below_alloc | apply pw_below_drewN | apply below_drew1 | refine below_set ?_ GE924.out | refine below_set ?_ GE925.out | refine below_set ?_ GE926.out) | exact HB.out)⟩
/-! ### laws_toPeelStepS: function 53 -/
def laws_toPeelStepS.l0 : Nat → List (S90) → List (S88) → Int → Option ((List (S88)))
  | 0, _, _, _ => none
  | k + 1, x0, x3, x4 => if x4 < (x0.length : Int) then (if 0 ≤ x4 then ((laws_toPeelStep.f ((rd_T90 x0 x4).f0) ((rd_T90 x0 x4).f1)).bind fun bt931 => (if x4 < (x3.length : Int) then (laws_toPeelStepS.l0 k x0 (x3.set (x4 : Int).toNat (⟨bt931.1, bt931.2⟩ : S88)) (wrap64 (x4 + 1))) else (none))) else (none)) else (some x3)
def laws_toPeelStepS.f (k : Nat) (l0 : List (S90)) : Option ((List (S88))) := if 0 ≤ (l0.length : Int) then (if ((l0.length : Int) : Int).toNat ≤ 17592186044416 then (laws_toPeelStepS.l0 k l0 (List.replicate ((l0.length : Int) : Int).toNat z88) 0) else (none)) else (none)
theorem laws_toPeelStepS.mono_l : ∀ k, (∀ y0 y1 y2, LeO (laws_toPeelStepS.l0 k y0 y1 y2) (laws_toPeelStepS.l0 (k + 1) y0 y1 y2))
  | 0 => fun _ _ _ r h => by simp [laws_toPeelStepS.l0] at h
  | k + 1 => by
    have ih0 := laws_toPeelStepS.mono_l k
    · intro y0 y1 y2
      unfold laws_toPeelStepS.l0
      repeat' first
      | (with_reducible exact ih0 _ _ _)
      | (with_reducible exact LeO.refl _)
      | (with_reducible exact LeO.none _)
      | (with_reducible refine LeO.ite ?_ ?_)
      | (with_reducible refine LeO.bind ?_ (fun _ => ?_))
      | exact ih0 _ _ _
      | exact LeO.none _
      | refine LeO.ite ?_ ?_
      | refine LeO.bind ?_ (fun _ => ?_)
theorem laws_toPeelStepS.mono : ∀ a0 k, LeO (laws_toPeelStepS.f k a0) (laws_toPeelStepS.f (k + 1) a0) := by
  intro a0 k
  have ih0 := laws_toPeelStepS.mono_l k
  unfold laws_toPeelStepS.f
  repeat' first
      | (with_reducible exact ih0 _ _ _)
      | (with_reducible exact LeO.refl _)
      | (with_reducible exact LeO.none _)
      | (with_reducible refine LeO.ite ?_ ?_)
      | (with_reducible refine LeO.bind ?_ (fun _ => ?_))
      | exact ih0 _ _ _
      | exact LeO.none _
      | refine LeO.ite ?_ ?_
      | refine LeO.bind ?_ (fun _ => ?_)
noncomputable def laws_toPeelStepS.L0 (y0 : List (S90)) (y1 : List (S88)) (y2 : Int) : Option ((List (S88))) := lim fun k => laws_toPeelStepS.l0 k y0 y1 y2
theorem laws_toPeelStepS.L0_sup (y0 : List (S90)) (y1 : List (S88)) (y2 : Int) : Sup (fun k => laws_toPeelStepS.l0 k y0 y1 y2) (laws_toPeelStepS.L0 y0 y1 y2) := Sup.of_mono fun k => laws_toPeelStepS.mono_l k y0 y1 y2
noncomputable def laws_toPeelStepS.F (l0 : List (S90)) : Option ((List (S88))) := lim fun k => laws_toPeelStepS.f k l0
theorem laws_toPeelStepS.F_sup (l0 : List (S90)) : Sup (fun k => laws_toPeelStepS.f k l0) (laws_toPeelStepS.F l0) := Sup.of_mono fun k => laws_toPeelStepS.mono l0 k
theorem laws_toPeelStepS.L0_eq (x0 : List (S90)) (x3 : List (S88)) (x4 : Int) : laws_toPeelStepS.L0 x0 x3 x4 = if x4 < (x0.length : Int) then (if 0 ≤ x4 then ((laws_toPeelStep.f ((rd_T90 x0 x4).f0) ((rd_T90 x0 x4).f1)).bind fun bt931 => (if x4 < (x3.length : Int) then (laws_toPeelStepS.L0 x0 (x3.set (x4 : Int).toNat (⟨bt931.1, bt931.2⟩ : S88)) (wrap64 (x4 + 1))) else (none))) else (none)) else (some x3) := by
  refine Sup.unique (laws_toPeelStepS.L0_sup x0 x3 x4) (Sup.shift (fun k => laws_toPeelStepS.mono_l k x0 x3 x4) (Sup.congr (g' := fun k => if x4 < (x0.length : Int) then (if 0 ≤ x4 then ((laws_toPeelStep.f ((rd_T90 x0 x4).f0) ((rd_T90 x0 x4).f1)).bind fun bt931 => (if x4 < (x3.length : Int) then (laws_toPeelStepS.l0 k x0 (x3.set (x4 : Int).toNat (⟨bt931.1, bt931.2⟩ : S88)) (wrap64 (x4 + 1))) else (none))) else (none)) else (some x3)) (fun k => by first | rfl | simp only [laws_toPeelStepS.l0]) ?_))
  repeat' first
    | (with_reducible exact laws_toPeelStepS.L0_sup _ _ _)
    | (with_reducible refine Sup.ite ?_ ?_)
    | (with_reducible refine Sup.bind ?_ (fun _ => ?_))
    | (with_reducible exact Sup.const _)
    | exact laws_toPeelStepS.L0_sup _ _ _
    | exact Sup.const _
theorem laws_toPeelStepS.F_eq (l0 : List (S90)) : laws_toPeelStepS.F l0 = if 0 ≤ (l0.length : Int) then (if ((l0.length : Int) : Int).toNat ≤ 17592186044416 then (laws_toPeelStepS.L0 l0 (List.replicate ((l0.length : Int) : Int).toNat z88) 0) else (none)) else (none) := by
  refine Sup.unique (laws_toPeelStepS.F_sup l0) (Sup.congr (g' := fun k => if 0 ≤ (l0.length : Int) then (if ((l0.length : Int) : Int).toNat ≤ 17592186044416 then (laws_toPeelStepS.l0 k l0 (List.replicate ((l0.length : Int) : Int).toNat z88) 0) else (none)) else (none)) (fun k => by first | rfl | simp only [laws_toPeelStepS.f]) ?_)
  repeat' first
    | (with_reducible exact laws_toPeelStepS.L0_sup _ _ _)
    | (with_reducible refine Sup.ite ?_ ?_)
    | (with_reducible refine Sup.bind ?_ (fun _ => ?_))
    | (with_reducible exact Sup.const _)
    | exact laws_toPeelStepS.L0_sup _ _ _
    | exact Sup.const _
set_option maxHeartbeats 8000000 in
set_option maxRecDepth 100000 in
theorem laws_toPeelStepS.calls (k : Nat) (A0 : Option Addr) (c0 : Nat) (l0 : List (S90)) (r : List (S88)) (w : World) (hr0 : Kd.C k90 w A0 l0.length l0) (hc0 : l0.length ≤ c0) (h : laws_toPeelStepS.f k l0 = some r) :
    Calls Try.prog 53 #[.slice A0 l0.length c0] w fun e w' => ∃ v0_ : Value, e = .returned (v0_) ∧ Kd.R k88 88 w' w.heap.size (fun _ => True) v0_ r ∧ Below w.heap.size w w' := by
  have hu90 := Try.underlying90
  have hu88 := Try.underlying88
  have HR0 := Aside0.mk hr0
  have HC0 := Aside0.mk hc0
  clear hr0 hc0
  have HB := Aside0.mk (Below.refl w.heap.size w)
  have H : (if 0 ≤ (l0.length : Int) then (if ((l0.length : Int) : Int).toNat ≤ 17592186044416 then (laws_toPeelStepS.l0 k l0 (List.replicate ((l0.length : Int) : Int).toNat z88) 0) else (none)) else (none)) = some r := h
  clear h
  by_cases c2 : 0 ≤ (l0.length : Int)
  ·rw [if_pos c2] at H
   have c2b0 := eq_true c2
   have c2b1 : decide (0 ≤ (l0.length : Int)) = true := decide_eq_true c2
   clear c2
   by_cases c3 : ((l0.length : Int) : Int).toNat ≤ 17592186044416
   ·rw [if_pos c3] at H
    have c3b0 := eq_true c3
    have c3b1 : decide (((l0.length : Int) : Int).toNat ≤ 17592186044416) = true := decide_eq_true c3
    clear c3
    obtain ⟨y927, hy927⟩ : ∃ y_ : List (S88), y_ = (List.replicate ((l0.length : Int) : Int).toNat z88) := ⟨_, rfl⟩
    replace H : (laws_toPeelStepS.l0 k l0 y927 0) = some r := by first | (rw [hy927]; with_reducible exact H) | (have H2_ := (Option.bind_some _ _).symm.trans H; rw [hy927]; with_reducible exact H2_) | (have H2_ := (Option.bind_some _ _).symm.trans H; with_reducible exact H2_) | with_reducible exact H | (rw [hy927]; exact H) | exact H
    have Ny927 := Aside0.mk hy927
    clear hy927
    have H' := Aside0.mk H
    clear H
    go_enter Try.func53, Try.ntmps53
    go_wp2_with (first | ((with_reducible refine gate_dst (N := 7) rfl ?_); refine Kd.R_make k88 _ 88 rfl (N := 7) rfl 58 _ _ rfl (l0.length : Int) rfl rfl Try.underlying58 (.agg #[(.int .i64 0), (.int .i64 0)]) 16 info88 rfl (by decide) (by omega) z88 (ok := fun _ => True) (okp := fun _ => True) (k88_mkM _ _ _ z88 ) (fun _ hk => hk) trivial (of_decide_eq_true (by first | (with_reducible assumption) | assumption)) (Nat.le_trans (Nat.mul_le_mul_right _ (of_decide_eq_true (by first | (with_reducible assumption) | assumption) : (l0.length : Int).toNat ≤ 17592186044416)) (by omega)) (Below.refl _ _) (Nat.le_refl _) ?_; intro v928 w4 ho5 hb hg_ hnew_; clear hg_ hnew_; (first | rw [← Ny927.out] at ho5 | (simp only [Int.reduceToNat] at ho5; rw [← Ny927.out] at ho5)); have n0_ := Aside0.mk (Kd.R_lower ho5 (below_size (by repeat (first | (with_reducible first | exact HB.out | apply below_alloc | apply pw_below_drewN | apply below_drew1) | exact HB.out)))); have n1_ := Aside0.mk (below_step (by repeat (first | (with_reducible first | exact HB.out | apply below_alloc | apply pw_below_drewN | apply below_drew1) | exact HB.out)) hb); clear HB; have HO929 := n0_; have HB := n1_; clear n0_ n1_; clear hb ho5))
    go_loopg [4] k (fun kq v4 w' => ∃ (x3_1 : List (S88)) (x4_1 : Int), v4 = .int .i64 x4_1 ∧ Aside0 (laws_toPeelStepS.l0 kq l0 x3_1 x4_1 = some r) ∧ Aside0 (kq ≤ k) ∧ Aside0 (Kd.R k88 88 w' w.heap.size (fun _ => True) v928 x3_1) ∧ Aside0 (Below w.heap.size w w'))
    case atStart => exact ⟨(y927), (0), (by first | rfl | (simp; done) | (simp [*]; done)), H', ⟨Nat.le_refl _⟩, ⟨by (with_reducible repeat (first | apply Kd.R_alloc | apply Kd.R_drewN | apply Kd.R_drew)); exact HO929.out⟩, ⟨by repeat (first | (with_reducible first | exact HB.out | apply below_alloc | apply pw_below_drewN | apply below_drew1) | exact HB.out)⟩⟩
    case round =>
     clear H'
     try clear c2
     try clear c2b0
     try clear c2b1
     try clear p2
     try clear c3
     try clear c3b0
     try clear c3b1
     try clear c5
     obtain ⟨x3_1, x4_1, rfl, HA, HK1, HO_3, HB⟩ := hrel
     cases gk with
     | zero => exact absurd HA.out (by simp [laws_toPeelStepS.l0])
     | succ k1 =>
      have H := HA.out
      clear HA
      simp only [laws_toPeelStepS.l0] at H
      by_cases c6 : x4_1 < (l0.length : Int)
      ·rw [if_pos c6] at H
       have c6b0 : decide (x4_1 < (l0.length : Int)) = true := decide_eq_true c6
       clear c6
       by_cases c7 : 0 ≤ x4_1
       ·rw [if_pos c7] at H
        have c7b0 : decide (0 ≤ x4_1) = true := decide_eq_true c7
        clear c7
        replace H := Option.bind_eq_some_iff.mp H
        obtain ⟨⟨t931, t932⟩, A80, H⟩ := H
        replace H : (if x4_1 < (x3_1.length : Int) then (laws_toPeelStepS.l0 k1 l0 (x3_1.set (x4_1 : Int).toNat (⟨t931, t932⟩ : S88)) (wrap64 (x4_1 + 1))) else (none)) = some r := H
        have A8 := Aside0.mk A80
        clear A80
        by_cases c9 : x4_1 < (x3_1.length : Int)
        ·rw [if_pos c9] at H
         have c9b0 : decide (x4_1 < (x3_1.length : Int)) = true := decide_eq_true c9
         clear c9
         obtain ⟨y933, hy933⟩ : ∃ y_ : List (S88), y_ = (x3_1.set (x4_1 : Int).toNat (⟨t931, t932⟩ : S88)) := ⟨_, rfl⟩
         replace H : (laws_toPeelStepS.l0 k1 l0 y933 (wrap64 (x4_1 + 1))) = some r := by first | (rw [hy933]; with_reducible exact H) | (have H2_ := (Option.bind_some _ _).symm.trans H; rw [hy933]; with_reducible exact H2_) | (have H2_ := (Option.bind_some _ _).symm.trans H; with_reducible exact H2_) | with_reducible exact H | (rw [hy933]; exact H) | exact H
         have Ny933 := Aside0.mk hy933
         clear hy933
         have H' := Aside0.mk H
         clear H
         have p930 : 0 ≤ (x4_1 : Int) := of_decide_eq_true (by first | (with_reducible assumption) | assumption)
         have q930 : x4_1 < (l0.length : Int) := of_decide_eq_true (by first | (with_reducible assumption) | assumption)
         obtain ⟨ad930, e930, hx930_0, hx930_1⟩ := at_T90 HR0.out x4_1 p930 q930
         cases e930
         replace hx930_0 := (HB.out.cell (World.block_lt_of_cell? w _ hx930_0)).trans hx930_0
         replace hx930_1 := (HB.out.cell (World.block_lt_of_cell? w _ hx930_1)).trans hx930_1
         replace p930 := eq_true p930
         replace q930 := eq_true q930
         go_wp2_with (first | ((with_reducible refine gate_callee (f := 101) rfl ?_); refine goesL_ (some 20) rfl rfl Try.func101 (by kernel_rfl) rfl #[.agg #[.int .i64 ((rd_T90 l0 x4_1).f0), .int .i64 ((rd_T90 l0 x4_1).f1)]] rfl (by (try simp only [List.map_toArray, List.map_cons, List.map_nil]); first | done | rfl | (simp only [List.length_drop, List.length_take]; rfl)) ?_; (with_reducible refine (laws_toPeelStep.calls ((rd_T90 l0 x4_1).f0) ((rd_T90 l0 x4_1).f1) t931 t932 _ A8.out).mono ?_); rintro e w11 ⟨rfl, hb⟩; refine ⟨_, rfl, ?_⟩; have n0_ := Aside0.mk (Kd.R_below (by (with_reducible repeat (first | apply Kd.R_alloc | apply Kd.R_drewN | apply Kd.R_drew)); exact HO_3.out) hb); have n1_ := Aside0.mk (below_step (by repeat (first | (with_reducible first | exact HB.out | apply below_alloc | apply pw_below_drewN | apply below_drew1) | exact HB.out)) hb); clear HO_3; clear HB; have HO_3 := n0_; have HB := n1_; clear n0_ n1_; (try clear hb); (try clear hb2); (try clear hk); (try clear hi); have p10 : 0 ≤ (x4_1 : Int) := of_decide_eq_true (by first | (with_reducible assumption) | assumption); have q10 : (x4_1 : Int) < ((x3_1.length : Int) : Int) := of_decide_eq_true (by first | (with_reducible assumption) | assumption); obtain ⟨go10, co10, eo10, gb10, gl10, cl10, HG10⟩ := Kd.R_form HO_3.out (by omega); (first | cases eo10 | (injection eo10 with ea_ en_ ec_; (first | subst ea_ | (injection ea_ with ea_; subst ea_)); subst ec_; clear en_)); have GB10 := Aside0.mk gb10; have GG10 := Aside0.mk HG10; clear gb10 gl10 HG10; obtain ⟨ce10, hcl10, hM10, hcc10, hfr10⟩ := Kd.R_elem HO_3.out z88 (x4_1 : Int) p10 q10; obtain rfl := k88_openM hM10; have hx10_0 : w11.cell? ⟨go10, (x4_1 : Int).toNat * 2, none⟩ = some (.int .i64 ((rd_T88 x3_1 x4_1).f0)) := hcc10 0 _ rfl; have hx10_1 : w11.cell? ⟨go10, (x4_1 : Int).toNat * 2 + 1, none⟩ = some (.int .i64 ((rd_T88 x3_1 x4_1).f1)) := hcc10 1 _ rfl; have hf10_0 : w11.frozen? ⟨go10, (x4_1 : Int).toNat * 2, none⟩ = false := hfr10 0; have hf10_1 : w11.frozen? ⟨go10, (x4_1 : Int).toNat * 2 + 1, none⟩ = false := hfr10 1; clear hcl10 hcc10 hfr10; (try clear hM10); replace p10 := eq_true p10; replace q10 := eq_true q10; have HX12 := Aside0.mk (show Kd.R k88 88 w11 w.heap.size (fun _ => True) (.slice (some ⟨go10, 0, none⟩) x3_1.length co10) x3_1 from (by (with_reducible repeat (first | apply Kd.R_alloc | apply Kd.R_drewN | apply Kd.R_drew)); exact HO_3.out)); obtain ⟨ce12, hcl12, hM12, hcc12, hfr12⟩ := Kd.R_elem HX12.out z88 (x4_1 : Int) (of_decide_eq_true (by first | (with_reducible assumption) | assumption)) (by have h_ : (x4_1 : Int) < ((x3_1.length : Int) : Int) := of_decide_eq_true (by first | (with_reducible assumption) | assumption); first | exact h_ | (have e_ := (Kd.R_reads' HO_3.out).1; omega) | simpa using h_); obtain rfl := k88_openM hM12; have HP12 := Kd.R_seg HX12.out (x4_1 : Int) (of_decide_eq_true (by first | (with_reducible assumption) | assumption)) (by have h_ : (x4_1 : Int) < ((x3_1.length : Int) : Int) := of_decide_eq_true (by first | (with_reducible assumption) | assumption); first | exact h_ | (have e_ := (Kd.R_reads' HO_3.out).1; omega) | simpa using h_) (seg := [.int .i64 t931, .int .i64 t932]) (j := 0) hcl12 hcc12 (show 2 ≤ 2 from by decide) (x' := (⟨t931, t932⟩ : S88)) (k88_mkM _ _ _ (⟨t931, t932⟩ : S88) ) (fun _ hk => hk); have hx12_0 := hcc12 0 _ rfl; (try simp only [show (k88).sz = 2 from rfl, Nat.mul_one, Nat.add_zero] at hx12_0); have hf12_0 := hfr12 0; (try simp only [show (k88).sz = 2 from rfl, Nat.mul_one, Nat.add_zero] at hf12_0); have hx12_1 := hcc12 1 _ rfl; (try simp only [show (k88).sz = 2 from rfl, Nat.mul_one, Nat.add_zero] at hx12_1); have hf12_1 := hfr12 1; (try simp only [show (k88).sz = 2 from rfl, Nat.mul_one, Nat.add_zero] at hf12_1); clear hcl12 hcc12 hfr12; (try clear hM12)) | ((with_reducible refine gate_store (t := 88) (p := 21) rfl ?_); refine store_event (t := 88) (p := 21) (v := ?vo_w13) (w1 := ((w11.setCell ⟨go10, (x4_1 : Int).toNat * 2, none⟩ (.int .i64 t931)).setCell ⟨go10, (x4_1 : Int).toNat * 2 + 1, none⟩ (.int .i64 t932))) ?hg ?ho ?hn ?hr ?_; (case ho => rfl); (case hg => rfl); (case hn => rfl); (case hr => first | (go_simp; done) | (go_simp; rfl)); intro w13 hw; have hg : w11.grownBy w13 (some go10) := (by rw [hw]; exact HP12.2); have hp_ : Kd.R k88 88 w13 w.heap.size (fun _ => True) (.slice (some ⟨go10, 0, none⟩) x3_1.length co10) y933 := (by rw [hw, Ny933.out]; exact HP12.1); clear HP12; have n0_ := Aside0.mk (hp_); have n1_ := Aside0.mk ((by rw [hw]; exact below_set (below_set (HB.out) GB10.out) GB10.out : Below w.heap.size w w13)); clear HO_3; clear HB; have HO_3 := n0_; have HB := n1_; clear n0_ n1_; clear hg hw hp_))
         go_roundg k1
         case measure => have := HK1.out; omega
         case rel => exact ⟨(y933), (wrap64 (x4_1 + 1)), (by first | rfl | (simp; done) | (simp [*]; done)), H', ⟨by have := HK1.out; omega⟩, ⟨by (with_reducible repeat (first | apply Kd.R_alloc | apply Kd.R_drewN | apply Kd.R_drew)); exact HO_3.out⟩, ⟨by repeat (first | (with_reducible first | exact HB.out | apply below_alloc | apply pw_below_drewN | apply below_drew1) | exact HB.out)⟩⟩
        ·rw [if_neg c9] at H
         exact absurd H (by simp)
       ·rw [if_neg c7] at H
        exact absurd H (by simp)
      ·rw [if_neg c6] at H
       have c6b0 : decide (x4_1 < (l0.length : Int)) = false := decide_eq_false c6
       clear c6
       obtain rfl := Option.some.inj H
       go_wp2
       go_ret
       exact ⟨_, by first | rfl | (simp [errW_none, errW_some] <;> rfl) | (simp [*, errW_none, errW_some] <;> rfl), by (with_reducible repeat (first | apply Kd.R_alloc | apply Kd.R_drewN | apply Kd.R_drew)); exact HO_3.out, by repeat (first | (with_reducible first | exact HB.out | apply below_alloc | apply pw_below_drewN | apply below_drew1) | exact HB.out)⟩
   ·rw [if_neg c3] at H
    exact absurd H (by simp)
  ·rw [if_neg c2] at H
   exact absurd H (by simp)
end Go.Proofs.Ytlcedciocmjggaa.X
