/- Written by a program of this session: what functions of the given program compute, and that their calls do so. -/
import Derived.Test.YtioncjcmfbndmaaXx0
import Derived.Test.YtioncjcmfbndmaaXg2a
import Derived.Test.YtioncjcmfbndmaaXg2eaa
import Derived.Test.YtioncjcmfbndmaaXg2fba
import Derived.Test.YtioncjcmfbndmaaXg42a
import Derived.Test.YtioncjcmfbndmaaXg52a
import Derived.Test.YtioncjcmfbndmaaXgcaa
namespace Go.Proofs.Ytioncjcmfbndmaa.X
open Go.RowKit Go.Proofs.YtioncjcmfbndmaaW.PrintWords Go.Proofs.YtioncjcmfbndmaaW.PrintLast Go.Proofs.YtioncjcmfbndmaaW.PrintMore
attribute [local go_sem] max2_int min2_int max_two min_two max_three min_three max_four min_four   -- for this text's walks alone
set_option linter.unusedVariables false
set_option linter.unusedSimpArgs false
/-! ### impl_UnpackMarks: function 23 -/
mutual
def impl_UnpackMarks.j0 : Nat → Int → Int → Bool → Int → List Int → Option (Int × Int × List Int × Bool)
  | 0, _, _, _, _, _ => none
  | k + 1, x0, x1, x30, x221000, x221001 => if x30 = true then (some (0, 0, ([] : List Int), false)) else (impl_UnpackMarks.l0 k (wrap64 (3 * x1)) 0 x221000 x221001 x0 x1 ([] : List Int))
def impl_UnpackMarks.l0 : Nat → Int → Int → Int → List Int → Int → Int → List Int → Option (Int × Int × List Int × Bool)
  | 0, _, _, _, _, _, _, _ => none
  | k + 1, x36, x37, x221000, x221001, x226000, x226001, x226002 => if x37 < x36 then ((impl_Bits_field.f k x221000 x221001 (wrap64 (x37 * 2)) 2).bind fun t226 => (if x226002.length < 17592186044416 then (impl_UnpackMarks.l0 k x36 (wrap64 (x37 + 1)) x221000 x221001 x226000 x226001 (x226002 ++ [t226])) else (none))) else (some (x226000, x226001, x226002, true))
end
def impl_UnpackMarks.f (k : Nat) (a0 : Int) (a1 : Int) (a2_0 : Int) (l2_1 : List Int) : Option (Int × Int × List Int × Bool) := (impl_IsBits.f k a2_0 l2_1).bind fun t222 => (if t222 = true then ((impl_isSeed.f a0).bind fun t223 => (if t223 = true then ((impl_segmentOk.f a1).bind fun t224 => (if t224 = true then (impl_UnpackMarks.j0 k a0 a1 (a2_0 != (wrap64 ((wrap64 (3 * a1)) * 2))) a2_0 l2_1) else (impl_UnpackMarks.j0 k a0 a1 true a2_0 l2_1))) else (impl_UnpackMarks.j0 k a0 a1 true a2_0 l2_1))) else (impl_UnpackMarks.j0 k a0 a1 true a2_0 l2_1))
theorem impl_UnpackMarks.mono_l : ∀ k, (∀ y0 y1 y2 y3 y4, LeO (impl_UnpackMarks.j0 k y0 y1 y2 y3 y4) (impl_UnpackMarks.j0 (k + 1) y0 y1 y2 y3 y4)) ∧ (∀ y0 y1 y2 y3 y4 y5 y6, LeO (impl_UnpackMarks.l0 k y0 y1 y2 y3 y4 y5 y6) (impl_UnpackMarks.l0 (k + 1) y0 y1 y2 y3 y4 y5 y6))
  | 0 => ⟨fun _ _ _ _ _ r h => by simp [impl_UnpackMarks.j0] at h, fun _ _ _ _ _ _ _ r h => by simp [impl_UnpackMarks.l0] at h⟩
  | k + 1 => by
    obtain ⟨ih0, ih1⟩ := impl_UnpackMarks.mono_l k
    refine ⟨?_, ?_⟩
    · intro y0 y1 y2 y3 y4
      unfold impl_UnpackMarks.j0
      repeat' first
      | (with_reducible exact ih0 _ _ _ _ _)
      | (with_reducible exact ih1 _ _ _ _ _ _ _)
      | (with_reducible exact impl_Bits_field.mono _ _ _ _ _)
      | (with_reducible exact impl_IsBits.mono _ _ _)
      | (with_reducible exact LeO.refl _)
      | (with_reducible exact LeO.none _)
      | (with_reducible refine LeO.ite ?_ ?_)
      | (with_reducible refine LeO.bind ?_ (fun _ => ?_))
      | exact ih0 _ _ _ _ _
      | exact ih1 _ _ _ _ _ _ _
      | exact impl_Bits_field.mono _ _ _ _ _
      | exact impl_IsBits.mono _ _ _
      | exact LeO.none _
      | refine LeO.ite ?_ ?_
      | refine LeO.bind ?_ (fun _ => ?_)
    · intro y0 y1 y2 y3 y4 y5 y6
      unfold impl_UnpackMarks.l0
      repeat' first
      | (with_reducible exact ih0 _ _ _ _ _)
      | (with_reducible exact ih1 _ _ _ _ _ _ _)
      | (with_reducible exact impl_Bits_field.mono _ _ _ _ _)
      | (with_reducible exact impl_IsBits.mono _ _ _)
      | (with_reducible exact LeO.refl _)
      | (with_reducible exact LeO.none _)
      | (with_reducible refine LeO.ite ?_ ?_)
      | (with_reducible refine LeO.bind ?_ (fun _ => ?_))
      | exact ih0 _ _ _ _ _
      | exact ih1 _ _ _ _ _ _ _
      | exact impl_Bits_field.mono _ _ _ _ _
      | exact impl_IsBits.mono _ _ _
      | exact LeO.none _
      | refine LeO.ite ?_ ?_
      | refine LeO.bind ?_ (fun _ => ?_)
theorem impl_UnpackMarks.mono : ∀ a0 a1 a2 a3 k, LeO (impl_UnpackMarks.f k a0 a1 a2 a3) (impl_UnpackMarks.f (k + 1) a0 a1 a2 a3) := by
  intro a0 a1 a2 a3 k
  obtain ⟨ih0, ih1⟩ := impl_UnpackMarks.mono_l k
  unfold impl_UnpackMarks.f
  repeat' first
      | (with_reducible exact ih0 _ _ _ _ _)
      | (with_reducible exact ih1 _ _ _ _ _ _ _)
      | (with_reducible exact impl_Bits_field.mono _ _ _ _ _)
      | (with_reducible exact impl_IsBits.mono _ _ _)
      | (with_reducible exact LeO.refl _)
      | (with_reducible exact LeO.none _)
      | (with_reducible refine LeO.ite ?_ ?_)
      | (with_reducible refine LeO.bind ?_ (fun _ => ?_))
      | exact ih0 _ _ _ _ _
      | exact ih1 _ _ _ _ _ _ _
      | exact impl_Bits_field.mono _ _ _ _ _
      | exact impl_IsBits.mono _ _ _
      | exact LeO.none _
      | refine LeO.ite ?_ ?_
      | refine LeO.bind ?_ (fun _ => ?_)
noncomputable def impl_UnpackMarks.J0 (y0 : Int) (y1 : Int) (y2 : Bool) (y3 : Int) (y4 : List Int) : Option (Int × Int × List Int × Bool) := lim fun k => impl_UnpackMarks.j0 k y0 y1 y2 y3 y4
theorem impl_UnpackMarks.J0_sup (y0 : Int) (y1 : Int) (y2 : Bool) (y3 : Int) (y4 : List Int) : Sup (fun k => impl_UnpackMarks.j0 k y0 y1 y2 y3 y4) (impl_UnpackMarks.J0 y0 y1 y2 y3 y4) := Sup.of_mono fun k => (impl_UnpackMarks.mono_l k).1 y0 y1 y2 y3 y4
noncomputable def impl_UnpackMarks.L0 (y0 : Int) (y1 : Int) (y2 : Int) (y3 : List Int) (y4 : Int) (y5 : Int) (y6 : List Int) : Option (Int × Int × List Int × Bool) := lim fun k => impl_UnpackMarks.l0 k y0 y1 y2 y3 y4 y5 y6
theorem impl_UnpackMarks.L0_sup (y0 : Int) (y1 : Int) (y2 : Int) (y3 : List Int) (y4 : Int) (y5 : Int) (y6 : List Int) : Sup (fun k => impl_UnpackMarks.l0 k y0 y1 y2 y3 y4 y5 y6) (impl_UnpackMarks.L0 y0 y1 y2 y3 y4 y5 y6) := Sup.of_mono fun k => (impl_UnpackMarks.mono_l k).2 y0 y1 y2 y3 y4 y5 y6
noncomputable def impl_UnpackMarks.F (a0 : Int) (a1 : Int) (a2_0 : Int) (l2_1 : List Int) : Option (Int × Int × List Int × Bool) := lim fun k => impl_UnpackMarks.f k a0 a1 a2_0 l2_1
theorem impl_UnpackMarks.F_sup (a0 : Int) (a1 : Int) (a2_0 : Int) (l2_1 : List Int) : Sup (fun k => impl_UnpackMarks.f k a0 a1 a2_0 l2_1) (impl_UnpackMarks.F a0 a1 a2_0 l2_1) := Sup.of_mono fun k => impl_UnpackMarks.mono a0 a1 a2_0 l2_1 k
theorem impl_UnpackMarks.J0_eq (x0 : Int) (x1 : Int) (x30 : Bool) (x221000 : Int) (x221001 : List Int) : impl_UnpackMarks.J0 x0 x1 x30 x221000 x221001 = if x30 = true then (some (0, 0, ([] : List Int), false)) else (impl_UnpackMarks.L0 (wrap64 (3 * x1)) 0 x221000 x221001 x0 x1 ([] : List Int)) := by
  refine Sup.unique (impl_UnpackMarks.J0_sup x0 x1 x30 x221000 x221001) (Sup.shift (fun k => (impl_UnpackMarks.mono_l k).1 x0 x1 x30 x221000 x221001) (Sup.congr (g' := fun k => if x30 = true then (some (0, 0, ([] : List Int), false)) else (impl_UnpackMarks.l0 k (wrap64 (3 * x1)) 0 x221000 x221001 x0 x1 ([] : List Int))) (fun k => by first | rfl | simp only [impl_UnpackMarks.j0]) ?_))
  repeat' first
    | (with_reducible exact impl_UnpackMarks.J0_sup _ _ _ _ _)
    | (with_reducible exact impl_UnpackMarks.L0_sup _ _ _ _ _ _ _)
    | (with_reducible exact impl_IsBits.F_sup _ _)
    | (with_reducible exact impl_Bits_field.F_sup _ _ _ _)
    | (with_reducible refine Sup.ite ?_ ?_)
    | (with_reducible refine Sup.bind ?_ (fun _ => ?_))
    | (with_reducible exact Sup.const _)
    | exact impl_UnpackMarks.J0_sup _ _ _ _ _
    | exact impl_UnpackMarks.L0_sup _ _ _ _ _ _ _
    | exact impl_IsBits.F_sup _ _
    | exact impl_Bits_field.F_sup _ _ _ _
    | exact Sup.const _
theorem impl_UnpackMarks.L0_eq (x36 : Int) (x37 : Int) (x221000 : Int) (x221001 : List Int) (x226000 : Int) (x226001 : Int) (x226002 : List Int) : impl_UnpackMarks.L0 x36 x37 x221000 x221001 x226000 x226001 x226002 = if x37 < x36 then ((impl_Bits_field.F x221000 x221001 (wrap64 (x37 * 2)) 2).bind fun t226 => (if x226002.length < 17592186044416 then (impl_UnpackMarks.L0 x36 (wrap64 (x37 + 1)) x221000 x221001 x226000 x226001 (x226002 ++ [t226])) else (none))) else (some (x226000, x226001, x226002, true)) := by
  refine Sup.unique (impl_UnpackMarks.L0_sup x36 x37 x221000 x221001 x226000 x226001 x226002) (Sup.shift (fun k => (impl_UnpackMarks.mono_l k).2 x36 x37 x221000 x221001 x226000 x226001 x226002) (Sup.congr (g' := fun k => if x37 < x36 then ((impl_Bits_field.f k x221000 x221001 (wrap64 (x37 * 2)) 2).bind fun t226 => (if x226002.length < 17592186044416 then (impl_UnpackMarks.l0 k x36 (wrap64 (x37 + 1)) x221000 x221001 x226000 x226001 (x226002 ++ [t226])) else (none))) else (some (x226000, x226001, x226002, true))) (fun k => by first | rfl | simp only [impl_UnpackMarks.l0]) ?_))
  repeat' first
    | (with_reducible exact impl_UnpackMarks.J0_sup _ _ _ _ _)
    | (with_reducible exact impl_UnpackMarks.L0_sup _ _ _ _ _ _ _)
    | (with_reducible exact impl_IsBits.F_sup _ _)
    | (with_reducible exact impl_Bits_field.F_sup _ _ _ _)
    | (with_reducible refine Sup.ite ?_ ?_)
    | (with_reducible refine Sup.bind ?_ (fun _ => ?_))
    | (with_reducible exact Sup.const _)
    | exact impl_UnpackMarks.J0_sup _ _ _ _ _
    | exact impl_UnpackMarks.L0_sup _ _ _ _ _ _ _
    | exact impl_IsBits.F_sup _ _
    | exact impl_Bits_field.F_sup _ _ _ _
    | exact Sup.const _
theorem impl_UnpackMarks.F_eq (a0 : Int) (a1 : Int) (a2_0 : Int) (l2_1 : List Int) : impl_UnpackMarks.F a0 a1 a2_0 l2_1 = (impl_IsBits.F a2_0 l2_1).bind fun t222 => (if t222 = true then ((impl_isSeed.f a0).bind fun t223 => (if t223 = true then ((impl_segmentOk.f a1).bind fun t224 => (if t224 = true then (impl_UnpackMarks.J0 a0 a1 (a2_0 != (wrap64 ((wrap64 (3 * a1)) * 2))) a2_0 l2_1) else (impl_UnpackMarks.J0 a0 a1 true a2_0 l2_1))) else (impl_UnpackMarks.J0 a0 a1 true a2_0 l2_1))) else (impl_UnpackMarks.J0 a0 a1 true a2_0 l2_1)) := by
  refine Sup.unique (impl_UnpackMarks.F_sup a0 a1 a2_0 l2_1) (Sup.congr (g' := fun k => (impl_IsBits.f k a2_0 l2_1).bind fun t222 => (if t222 = true then ((impl_isSeed.f a0).bind fun t223 => (if t223 = true then ((impl_segmentOk.f a1).bind fun t224 => (if t224 = true then (impl_UnpackMarks.j0 k a0 a1 (a2_0 != (wrap64 ((wrap64 (3 * a1)) * 2))) a2_0 l2_1) else (impl_UnpackMarks.j0 k a0 a1 true a2_0 l2_1))) else (impl_UnpackMarks.j0 k a0 a1 true a2_0 l2_1))) else (impl_UnpackMarks.j0 k a0 a1 true a2_0 l2_1))) (fun k => by first | rfl | simp only [impl_UnpackMarks.f]) ?_)
  repeat' first
    | (with_reducible exact impl_UnpackMarks.J0_sup _ _ _ _ _)
    | (with_reducible exact impl_UnpackMarks.L0_sup _ _ _ _ _ _ _)
    | (with_reducible exact impl_IsBits.F_sup _ _)
    | (with_reducible exact impl_Bits_field.F_sup _ _ _ _)
    | (with_reducible refine Sup.ite ?_ ?_)
    | (with_reducible refine Sup.bind ?_ (fun _ => ?_))
    | (with_reducible exact Sup.const _)
    | exact impl_UnpackMarks.J0_sup _ _ _ _ _
    | exact impl_UnpackMarks.L0_sup _ _ _ _ _ _ _
    | exact impl_IsBits.F_sup _ _
    | exact impl_Bits_field.F_sup _ _ _ _
    | exact Sup.const _
def impl_UnpackMarks.T7 : Bool × List (List Nat × List Nat) := (true, [([], []), ([0], [0]), ([], []), ([2], [2]), ([3], [3]), ([4], [4]), ([1, 5, 4], [1, 5]), ([0, 1, 2, 3, 4, 5, 6], []), ([7, 6, 6, 0, 1, 2, 3, 4, 5, 6], [6, 7])])
def impl_UnpackMarks.B7 : List Nat := [0, 1, 0, 4, 12, 28, 63, 127, 255]
theorem impl_UnpackMarks.tab7 : rtab .any (opsOf Try.f23 7) = impl_UnpackMarks.T7 := by kernel_rfl
theorem impl_UnpackMarks.bits7 : waitsOk impl_UnpackMarks.T7.2 impl_UnpackMarks.B7 = true := by kernel_rfl
set_option maxHeartbeats 8000000 in
set_option maxRecDepth 100000 in
theorem impl_UnpackMarks.calls (k : Nat) (a0 : Int) (a1 : Int) (a2_0 : Int) (A2_1 : Option Addr) (c2_1 : Nat) (l2_1 : List Int) (r1 : Int) (r2 : Int) (r3 : List Int) (r4 : Bool) (w : World) (hr2_1 : Kd.C (Kd.int .i64) w A2_1 l2_1.length l2_1) (hc2_1 : l2_1.length ≤ c2_1) (h : impl_UnpackMarks.f k a0 a1 a2_0 l2_1 = some (r1, r2, r3, r4)) :
    Calls Try.prog 23 #[.int .i64 a0, .int .i64 a1, .agg #[.int .i64 a2_0, .slice A2_1 l2_1.length c2_1]] w fun e w' => ∃ v2_ : Value, e = .returned (.tuple #[.agg #[.int .i64 r1, .int .i64 r2, v2_], .bool r4]) ∧ Kd.R (Kd.int .i64) 3 w' w.heap.size (fun _ => True) v2_ r3 ∧ Below w.heap.size w w' := by
  have hu39 := Try.underlying39
  have hu36 := Try.underlying36
  have HR2_1 := Aside0.mk hr2_1
  have HC2_1 := Aside0.mk hc2_1
  clear hr2_1 hc2_1
  have HB := Aside0.mk (Below.refl w.heap.size w)
  have H : ((impl_IsBits.f k a2_0 l2_1).bind fun t222 => (if t222 = true then ((impl_isSeed.f a0).bind fun t223 => (if t223 = true then ((impl_segmentOk.f a1).bind fun t224 => (if t224 = true then (impl_UnpackMarks.j0 k a0 a1 (a2_0 != (wrap64 ((wrap64 (3 * a1)) * 2))) a2_0 l2_1) else (impl_UnpackMarks.j0 k a0 a1 true a2_0 l2_1))) else (impl_UnpackMarks.j0 k a0 a1 true a2_0 l2_1))) else (impl_UnpackMarks.j0 k a0 a1 true a2_0 l2_1))) = some (r1, r2, r3, r4) := h
  clear h
  have HC4 := Aside0.mk H
  clear H
  go_enter Try.func23, Try.ntmps23
  go_upto_region 1 with (first | ((with_reducible refine gate_dst (N := 5) rfl ?_); refine box_event ?hg (N := 5) ?hd (cs := #[.int .i64 a2_0, .slice A2_1 l2_1.length c2_1]) (t := 39) ?hr ?_; (case hd => rfl); (case hg => rfl); (case hr => first | (go_simp; done) | (go_simp; rfl)); intro gb220 hg w5 hbox hb; have n0_ := Aside0.mk (below_step (by repeat (first | (with_reducible first | exact HB.out | apply below_alloc | apply pw_below_drewN | apply below_drew1) | exact HB.out)) hb); have n1_ := Aside0.mk (hbox); have n2_ := Aside0.mk ((by rw [hg]; exact (below_size (by repeat (first | (with_reducible first | exact HB.out | apply below_alloc | apply pw_below_drewN | apply below_drew1) | exact HB.out))) : w.heap.size ≤ gb220)); have n3_ := Aside0.mk ((by rw [hg]; exact (below_size (by repeat (first | (with_reducible first | exact HB.out | apply below_alloc | apply pw_below_drewN | apply below_drew1) | exact HB.out))) : w.heap.size ≤ gb220)); clear HB; have HB := n0_; have BK220 := n1_; have GW220 := n2_; have GE220 := n3_; clear n0_ n1_ n2_ n3_; clear hb hbox hg) | ((with_reducible refine gate_dst (N := 6) rfl ?_); refine box_event ?hg (N := 6) ?hd (cs := #[.int .i64 0, .int .i64 0, .slice none 0 0]) (t := 36) ?hr ?_; (case hd => rfl); (case hg => rfl); (case hr => first | (go_simp; done) | (go_simp; rfl)); intro gb221 hg w6 hbox hb; have n0_ := Aside0.mk (blk_below (g := gb220) (o := .cells #[.int .i64 a2_0, .slice A2_1 l2_1.length c2_1] 39 (0, 0)) (by (with_reducible repeat (first | refine blk_drewN ?_ _ | refine blk_drew ?_ | refine blk_alloc ?_ _)); exact BK220.out) hb); have n1_ := Aside0.mk (below_step (by repeat (first | (with_reducible first | exact HB.out | apply below_alloc | apply pw_below_drewN | apply below_drew1 | refine below_set ?_ GE220.out) | exact HB.out)) hb); have n2_ := Aside0.mk (hbox); have n3_ := Aside0.mk ((by rw [hg]; exact (below_size (by repeat (first | (with_reducible first | exact HB.out | apply below_alloc | apply pw_below_drewN | apply below_drew1 | refine below_set ?_ GE220.out) | exact HB.out))) : w.heap.size ≤ gb221)); have n4_ := Aside0.mk ((by rw [hg]; exact (below_size (by repeat (first | (with_reducible first | exact HB.out | apply below_alloc | apply pw_below_drewN | apply below_drew1 | refine below_set ?_ GE220.out) | exact HB.out))) : w.heap.size ≤ gb221)); have n5_ := Aside0.mk ((by rw [hg]; exact Nat.ne_of_lt (blk_lt (g := gb220) (o := .cells #[.int .i64 a2_0, .slice A2_1 l2_1.length c2_1] 39 (0, 0)) (by (with_reducible repeat (first | refine blk_drewN ?_ _ | refine blk_drew ?_ | refine blk_alloc ?_ _)); exact BK220.out)) : gb220 ≠ gb221)); have n6_ := Aside0.mk ((by rw [hg]; exact Nat.ne_of_gt (blk_lt (g := gb220) (o := .cells #[.int .i64 a2_0, .slice A2_1 l2_1.length c2_1] 39 (0, 0)) (by (with_reducible repeat (first | refine blk_drewN ?_ _ | refine blk_drew ?_ | refine blk_alloc ?_ _)); exact BK220.out)) : gb221 ≠ gb220)); clear BK220; clear HB; have BK220 := n0_; have HB := n1_; have BK221 := n2_; have GW221 := n3_; have GE221 := n4_; have NB220_221 := n5_; have NB221_220 := n6_; clear n0_ n1_ n2_ n3_ n4_ n5_ n6_; clear hb hbox hg))
  (try simp only [Act.put, List.setIfInBounds_toArray, List.set_cons_zero, List.set_cons_succ])
  go_cut [30] (fun v30 wc => ∃ (kq : Nat) (x30_3 : Bool), v30 = .bool x30_3 ∧ Aside0 (impl_UnpackMarks.j0 kq a0 a1 x30_3 a2_0 l2_1 = some (r1, r2, r3, r4)) ∧ Aside0 (kq ≤ k) ∧ Aside0 (wc.heap[gb220]? = some (.cells #[.int .i64 a2_0, (.slice A2_1 l2_1.length c2_1)] 39 (0, 0))) ∧ Aside0 (wc.heap[gb221]? = some (.cells #[.int .i64 0, .int .i64 0, (.slice none 0 0)] 36 (0, 0))) ∧ Aside0 (Below w.heap.size w wc))
  case first =>
   have H := HC4.out
   clear HC4
   replace H := Option.bind_eq_some_iff.mp H
   obtain ⟨t222, A70, H⟩ := H
   replace H : (if t222 = true then ((impl_isSeed.f a0).bind fun t223 => (if t223 = true then ((impl_segmentOk.f a1).bind fun t224 => (if t224 = true then (impl_UnpackMarks.j0 k a0 a1 (a2_0 != (wrap64 ((wrap64 (3 * a1)) * 2))) a2_0 l2_1) else (impl_UnpackMarks.j0 k a0 a1 true a2_0 l2_1))) else (impl_UnpackMarks.j0 k a0 a1 true a2_0 l2_1))) else (impl_UnpackMarks.j0 k a0 a1 true a2_0 l2_1)) = some (r1, r2, r3, r4) := H
   have A7 := Aside0.mk A70
   clear A70
   by_cases c8 : t222 = true
   ·subst c8
    have H1 : ((impl_isSeed.f a0).bind fun t223 => (if t223 = true then ((impl_segmentOk.f a1).bind fun t224 => (if t224 = true then (impl_UnpackMarks.j0 k a0 a1 (a2_0 != (wrap64 ((wrap64 (3 * a1)) * 2))) a2_0 l2_1) else (impl_UnpackMarks.j0 k a0 a1 true a2_0 l2_1))) else (impl_UnpackMarks.j0 k a0 a1 true a2_0 l2_1))) = some (r1, r2, r3, r4) := by rw [if_pos rfl] at H; exact H
    clear H
    have H := H1
    clear H1
    replace H := Option.bind_eq_some_iff.mp H
    obtain ⟨t223, A90, H⟩ := H
    replace H : (if t223 = true then ((impl_segmentOk.f a1).bind fun t224 => (if t224 = true then (impl_UnpackMarks.j0 k a0 a1 (a2_0 != (wrap64 ((wrap64 (3 * a1)) * 2))) a2_0 l2_1) else (impl_UnpackMarks.j0 k a0 a1 true a2_0 l2_1))) else (impl_UnpackMarks.j0 k a0 a1 true a2_0 l2_1)) = some (r1, r2, r3, r4) := H
    have A9 := Aside0.mk A90
    clear A90
    by_cases c10 : t223 = true
    ·subst c10
     have H1 : ((impl_segmentOk.f a1).bind fun t224 => (if t224 = true then (impl_UnpackMarks.j0 k a0 a1 (a2_0 != (wrap64 ((wrap64 (3 * a1)) * 2))) a2_0 l2_1) else (impl_UnpackMarks.j0 k a0 a1 true a2_0 l2_1))) = some (r1, r2, r3, r4) := by rw [if_pos rfl] at H; exact H
     clear H
     have H := H1
     clear H1
     replace H := Option.bind_eq_some_iff.mp H
     obtain ⟨t224, A110, H⟩ := H
     replace H : (if t224 = true then (impl_UnpackMarks.j0 k a0 a1 (a2_0 != (wrap64 ((wrap64 (3 * a1)) * 2))) a2_0 l2_1) else (impl_UnpackMarks.j0 k a0 a1 true a2_0 l2_1)) = some (r1, r2, r3, r4) := H
     have A11 := Aside0.mk A110
     clear A110
     by_cases c12 : t224 = true
     ·subst c12
      have H1 : (impl_UnpackMarks.j0 k a0 a1 (a2_0 != (wrap64 ((wrap64 (3 * a1)) * 2))) a2_0 l2_1) = some (r1, r2, r3, r4) := by rw [if_pos rfl] at H; exact H
      clear H
      have H := H1
      clear H1
      have H' := Aside0.mk H
      clear H
      have hnb13 := NB220_221.out
      have hnc13 := NB221_220.out
      have hcz14_0 : w6.cell? ⟨gb220, 0, none⟩ = some (.int .i64 a2_0) := (blk_cell BK220.out 0).trans rfl
      have hcz14_1 : w6.cell? ⟨gb220, 1, none⟩ = some (.slice A2_1 l2_1.length c2_1) := (blk_cell BK220.out 1).trans rfl
      have hfz14_0 := blk_frozen BK220.out 0
      have hfz14_1 := blk_frozen BK220.out 1
      go_wp2_with (first | ((with_reducible refine gate_callee (f := 79) rfl ?_); refine goesL_ (some 11) rfl rfl Try.func79 (by kernel_rfl) rfl #[.agg #[.int .i64 a2_0, .slice A2_1 l2_1.length c2_1]] rfl (by (try simp only [List.map_toArray, List.map_cons, List.map_nil]); first | done | rfl | (simp only [List.length_drop, List.length_take]; rfl)) ?_; (with_reducible refine (impl_IsBits.calls k a2_0 _ _ l2_1 true _ ?side1 ?side2 A7.out).mono ?_); (case side1 => repeat (first | exact (Kd.C_below HR2_1.out HB.out) | (with_reducible refine Kd.C_alloc ?_ _) | (with_reducible refine Kd.C_drewN ?_ _) | (with_reducible refine Kd.C_drew ?_))); (case side2 => exact HC2_1.out); rintro e w15 ⟨rfl, hb⟩; refine ⟨_, rfl, ?_⟩; have n0_ := Aside0.mk (blk_below (g := gb220) (o := .cells #[.int .i64 a2_0, .slice A2_1 l2_1.length c2_1] 39 (0, 0)) (by (with_reducible repeat (first | refine blk_drewN ?_ _ | refine blk_drew ?_ | refine blk_alloc ?_ _)); exact BK220.out) hb); have n1_ := Aside0.mk (blk_below (g := gb221) (o := .cells #[.int .i64 0, .int .i64 0, .slice none 0 0] 36 (0, 0)) (by (with_reducible repeat (first | refine blk_drewN ?_ _ | refine blk_drew ?_ | refine blk_alloc ?_ _)); exact BK221.out) hb); have n2_ := Aside0.mk (below_step (by repeat (first | (with_reducible first | exact HB.out | apply below_alloc | apply pw_below_drewN | apply below_drew1 | refine below_set ?_ GE220.out | refine below_set ?_ GE221.out) | exact HB.out)) hb); clear BK220; clear BK221; clear HB; have BK220 := n0_; have BK221 := n1_; have HB := n2_; clear n0_ n1_ n2_; (try clear hb); (try clear hb2); (try clear hk); (try clear hi)) | (go_at_call 80; (with_reducible refine (impl_isSeed.calls a0 true _ A9.out).mono ?_); rintro e w' ⟨rfl, ⟨nd, rfl⟩⟩) | (go_at_call 81; (with_reducible refine (impl_segmentOk.calls a1 true _ A11.out).mono ?_); rintro e w' ⟨rfl, ⟨nd, rfl⟩⟩; have hcz16_0 : w15.cell? ⟨gb220, 0, none⟩ = some (.int .i64 a2_0) := (blk_cell BK220.out 0).trans rfl; have hcz16_1 : w15.cell? ⟨gb220, 1, none⟩ = some (.slice A2_1 l2_1.length c2_1) := (blk_cell BK220.out 1).trans rfl; have hfz16_0 := blk_frozen BK220.out 0; have hfz16_1 := blk_frozen BK220.out 1))
      go_meet
      case rel => exact ⟨_, ((a2_0 != (wrap64 ((wrap64 (3 * a1)) * 2)))), (by first | rfl | (simp; done) | (simp [*]; done)), H', ⟨by first | omega | exact Nat.le_refl _⟩, ⟨by (with_reducible repeat (first | refine blk_drewN ?_ _ | refine blk_drew ?_ | refine blk_alloc ?_ _)); exact BK220.out⟩, ⟨by (with_reducible repeat (first | refine blk_drewN ?_ _ | refine blk_drew ?_ | refine blk_alloc ?_ _)); exact BK221.out⟩, ⟨by repeat (first | (with_reducible first | exact HB.out | apply below_alloc | apply pw_below_drewN | apply below_drew1 | refine below_set ?_ GE220.out | refine below_set ?_ GE221.out) | exact HB.out)⟩⟩
     ·replace c12 := Bool.eq_false_iff.mpr c12
      subst c12
      have H1 : (impl_UnpackMarks.j0 k a0 a1 true a2_0 l2_1) = some (r1, r2, r3, r4) := by rw [if_neg (show ¬ (false = true) by decide)] at H; exact H
      clear H
      have H := H1
      clear H1
      have H' := Aside0.mk H
      clear H
      have hnb17 := NB220_221.out
      have hnc17 := NB221_220.out
      have hcz18_0 : w6.cell? ⟨gb220, 0, none⟩ = some (.int .i64 a2_0) := (blk_cell BK220.out 0).trans rfl
      have hcz18_1 : w6.cell? ⟨gb220, 1, none⟩ = some (.slice A2_1 l2_1.length c2_1) := (blk_cell BK220.out 1).trans rfl
      have hfz18_0 := blk_frozen BK220.out 0
      have hfz18_1 := blk_frozen BK220.out 1
      go_wp2_with (first | ((with_reducible refine gate_callee (f := 79) rfl ?_); refine goesL_ (some 11) rfl rfl Try.func79 (by kernel_rfl) rfl #[.agg #[.int .i64 a2_0, .slice A2_1 l2_1.length c2_1]] rfl (by (try simp only [List.map_toArray, List.map_cons, List.map_nil]); first | done | rfl | (simp only [List.length_drop, List.length_take]; rfl)) ?_; (with_reducible refine (impl_IsBits.calls k a2_0 _ _ l2_1 true _ ?side1 ?side2 A7.out).mono ?_); (case side1 => repeat (first | exact (Kd.C_below HR2_1.out HB.out) | (with_reducible refine Kd.C_alloc ?_ _) | (with_reducible refine Kd.C_drewN ?_ _) | (with_reducible refine Kd.C_drew ?_))); (case side2 => exact HC2_1.out); rintro e w19 ⟨rfl, hb⟩; refine ⟨_, rfl, ?_⟩; have n0_ := Aside0.mk (blk_below (g := gb220) (o := .cells #[.int .i64 a2_0, .slice A2_1 l2_1.length c2_1] 39 (0, 0)) (by (with_reducible repeat (first | refine blk_drewN ?_ _ | refine blk_drew ?_ | refine blk_alloc ?_ _)); exact BK220.out) hb); have n1_ := Aside0.mk (blk_below (g := gb221) (o := .cells #[.int .i64 0, .int .i64 0, .slice none 0 0] 36 (0, 0)) (by (with_reducible repeat (first | refine blk_drewN ?_ _ | refine blk_drew ?_ | refine blk_alloc ?_ _)); exact BK221.out) hb); have n2_ := Aside0.mk (below_step (by repeat (first | (with_reducible first | exact HB.out | apply below_alloc | apply pw_below_drewN | apply below_drew1 | refine below_set ?_ GE220.out | refine below_set ?_ GE221.out) | exact HB.out)) hb); clear BK220; clear BK221; clear HB; have BK220 := n0_; have BK221 := n1_; have HB := n2_; clear n0_ n1_ n2_; (try clear hb); (try clear hb2); (try clear hk); (try clear hi)) | (go_at_call 80; (with_reducible refine (impl_isSeed.calls a0 true _ A9.out).mono ?_); rintro e w' ⟨rfl, ⟨nd, rfl⟩⟩) | (go_at_call 81; (with_reducible refine (impl_segmentOk.calls a1 false _ A11.out).mono ?_); rintro e w' ⟨rfl, ⟨nd, rfl⟩⟩))
      go_meet
      case rel => exact ⟨_, (true), (by first | rfl | (simp; done) | (simp [*]; done)), H', ⟨by first | omega | exact Nat.le_refl _⟩, ⟨by (with_reducible repeat (first | refine blk_drewN ?_ _ | refine blk_drew ?_ | refine blk_alloc ?_ _)); exact BK220.out⟩, ⟨by (with_reducible repeat (first | refine blk_drewN ?_ _ | refine blk_drew ?_ | refine blk_alloc ?_ _)); exact BK221.out⟩, ⟨by repeat (first | (with_reducible first | exact HB.out | apply below_alloc | apply pw_below_drewN | apply below_drew1 | refine below_set ?_ GE220.out | refine below_set ?_ GE221.out) | exact HB.out)⟩⟩
    ·replace c10 := Bool.eq_false_iff.mpr c10
     subst c10
     have H1 : (impl_UnpackMarks.j0 k a0 a1 true a2_0 l2_1) = some (r1, r2, r3, r4) := by rw [if_neg (show ¬ (false = true) by decide)] at H; exact H
     clear H
     have H := H1
     clear H1
     have H' := Aside0.mk H
     clear H
     have hnb20 := NB220_221.out
     have hnc20 := NB221_220.out
     have hcz21_0 : w6.cell? ⟨gb220, 0, none⟩ = some (.int .i64 a2_0) := (blk_cell BK220.out 0).trans rfl
     have hcz21_1 : w6.cell? ⟨gb220, 1, none⟩ = some (.slice A2_1 l2_1.length c2_1) := (blk_cell BK220.out 1).trans rfl
     have hfz21_0 := blk_frozen BK220.out 0
     have hfz21_1 := blk_frozen BK220.out 1
     go_wp2_with (first | ((with_reducible refine gate_callee (f := 79) rfl ?_); refine goesL_ (some 11) rfl rfl Try.func79 (by kernel_rfl) rfl #[.agg #[.int .i64 a2_0, .slice A2_1 l2_1.length c2_1]] rfl (by (try simp only [List.map_toArray, List.map_cons, List.map_nil]); first | done | rfl | (simp only [List.length_drop, List.length_take]; rfl)) ?_; (with_reducible refine (impl_IsBits.calls k a2_0 _ _ l2_1 true _ ?side1 ?side2 A7.out).mono ?_); (case side1 => repeat (first | exact (Kd.C_below HR2_1.out HB.out) | (with_reducible refine Kd.C_alloc ?_ _) | (with_reducible refine Kd.C_drewN ?_ _) | (with_reducible refine Kd.C_drew ?_))); (case side2 => exact HC2_1.out); rintro e w22 ⟨rfl, hb⟩; refine ⟨_, rfl, ?_⟩; have n0_ := Aside0.mk (blk_below (g := gb220) (o := .cells #[.int .i64 a2_0, .slice A2_1 l2_1.length c2_1] 39 (0, 0)) (by (with_reducible repeat (first | refine blk_drewN ?_ _ | refine blk_drew ?_ | refine blk_alloc ?_ _)); exact BK220.out) hb); have n1_ := Aside0.mk (blk_below (g := gb221) (o := .cells #[.int .i64 0, .int .i64 0, .slice none 0 0] 36 (0, 0)) (by (with_reducible repeat (first | refine blk_drewN ?_ _ | refine blk_drew ?_ | refine blk_alloc ?_ _)); exact BK221.out) hb); have n2_ := Aside0.mk (below_step (by repeat (first | (with_reducible first | exact HB.out | apply below_alloc | apply pw_below_drewN | apply below_drew1 | refine below_set ?_ GE220.out | refine below_set ?_ GE221.out) | exact HB.out)) hb); clear BK220; clear BK221; clear HB; have BK220 := n0_; have BK221 := n1_; have HB := n2_; clear n0_ n1_ n2_; (try clear hb); (try clear hb2); (try clear hk); (try clear hi)) | (go_at_call 80; (with_reducible refine (impl_isSeed.calls a0 false _ A9.out).mono ?_); rintro e w' ⟨rfl, ⟨nd, rfl⟩⟩))
     go_meet
     case rel => exact ⟨_, (true), (by first | rfl | (simp; done) | (simp [*]; done)), H', ⟨by first | omega | exact Nat.le_refl _⟩, ⟨by (with_reducible repeat (first | refine blk_drewN ?_ _ | refine blk_drew ?_ | refine blk_alloc ?_ _)); exact BK220.out⟩, ⟨by (with_reducible repeat (first | refine blk_drewN ?_ _ | refine blk_drew ?_ | refine blk_alloc ?_ _)); exact BK221.out⟩, ⟨by repeat (first | (with_reducible first | exact HB.out | apply below_alloc | apply pw_below_drewN | apply below_drew1 | refine below_set ?_ GE220.out | refine below_set ?_ GE221.out) | exact HB.out)⟩⟩
   ·replace c8 := Bool.eq_false_iff.mpr c8
    subst c8
    have H1 : (impl_UnpackMarks.j0 k a0 a1 true a2_0 l2_1) = some (r1, r2, r3, r4) := by rw [if_neg (show ¬ (false = true) by decide)] at H; exact H
    clear H
    have H := H1
    clear H1
    have H' := Aside0.mk H
    clear H
    have hnb23 := NB220_221.out
    have hnc23 := NB221_220.out
    have hcz24_0 : w6.cell? ⟨gb220, 0, none⟩ = some (.int .i64 a2_0) := (blk_cell BK220.out 0).trans rfl
    have hcz24_1 : w6.cell? ⟨gb220, 1, none⟩ = some (.slice A2_1 l2_1.length c2_1) := (blk_cell BK220.out 1).trans rfl
    have hfz24_0 := blk_frozen BK220.out 0
    have hfz24_1 := blk_frozen BK220.out 1
    go_wp2_with (first | ((with_reducible refine gate_callee (f := 79) rfl ?_); refine goesL_ (some 11) rfl rfl Try.func79 (by kernel_rfl) rfl #[.agg #[.int .i64 a2_0, .slice A2_1 l2_1.length c2_1]] rfl (by (try simp only [List.map_toArray, List.map_cons, List.map_nil]); first | done | rfl | (simp only [List.length_drop, List.length_take]; rfl)) ?_; (with_reducible refine (impl_IsBits.calls k a2_0 _ _ l2_1 false _ ?side1 ?side2 A7.out).mono ?_); (case side1 => repeat (first | exact (Kd.C_below HR2_1.out HB.out) | (with_reducible refine Kd.C_alloc ?_ _) | (with_reducible refine Kd.C_drewN ?_ _) | (with_reducible refine Kd.C_drew ?_))); (case side2 => exact HC2_1.out); rintro e w25 ⟨rfl, hb⟩; refine ⟨_, rfl, ?_⟩; have n0_ := Aside0.mk (blk_below (g := gb220) (o := .cells #[.int .i64 a2_0, .slice A2_1 l2_1.length c2_1] 39 (0, 0)) (by (with_reducible repeat (first | refine blk_drewN ?_ _ | refine blk_drew ?_ | refine blk_alloc ?_ _)); exact BK220.out) hb); have n1_ := Aside0.mk (blk_below (g := gb221) (o := .cells #[.int .i64 0, .int .i64 0, .slice none 0 0] 36 (0, 0)) (by (with_reducible repeat (first | refine blk_drewN ?_ _ | refine blk_drew ?_ | refine blk_alloc ?_ _)); exact BK221.out) hb); have n2_ := Aside0.mk (below_step (by repeat (first | (with_reducible first | exact HB.out | apply below_alloc | apply pw_below_drewN | apply below_drew1 | refine below_set ?_ GE220.out | refine below_set ?_ GE221.out) | exact HB.out)) hb); clear BK220; clear BK221; clear HB; have BK220 := n0_; have BK221 := n1_; have HB := n2_; clear n0_ n1_ n2_; (try clear hb); (try clear hb2); (try clear hk); (try clear hi)))
    go_meet
    case rel => exact ⟨_, (true), (by first | rfl | (simp; done) | (simp [*]; done)), H', ⟨by first | omega | exact Nat.le_refl _⟩, ⟨by (with_reducible repeat (first | refine blk_drewN ?_ _ | refine blk_drew ?_ | refine blk_alloc ?_ _)); exact BK220.out⟩, ⟨by (with_reducible repeat (first | refine blk_drewN ?_ _ | refine blk_drew ?_ | refine blk_alloc ?_ _)); exact BK221.out⟩, ⟨by repeat (first | (with_reducible first | exact HB.out | apply below_alloc | apply pw_below_drewN | apply below_drew1 | refine below_set ?_ GE220.out | refine below_set ?_ GE221.out) | exact HB.out)⟩⟩
  case rest =>
   clear HC4
   try clear c1
   try clear c2
   try clear p2
   try clear p6
   try clear c7
   try clear c8
   try clear c10
   try clear c12
   try clear c13
   try clear c17
   try clear c20
   try clear c23
   try clear hcz14_0
   try clear hcz14_1
   try clear hcz16_0
   try clear hcz16_1
   try clear hcz18_0
   try clear hcz18_1
   try clear hcz21_0
   try clear hcz21_1
   try clear hcz24_0
   try clear hcz24_1
   try clear hfz14_0
   try clear hfz14_1
   try clear hfz16_0
   try clear hfz16_1
   try clear hfz18_0
   try clear hfz18_1
   try clear hfz21_0
   try clear hfz21_1
   try clear hfz24_0
   try clear hfz24_1
   obtain ⟨kq, x30_3, rfl, HA, HJ3, BK220, BK221, HB⟩ := hcut
   cases kq with
   | zero => exact absurd HA.out (by simp [impl_UnpackMarks.j0])
   | succ kj3 =>
    have H := HA.out
    clear HA
    simp only [impl_UnpackMarks.j0] at H
    by_cases c26 : x30_3 = true
    ·subst c26
     have H1 : (some (0, 0, ([] : List Int), false)) = some (r1, r2, r3, r4) := by rw [if_pos rfl] at H; exact H
     clear H
     have H := H1
     clear H1
     simp only [Option.some.injEq, Prod.mk.injEq] at H
     obtain ⟨rfl, rfl, rfl, rfl⟩ := H
     have hnb27 := NB221_220.out
     have hnc27 := NB220_221.out
     have hcz28_0 : wc.cell? ⟨gb221, 0, none⟩ = some (.int .i64 0) := (blk_cell BK221.out 0).trans rfl
     have hcz28_1 : wc.cell? ⟨gb221, 1, none⟩ = some (.int .i64 0) := (blk_cell BK221.out 1).trans rfl
     have hcz28_2 : wc.cell? ⟨gb221, 2, none⟩ = some (.slice none 0 0) := (blk_cell BK221.out 2).trans rfl
     have hfz28_0 := blk_frozen BK221.out 0
     have hfz28_1 := blk_frozen BK221.out 1
     have hfz28_2 := blk_frozen BK221.out 2
     go_wp2
     refine bodyPost_ret (results_ct rfl _ _ gb221 36 #[.int .i64 0, .int .i64 0, .slice none 0 0] (0, 0) _ rfl (by (with_reducible repeat (first | refine blk_drewN ?_ _ | refine blk_drew ?_ | refine blk_alloc ?_ _)); refine blk_put (cs := #[.int .i64 0, .int .i64 0, .slice none 0 0]) ?_ 2 _ rfl; (with_reducible repeat (first | refine blk_drewN ?_ _ | refine blk_drew ?_ | refine blk_alloc ?_ _)); refine blk_put (cs := #[.int .i64 0, .int .i64 0, .slice none 0 0]) ?_ 1 _ rfl; (with_reducible repeat (first | refine blk_drewN ?_ _ | refine blk_drew ?_ | refine blk_alloc ?_ _)); refine blk_put (cs := #[.int .i64 0, .int .i64 0, .slice none 0 0]) ?_ 0 _ rfl; (with_reducible repeat (first | refine blk_drewN ?_ _ | refine blk_drew ?_ | refine blk_alloc ?_ _)); exact BK221.out) Try.underlying36 rfl (by kernel_rfl)) rfl ?_
     exact ⟨_, by first | rfl | (simp [errW_none, errW_some] <;> rfl) | (simp [*, errW_none, errW_some] <;> rfl), by first | exact Kd.R_nil _ _ _ _ _ | exact Kd.N_nil _ _ _ _ _ | exact Kd.V_nil _ _ _ _ _ | exact Kd.Q_nil _ _ _ _ _ | exact Kd.S_nil _ _ _ _ _, by repeat (first | (with_reducible first | exact HB.out | apply below_alloc | apply pw_below_drewN | apply below_drew1 | refine below_set ?_ GE220.out | refine below_set ?_ GE221.out) | exact HB.out)⟩
    ·replace c26 := Bool.eq_false_iff.mpr c26
     subst c26
     have H1 : (impl_UnpackMarks.l0 kj3 (wrap64 (3 * a1)) 0 a2_0 l2_1 a0 a1 ([] : List Int)) = some (r1, r2, r3, r4) := by rw [if_neg (show ¬ (false = true) by decide)] at H; exact H
     clear H
     have H := H1
     clear H1
     have H' := Aside0.mk H
     clear H
     go_wp2_with (first | ((with_reducible refine gate_dst (N := 8) rfl ?_); refine box_event ?hg (N := 8) ?hd (cs := #[.int .i64 0, .int .i64 0, .slice none 0 0]) (t := 36) ?hr ?_; (case hd => rfl); (case hg => rfl); (case hr => first | (go_simp; done) | (go_simp; rfl)); intro gb225 hg w29 hbox hb; have n0_ := Aside0.mk (blk_below (g := gb220) (o := .cells #[.int .i64 a2_0, .slice A2_1 l2_1.length c2_1] 39 (0, 0)) (by (with_reducible repeat (first | refine blk_drewN ?_ _ | refine blk_drew ?_ | refine blk_alloc ?_ _)); exact BK220.out) hb); have n1_ := Aside0.mk (blk_below (g := gb221) (o := .cells #[.int .i64 0, .int .i64 0, .slice none 0 0] 36 (0, 0)) (by (with_reducible repeat (first | refine blk_drewN ?_ _ | refine blk_drew ?_ | refine blk_alloc ?_ _)); exact BK221.out) hb); have n2_ := Aside0.mk (below_step (by repeat (first | (with_reducible first | exact HB.out | apply below_alloc | apply pw_below_drewN | apply below_drew1 | refine below_set ?_ GE220.out | refine below_set ?_ GE221.out) | exact HB.out)) hb); have n3_ := Aside0.mk (hbox); have n4_ := Aside0.mk ((by rw [hg]; exact (below_size (by repeat (first | (with_reducible first | exact HB.out | apply below_alloc | apply pw_below_drewN | apply below_drew1 | refine below_set ?_ GE220.out | refine below_set ?_ GE221.out) | exact HB.out))) : w.heap.size ≤ gb225)); have n5_ := Aside0.mk ((by rw [hg]; exact (below_size (by repeat (first | (with_reducible first | exact HB.out | apply below_alloc | apply pw_below_drewN | apply below_drew1 | refine below_set ?_ GE220.out | refine below_set ?_ GE221.out) | exact HB.out))) : w.heap.size ≤ gb225)); have n6_ := Aside0.mk ((by rw [hg]; exact Nat.ne_of_lt (blk_lt (g := gb220) (o := .cells #[.int .i64 a2_0, .slice A2_1 l2_1.length c2_1] 39 (0, 0)) (by (with_reducible repeat (first | refine blk_drewN ?_ _ | refine blk_drew ?_ | refine blk_alloc ?_ _)); exact BK220.out)) : gb220 ≠ gb225)); have n7_ := Aside0.mk ((by rw [hg]; exact Nat.ne_of_gt (blk_lt (g := gb220) (o := .cells #[.int .i64 a2_0, .slice A2_1 l2_1.length c2_1] 39 (0, 0)) (by (with_reducible repeat (first | refine blk_drewN ?_ _ | refine blk_drew ?_ | refine blk_alloc ?_ _)); exact BK220.out)) : gb225 ≠ gb220)); have n8_ := Aside0.mk ((by rw [hg]; exact Nat.ne_of_lt (blk_lt (g := gb221) (o := .cells #[.int .i64 0, .int .i64 0, .slice none 0 0] 36 (0, 0)) (by (with_reducible repeat (first | refine blk_drewN ?_ _ | refine blk_drew ?_ | refine blk_alloc ?_ _)); exact BK221.out)) : gb221 ≠ gb225)); have n9_ := Aside0.mk ((by rw [hg]; exact Nat.ne_of_gt (blk_lt (g := gb221) (o := .cells #[.int .i64 0, .int .i64 0, .slice none 0 0] 36 (0, 0)) (by (with_reducible repeat (first | refine blk_drewN ?_ _ | refine blk_drew ?_ | refine blk_alloc ?_ _)); exact BK221.out)) : gb225 ≠ gb221)); clear BK220; clear BK221; clear HB; have BK220 := n0_; have BK221 := n1_; have HB := n2_; have BK225 := n3_; have GW225 := n4_; have GE225 := n5_; have NB220_225 := n6_; have NB225_220 := n7_; have NB221_225 := n8_; have NB225_221 := n9_; clear n0_ n1_ n2_ n3_ n4_ n5_ n6_ n7_ n8_ n9_; clear hb hbox hg; have hnb30 := NB225_220.out; have hnc30 := NB220_225.out; have hnb31 := NB225_221.out; have hnc31 := NB221_225.out; have hcz32_0 : w29.cell? ⟨gb225, 0, none⟩ = some (.int .i64 0) := (blk_cell BK225.out 0).trans rfl; have hcz32_1 : w29.cell? ⟨gb225, 1, none⟩ = some (.int .i64 0) := (blk_cell BK225.out 1).trans rfl; have hcz32_2 : w29.cell? ⟨gb225, 2, none⟩ = some (.slice none 0 0) := (blk_cell BK225.out 2).trans rfl; have hfz32_0 := blk_frozen BK225.out 0; have hfz32_1 := blk_frozen BK225.out 1; have hfz32_2 := blk_frozen BK225.out 2))
     go_loopg [37] kj3 (fun kq v37 w' => ∃ (x37_2 : Int) (x226002_2 : List Int) (u226002 : Value), v37 = .int .i64 x37_2 ∧ Aside0 (impl_UnpackMarks.l0 kq (wrap64 (3 * a1)) x37_2 a2_0 l2_1 a0 a1 x226002_2 = some (r1, r2, r3, r4)) ∧ Aside0 (kq ≤ kj3) ∧ Aside0 (Kd.R (Kd.int .i64) 3 w' w.heap.size (fun _ => True) u226002 x226002_2) ∧ Aside0 (w'.heap[gb220]? = some (.cells #[.int .i64 a2_0, (.slice A2_1 l2_1.length c2_1)] 39 (0, 0))) ∧ Aside0 (w'.heap[gb221]? = some (.cells #[.int .i64 0, .int .i64 0, (.slice none 0 0)] 36 (0, 0))) ∧ Aside0 (w'.heap[gb225]? = some (.cells #[.int .i64 a0, .int .i64 a1, u226002] 36 (0, 0))) ∧ Aside0 (Below w.heap.size w w'))
     case atStart => exact ⟨(0), (([] : List Int)), (.slice none 0 0), (by first | rfl | (simp; done) | (simp [*]; done)), H', ⟨Nat.le_refl _⟩, ⟨by first | exact Kd.R_nil _ _ _ _ _ | exact Kd.N_nil _ _ _ _ _ | exact Kd.V_nil _ _ _ _ _ | exact Kd.Q_nil _ _ _ _ _ | exact Kd.S_nil _ _ _ _ _⟩, ⟨by (with_reducible repeat (first | refine blk_drewN ?_ _ | refine blk_drew ?_ | refine blk_alloc ?_ _)); refine blk_far ?_ NB220_225.out _; (with_reducible repeat (first | refine blk_drewN ?_ _ | refine blk_drew ?_ | refine blk_alloc ?_ _)); refine blk_far ?_ NB220_225.out _; (with_reducible repeat (first | refine blk_drewN ?_ _ | refine blk_drew ?_ | refine blk_alloc ?_ _)); refine blk_far ?_ NB220_225.out _; (with_reducible repeat (first | refine blk_drewN ?_ _ | refine blk_drew ?_ | refine blk_alloc ?_ _)); exact BK220.out⟩, ⟨by (with_reducible repeat (first | refine blk_drewN ?_ _ | refine blk_drew ?_ | refine blk_alloc ?_ _)); refine blk_far ?_ NB221_225.out _; (with_reducible repeat (first | refine blk_drewN ?_ _ | refine blk_drew ?_ | refine blk_alloc ?_ _)); refine blk_far ?_ NB221_225.out _; (with_reducible repeat (first | refine blk_drewN ?_ _ | refine blk_drew ?_ | refine blk_alloc ?_ _)); refine blk_far ?_ NB221_225.out _; (with_reducible repeat (first | refine blk_drewN ?_ _ | refine blk_drew ?_ | refine blk_alloc ?_ _)); exact BK221.out⟩, ⟨by (with_reducible repeat (first | refine blk_drewN ?_ _ | refine blk_drew ?_ | refine blk_alloc ?_ _)); refine blk_put (cs := #[.int .i64 a0, .int .i64 a1, .slice none 0 0]) ?_ 2 _ rfl; (with_reducible repeat (first | refine blk_drewN ?_ _ | refine blk_drew ?_ | refine blk_alloc ?_ _)); refine blk_put (cs := #[.int .i64 a0, .int .i64 0, .slice none 0 0]) ?_ 1 _ rfl; (with_reducible repeat (first | refine blk_drewN ?_ _ | refine blk_drew ?_ | refine blk_alloc ?_ _)); refine blk_put (cs := #[.int .i64 0, .int .i64 0, .slice none 0 0]) ?_ 0 _ rfl; (with_reducible repeat (first | refine blk_drewN ?_ _ | refine blk_drew ?_ | refine blk_alloc ?_ _)); exact BK225.out⟩, ⟨by repeat (first | (with_reducible first | exact HB.out | apply below_alloc | apply pw_below_drewN | apply below_drew1 | refine below_set ?_ GE220.out | refine below_set ?_ GE221.out | refine below_set ?_ GE225.out) | exact HB.out)⟩⟩
     case round =>
      clear H'
      try clear c1
      try clear c2
      try clear p2
      try clear c3
      try clear p6
      try clear c7
      try clear c8
      try clear c10
      try clear c12
      try clear c13
      try clear c17
      try clear c20
      try clear c23
      try clear c26
      try clear c27
      try clear c30
      try clear c31
      try clear hcz14_0
      try clear hcz14_1
      try clear hcz16_0
      try clear hcz16_1
      try clear hcz18_0
      try clear hcz18_1
      try clear hcz21_0
      try clear hcz21_1
      try clear hcz24_0
      try clear hcz24_1
      try clear hcz28_0
      try clear hcz28_1
      try clear hcz28_2
      try clear hcz32_0
      try clear hcz32_1
      try clear hcz32_2
      try clear hfz14_0
      try clear hfz14_1
      try clear hfz16_0
      try clear hfz16_1
      try clear hfz18_0
      try clear hfz18_1
      try clear hfz21_0
      try clear hfz21_1
      try clear hfz24_0
      try clear hfz24_1
      try clear hfz28_0
      try clear hfz28_1
      try clear hfz28_2
      try clear hfz32_0
      try clear hfz32_1
      try clear hfz32_2
      try clear p2
      try clear p6
      obtain ⟨x37_2, x226002_2, u226002, rfl, HA, HK2, HO_226002, BK220, BK221, BK225, HB⟩ := hrel
      cases gk with
      | zero => exact absurd HA.out (by simp [impl_UnpackMarks.l0])
      | succ k2 =>
       have H := HA.out
       clear HA
       simp only [impl_UnpackMarks.l0] at H
       by_cases c33 : x37_2 < (wrap64 (3 * a1))
       ·rw [if_pos c33] at H
        have c33b0 : decide (x37_2 < (wrap64 (3 * a1))) = true := decide_eq_true c33
        clear c33
        replace H := Option.bind_eq_some_iff.mp H
        obtain ⟨t226, A340, H⟩ := H
        replace H : (if x226002_2.length < 17592186044416 then (impl_UnpackMarks.l0 k2 (wrap64 (3 * a1)) (wrap64 (x37_2 + 1)) a2_0 l2_1 a0 a1 (x226002_2 ++ [t226])) else (none)) = some (r1, r2, r3, r4) := H
        have A34 := Aside0.mk A340
        clear A340
        by_cases c35 : x226002_2.length < 17592186044416
        ·rw [if_pos c35] at H
         have LMc35 := Aside0.mk c35
         clear c35
         obtain ⟨y227, hy227⟩ : ∃ y_ : List Int, y_ = (x226002_2 ++ [t226]) := ⟨_, rfl⟩
         replace H : (impl_UnpackMarks.l0 k2 (wrap64 (3 * a1)) (wrap64 (x37_2 + 1)) a2_0 l2_1 a0 a1 y227) = some (r1, r2, r3, r4) := by first | (rw [hy227]; with_reducible exact H) | (have H2_ := (Option.bind_some _ _).symm.trans H; rw [hy227]; with_reducible exact H2_) | (have H2_ := (Option.bind_some _ _).symm.trans H; with_reducible exact H2_) | with_reducible exact H | (rw [hy227]; exact H) | exact H
         have Ny227 := Aside0.mk hy227
         clear hy227
         have H' := Aside0.mk H
         clear H
         try go_wp2
         have n0_ := Aside0.mk (Kd.R_drew HO_226002.out)
         have n1_ := Aside0.mk (blk_drew BK220.out)
         have n2_ := Aside0.mk (blk_drew BK221.out)
         have n3_ := Aside0.mk (blk_drew BK225.out)
         have n4_ := Aside0.mk (below_drew1 HB.out)
         clear HO_226002
         clear BK220
         clear BK221
         clear BK225
         clear HB
         have HO_226002 := n0_
         have BK220 := n1_
         have BK221 := n2_
         have BK225 := n3_
         have HB := n4_
         clear n0_ n1_ n2_ n3_ n4_
         refine start_ (n := 9) (S := fun w' => w'.cell? ⟨gb225, 0, none⟩ = some (.int .i64 a0) ∧ w'.cell? ⟨gb225, 1, none⟩ = some (.int .i64 a1) ∧ w'.cell? ⟨gb225, 2, none⟩ = some (u226002)) (ds := [8]) #[false, false, false, false, false, false, false, false, false] (by kernel_rfl) rfl rfl ⟨(blk_cell BK225.out 0).trans rfl, (blk_cell BK225.out 1).trans rfl, (blk_cell BK225.out 2).trans rfl⟩ (fun hHeld => ?_); refine with_tabW impl_UnpackMarks.tab7 impl_UnpackMarks.bits7 (fun HT_ HW_ => ?_)
         generalize wr.drew = w36 at HO_226002 BK220 BK221 BK225 HB hHeld ⊢
         refine pure_ (i := 0) (N := some 40) (v := ?_) (a' := ?_) #[true, false, false, false, false, false, false, false, false] rfl rfl (any_of HT_.out (by kernel_rfl)) (fun _ _ _ h => h) (Or.inl ⟨by rfl, ?_⟩) ?_ ?_
         rotate_left
         ·intro w'
          go_simp
          with_reducible rfl
         rotate_left
         ·simp only [Act.put, List.setIfInBounds_toArray, List.set_cons_zero, List.set_cons_succ, i64_w]
          rfl
         refine pure_ (i := 2) (N := some 42) (v := ?_) (a' := ?_) #[true, false, true, false, false, false, false, false, false] rfl rfl (any_of HT_.out (by kernel_rfl)) (fun _ _ _ h => h) (Or.inl ⟨by rfl, ?_⟩) ?_ ?_
         rotate_left
         ·intro w'
          go_simp
          with_reducible rfl
         rotate_left
         ·simp only [Act.put, List.setIfInBounds_toArray, List.set_cons_zero, List.set_cons_succ, i64_w]
          rfl
         refine pure_ (i := 3) (N := some 43) (v := ?_) (a' := ?_) #[true, false, true, true, false, false, false, false, false] rfl rfl (any_of HT_.out (by kernel_rfl)) (fun _ _ _ h => h) (Or.inl ⟨by rfl, ?_⟩) ?_ ?_
         rotate_left
         ·intro w'
          go_simp
          with_reducible rfl
         rotate_left
         ·simp only [Act.put, List.setIfInBounds_toArray, List.set_cons_zero, List.set_cons_succ, i64_w]
          rfl
         refine take_ (i := 1) (N := some 41) (v := ?_) (a' := ?_) #[true, true, true, true, false, false, false, false, false] rfl rfl (take_ofW HT_.out HW_.out (by kernel_rfl)) (fun _ _ _ h => h) (Or.inl ⟨by rfl, ?_⟩) hHeld ?_ ?_
         rotate_left
         ·rintro w' ⟨s0, s1, s2⟩
          go_simp
          with_reducible rfl
         rotate_left
         ·simp only [Act.put, List.setIfInBounds_toArray, List.set_cons_zero, List.set_cons_succ, i64_w]
          rfl
         refine one_ (i := 4) (N := some 44) #[true, true, true, true, true, false, false, false, false] rfl rfl (one_of HT_.out (by kernel_rfl)) (by decide) (fun K hK => ?_)
         refine goes_ Try.func82 (by kernel_rfl) rfl #[.pointer (some ⟨gb220, 0, none⟩), .int .i64 (wrap64 (x37_2 * 2)), .int .i64 2] (by rfl) rfl rfl (by (try simp only [List.map_toArray, List.map_cons, List.map_nil]); first | done | rfl | (simp only [List.length_drop, List.length_take]; rfl)) ?_
         with_reducible refine (impl_Bits_field.calls k2 gb220 a2_0 A2_1 c2_1 l2_1 (wrap64 (x37_2 * 2)) 2 t226 _ ?side1 ?side2 ?side3 A34.out).mono ?_
         (case side1 => repeat (first | exact (Kd.C_below HR2_1.out HB.out) | (with_reducible refine Kd.C_alloc ?_ _) | (with_reducible refine Kd.C_drewN ?_ _) | (with_reducible refine Kd.C_drew ?_)))
         (case side2 => exact HC2_1.out)
         (case side3 => exact (by (with_reducible repeat (first | refine blk_drewN ?_ _ | refine blk_drew ?_ | refine blk_alloc ?_ _)); exact BK220.out))
         rintro e w' ⟨rfl, ⟨nd, rfl⟩⟩
         refine ⟨_, rfl, ?_⟩
         refine hK.out _ _ ⟨(blk_cell BK225.out 0).trans rfl, (blk_cell BK225.out 1).trans rfl, (blk_cell BK225.out 2).trans rfl⟩ (fun hHeld => ?_)
         clear hK K
         refine norm_ (a' := ?_) ?_ ?_
         rotate_left
         ·show Act.put _ (some 44) _ = _
          simp only [Act.put, List.setIfInBounds_toArray, List.set_cons_zero, List.set_cons_succ, i64_w]
          rfl
         refine one_ (i := 5) (N := some 45) #[true, true, true, true, true, true, false, false, false] rfl rfl (one_of HT_.out (by kernel_rfl)) (by decide) (fun K hK => ?_)
         refine value_ (w1 := ?_) (v := ?_) (by rfl) rfl ?_ ?_
         rotate_left 2
         ·go_simp
          constructor
          ·rfl
          ·rfl
         refine hK.out _ _ ⟨(blk_cell (blk_alloc BK225.out _) 0).trans rfl, (blk_cell (blk_alloc BK225.out _) 1).trans rfl, (blk_cell (blk_alloc BK225.out _) 2).trans rfl⟩ (fun hHeld => ?_)
         clear hK K
         refine norm_ (a' := ?_) ?_ ?_
         rotate_left
         ·show Act.put _ (some 45) _ = _
          simp only [Act.put, List.setIfInBounds_toArray, List.set_cons_zero, List.set_cons_succ, i64_w]
          rfl
         refine one_ (i := 6) (N := some 46) #[true, true, true, true, true, true, true, false, false] rfl rfl (one_of HT_.out (by kernel_rfl)) (by decide) (fun K hK => ?_)
         refine Kd.R_append_step (Kd.int .i64) (w0 := w) w.heap.size (by rfl) (.tmp 41) (.tmp 45) 22 3 (.int .i64 0) 8 rfl Try.underlying22 info3 rfl (by decide) (by omega) u226002 x226002_2 t226 [.int .i64 t226] (fun _ => True) (fun _ => False) rfl rfl ?aP (fun _ hk => hk.elim) ?aF ?aO ?aB ?aS ?aL ?_
         (case aP => exact rfl)
         (case aB => exact (by repeat (first | (with_reducible first | exact HB.out | apply below_alloc | apply pw_below_drewN | apply below_drew1 | refine below_set ?_ GE220.out | refine below_set ?_ GE221.out | refine below_set ?_ GE225.out) | exact HB.out)))
         (case aF => exact (fun _ _ => trivial))
         (case aO => exact (by (with_reducible repeat (first | apply Kd.R_alloc | apply Kd.R_drewN | apply Kd.R_drew)); exact HO_226002.out))
         (case aS => exact (below_size (by repeat (first | (with_reducible first | exact HB.out | apply below_alloc | apply pw_below_drewN | apply below_drew1 | refine below_set ?_ GE220.out | refine below_set ?_ GE221.out | refine below_set ?_ GE225.out) | exact HB.out))))
         (case aL => have := LMc35.out; omega)
         intro v228 w37 ho hb hg hat
         rw [← Ny227.out] at ho
         have n0_ := Aside0.mk (blk_grown (g := gb220) (o := .cells #[.int .i64 a2_0, .slice A2_1 l2_1.length c2_1] 39 (0, 0)) (by (with_reducible repeat (first | refine blk_drewN ?_ _ | refine blk_drew ?_ | refine blk_alloc ?_ _)); exact BK220.out) hg (Kd.R_ne HO_226002.out BK220.out (by decide)))
         have n1_ := Aside0.mk (blk_grown (g := gb221) (o := .cells #[.int .i64 0, .int .i64 0, .slice none 0 0] 36 (0, 0)) (by (with_reducible repeat (first | refine blk_drewN ?_ _ | refine blk_drew ?_ | refine blk_alloc ?_ _)); exact BK221.out) hg (Kd.R_ne HO_226002.out BK221.out (by decide)))
         have n2_ := Aside0.mk (blk_grown (g := gb225) (o := .cells #[.int .i64 a0, .int .i64 a1, u226002] 36 (0, 0)) (by (with_reducible repeat (first | refine blk_drewN ?_ _ | refine blk_drew ?_ | refine blk_alloc ?_ _)); exact BK225.out) hg (Kd.R_ne HO_226002.out BK225.out (by decide)))
         have n3_ := Aside0.mk (hb)
         have n4_ := Aside0.mk (ho)
         clear BK220
         clear BK221
         clear BK225
         clear HB
         clear HO_226002
         have BK220 := n0_
         have BK221 := n1_
         have BK225 := n2_
         have HB := n3_
         have HO229 := n4_
         clear n0_ n1_ n2_ n3_ n4_
         clear ho hb hg hat
         obtain ⟨Ao38, co38, eo38⟩ := Kd.R_slice HO229.out
         (first | subst eo38 | (injection eo38 with f1_ f2_ f3_; have f4_ := f1_.symm; have f5_ := f3_.symm; clear f1_ f2_ f3_; subst f4_; subst f5_))
         refine hK.out _ _ ⟨(blk_cell BK225.out 0).trans rfl, (blk_cell BK225.out 1).trans rfl, (blk_cell BK225.out 2).trans rfl⟩ (fun hHeld => ?_)
         clear hK K
         refine norm_ (a' := ?_) ?_ ?_
         rotate_left
         ·show Act.put _ (some 46) _ = _
          simp only [Act.put, List.setIfInBounds_toArray, List.set_cons_zero, List.set_cons_succ, i64_w]
          rfl
         refine pure_ (i := 7) (N := some 47) (v := ?_) (a' := ?_) #[true, true, true, true, true, true, true, true, false] rfl rfl (any_of HT_.out (by kernel_rfl)) (fun _ _ _ h => h) (Or.inl ⟨by rfl, ?_⟩) ?_ ?_
         rotate_left
         ·intro w'
          go_simp
          with_reducible rfl
         rotate_left
         ·simp only [Act.put, List.setIfInBounds_toArray, List.set_cons_zero, List.set_cons_succ, i64_w]
          rfl
         refine last_ (i := 8) (N := none) #[true, true, true, true, true, true, true, true, true] rfl rfl (one_of HT_.out (by kernel_rfl)) (by decide) (fun K hK => ?_)
         have hs39 : w37.cell? ⟨gb225, 2, none⟩ = some (u226002) := (blk_cell BK225.out 2).trans rfl
         have hfs39 := blk_frozen BK225.out 2
         have hns39_0 := NB220_225.out
         have hns39_1 := NB221_225.out
         have hms39_0 := NB225_220.out
         have hms39_1 := NB225_221.out
         refine skip_ (w1 := ?_) (by rfl) rfl ?_ ?_
         rotate_left
         ·go_simp
          rfl
         refine hK.out _ _ ?_
         clear hK K
         refine done_ (done_of HT_.out (by kernel_rfl)) ?_
         try go_wp2
         go_roundg k2
         case measure => have := HJ3.out; have := HK2.out; omega
         case rel => exact ⟨(wrap64 (x37_2 + 1)), (y227), (.slice Ao38 y227.length co38), (by first | rfl | (simp; done) | (simp [*]; done)), H', ⟨by have := HJ3.out; have := HK2.out; omega⟩, ⟨by (with_reducible repeat (first | apply Kd.R_alloc | apply Kd.R_drewN | apply Kd.R_drew)); exact Kd.R_mono (Kd.R_far (p := ⟨gb225, 2, none⟩) (Kd.R_types HO229.out BK225.out (by decide)) (fun _ hk => hk.2) (.slice Ao38 y227.length co38)) (fun _ hk => trivial)⟩, ⟨by (with_reducible repeat (first | refine blk_drewN ?_ _ | refine blk_drew ?_ | refine blk_alloc ?_ _)); refine blk_far ?_ NB220_225.out _; (with_reducible repeat (first | refine blk_drewN ?_ _ | refine blk_drew ?_ | refine blk_alloc ?_ _)); exact BK220.out⟩, ⟨by (with_reducible repeat (first | refine blk_drewN ?_ _ | refine blk_drew ?_ | refine blk_alloc ?_ _)); refine blk_far ?_ NB221_225.out _; (with_reducible repeat (first | refine blk_drewN ?_ _ | refine blk_drew ?_ | refine blk_alloc ?_ _)); exact BK221.out⟩, ⟨by (with_reducible repeat (first | refine blk_drewN ?_ _ | refine blk_drew ?_ | refine blk_alloc ?_ _)); refine blk_put (cs := #[.int .i64 a0, .int .i64 a1, u226002]) ?_ 2 _ rfl; (with_reducible repeat (first | refine blk_drewN ?_ _ | refine blk_drew ?_ | refine blk_alloc ?_ _)); exact BK225.out⟩, ⟨by repeat (first | (with_reducible first | exact HB.out | apply below_alloc | apply pw_below_drewN | apply below_drew1 | refine below_set ?_ GE220.out | refine below_set ?_ GE221.out | refine below_set ?_ GE225.out) | exact HB.out)⟩⟩
        ·rw [if_neg c35] at H
         exact absurd H (by simp)
       ·rw [if_neg c33] at H
        have c33b0 : decide (x37_2 < (wrap64 (3 * a1))) = false := decide_eq_false c33
        clear c33
        simp only [Option.some.injEq, Prod.mk.injEq] at H
        obtain ⟨rfl, rfl, rfl, rfl⟩ := H
        have hnb40 := NB225_220.out
        have hnc40 := NB220_225.out
        have hnb41 := NB225_221.out
        have hnc41 := NB221_225.out
        have hcz42_0 : wr.cell? ⟨gb225, 0, none⟩ = some (.int .i64 a0) := (blk_cell BK225.out 0).trans rfl
        have hcz42_1 : wr.cell? ⟨gb225, 1, none⟩ = some (.int .i64 a1) := (blk_cell BK225.out 1).trans rfl
        have hcz42_2 : wr.cell? ⟨gb225, 2, none⟩ = some (u226002) := (blk_cell BK225.out 2).trans rfl
        have hfz42_0 := blk_frozen BK225.out 0
        have hfz42_1 := blk_frozen BK225.out 1
        have hfz42_2 := blk_frozen BK225.out 2
        have hnb43 := NB221_220.out
        have hnc43 := NB220_221.out
        have hcz44_0 : wr.cell? ⟨gb221, 0, none⟩ = some (.int .i64 0) := (blk_cell BK221.out 0).trans rfl
        have hcz44_1 : wr.cell? ⟨gb221, 1, none⟩ = some (.int .i64 0) := (blk_cell BK221.out 1).trans rfl
        have hcz44_2 : wr.cell? ⟨gb221, 2, none⟩ = some (.slice none 0 0) := (blk_cell BK221.out 2).trans rfl
        have hfz44_0 := blk_frozen BK221.out 0
        have hfz44_1 := blk_frozen BK221.out 1
        have hfz44_2 := blk_frozen BK221.out 2
        obtain ⟨Ao45, co45, eo45⟩ := Kd.R_slice HO_226002.out
        subst eo45
        go_wp2
        refine bodyPost_ret (results_ct rfl _ _ gb221 36 #[.int .i64 a0, .int .i64 a1, .slice Ao45 x226002_2.length co45] (0, 0) _ rfl (by (with_reducible repeat (first | refine blk_drewN ?_ _ | refine blk_drew ?_ | refine blk_alloc ?_ _)); refine blk_put (cs := #[.int .i64 a0, .int .i64 a1, .slice none 0 0]) ?_ 2 _ rfl; (with_reducible repeat (first | refine blk_drewN ?_ _ | refine blk_drew ?_ | refine blk_alloc ?_ _)); refine blk_put (cs := #[.int .i64 a0, .int .i64 0, .slice none 0 0]) ?_ 1 _ rfl; (with_reducible repeat (first | refine blk_drewN ?_ _ | refine blk_drew ?_ | refine blk_alloc ?_ _)); refine blk_put (cs := #[.int .i64 0, .int .i64 0, .slice none 0 0]) ?_ 0 _ rfl; (with_reducible repeat (first | refine blk_drewN ?_ _ | refine blk_drew ?_ | refine blk_alloc ?_ _)); exact BK221.out) Try.underlying36 rfl (by kernel_rfl)) rfl ?_
        exact ⟨_, by first | rfl | (simp [errW_none, errW_some] <;> rfl) | (simp [*, errW_none, errW_some] <;> rfl), by (with_reducible repeat (first | apply Kd.R_alloc | apply Kd.R_drewN | apply Kd.R_drew)); exact Kd.R_mono (Kd.R_far (p := ⟨gb221, 2, none⟩) (Kd.R_far (p := ⟨gb221, 1, none⟩) (Kd.R_far (p := ⟨gb221, 0, none⟩) (Kd.R_types HO_226002.out BK221.out (by decide)) (fun _ hk => hk.2) (.int .i64 a0)) (fun _ hk => hk.2) (.int .i64 a1)) (fun _ hk => hk.2) (.slice Ao45 x226002_2.length co45)) (fun _ hk => trivial), by repeat (first | (with_reducible first | exact HB.out | apply below_alloc | apply pw_below_drewN | apply below_drew1 | refine below_set ?_ GE220.out | refine below_set ?_ GE221.out | refine below_set ?_ GE225.out) | exact HB.out)⟩
/-! ### laws_heldPeeled: function 28 -/
def laws_heldPeeled.f (k : Nat) (a0_0 : Int) (a0_1 : Int) (l0_2 : List Int) (a1 : Int) : Option (Int) := (laws_heldIntS.f k l0_2 a1).bind fun t245 => (if t245 < 0 then (some (-1)) else (some t245))
theorem laws_heldPeeled.mono : ∀ a0 a1 a2 a3 k, LeO (laws_heldPeeled.f k a0 a1 a2 a3) (laws_heldPeeled.f (k + 1) a0 a1 a2 a3) := by
  intro a0 a1 a2 a3 k
  unfold laws_heldPeeled.f
  repeat' first
      | (with_reducible exact laws_heldIntS.mono _ _ _)
      | (with_reducible exact LeO.refl _)
      | (with_reducible exact LeO.none _)
      | (with_reducible refine LeO.ite ?_ ?_)
      | (with_reducible refine LeO.bind ?_ (fun _ => ?_))
      | exact laws_heldIntS.mono _ _ _
      | exact LeO.none _
      | refine LeO.ite ?_ ?_
      | refine LeO.bind ?_ (fun _ => ?_)
noncomputable def laws_heldPeeled.F (a0_0 : Int) (a0_1 : Int) (l0_2 : List Int) (a1 : Int) : Option (Int) := lim fun k => laws_heldPeeled.f k a0_0 a0_1 l0_2 a1
theorem laws_heldPeeled.F_sup (a0_0 : Int) (a0_1 : Int) (l0_2 : List Int) (a1 : Int) : Sup (fun k => laws_heldPeeled.f k a0_0 a0_1 l0_2 a1) (laws_heldPeeled.F a0_0 a0_1 l0_2 a1) := Sup.of_mono fun k => laws_heldPeeled.mono a0_0 a0_1 l0_2 a1 k
theorem laws_heldPeeled.F_eq (a0_0 : Int) (a0_1 : Int) (l0_2 : List Int) (a1 : Int) : laws_heldPeeled.F a0_0 a0_1 l0_2 a1 = (laws_heldIntS.F l0_2 a1).bind fun t245 => (if t245 < 0 then (some (-1)) else (some t245)) := by
  refine Sup.unique (laws_heldPeeled.F_sup a0_0 a0_1 l0_2 a1) (Sup.congr (g' := fun k => (laws_heldIntS.f k l0_2 a1).bind fun t245 => (if t245 < 0 then (some (-1)) else (some t245))) (fun k => by first | rfl | simp only [laws_heldPeeled.f]) ?_)
  repeat' first
    | (with_reducible exact laws_heldIntS.F_sup _ _)
    | (with_reducible refine Sup.ite ?_ ?_)
    | (with_reducible refine Sup.bind ?_ (fun _ => ?_))
    | (with_reducible exact Sup.const _)
    | exact laws_heldIntS.F_sup _ _
    | exact Sup.const _
set_option maxHeartbeats 8000000 in
set_option maxRecDepth 100000 in
theorem laws_heldPeeled.calls (k : Nat) (a0_0 : Int) (a0_1 : Int) (A0_2 : Option Addr) (c0_2 : Nat) (l0_2 : List Int) (a1 : Int) (r : Int) (w : World) (hr0_2 : Kd.C (Kd.int .i64) w A0_2 l0_2.length l0_2) (hc0_2 : l0_2.length ≤ c0_2) (h : laws_heldPeeled.f k a0_0 a0_1 l0_2 a1 = some r) :
    Calls Try.prog 28 #[.agg #[.int .i64 a0_0, .int .i64 a0_1, .slice A0_2 l0_2.length c0_2], .int .i64 a1] w fun e w' => e = .returned (.int .i64 r) ∧ Below w.heap.size w w' := by
  have hu36 := Try.underlying36
  have HR0_2 := Aside0.mk hr0_2
  have HC0_2 := Aside0.mk hc0_2
  clear hr0_2 hc0_2
  have HB := Aside0.mk (Below.refl w.heap.size w)
  have H : ((laws_heldIntS.f k l0_2 a1).bind fun t245 => (if t245 < 0 then (some (-1)) else (some t245))) = some r := h
  clear h
  replace H := Option.bind_eq_some_iff.mp H
  obtain ⟨t245, A30, H⟩ := H
  replace H : (if t245 < 0 then (some (-1)) else (some t245)) = some r := H
  have A3 := Aside0.mk A30
  clear A30
  by_cases c4 : t245 < 0
  ·rw [if_pos c4] at H
   have c4b0 : decide (t245 < 0) = true := decide_eq_true c4
   clear c4
   obtain rfl := Option.some.inj H
   go_enter Try.func28, Try.ntmps28
   go_wp2_with (first | ((with_reducible refine gate_dst (N := 2) rfl ?_); refine box_event ?hg (N := 2) ?hd (cs := #[.int .i64 a0_0, .int .i64 a0_1, .slice A0_2 l0_2.length c0_2]) (t := 36) ?hr ?_; (case hd => rfl); (case hg => rfl); (case hr => first | (go_simp; done) | (go_simp; rfl)); intro gb244 hg w5 hbox hb; have n0_ := Aside0.mk (below_step (by repeat (first | (with_reducible first | exact HB.out | apply below_alloc | apply pw_below_drewN | apply below_drew1) | exact HB.out)) hb); have n1_ := Aside0.mk (hbox); have n2_ := Aside0.mk ((by rw [hg]; exact (below_size (by repeat (first | (with_reducible first | exact HB.out | apply below_alloc | apply pw_below_drewN | apply below_drew1) | exact HB.out))) : w.heap.size ≤ gb244)); have n3_ := Aside0.mk ((by rw [hg]; exact (below_size (by repeat (first | (with_reducible first | exact HB.out | apply below_alloc | apply pw_below_drewN | apply below_drew1) | exact HB.out))) : w.heap.size ≤ gb244)); clear HB; have HB := n0_; have BK244 := n1_; have GW244 := n2_; have GE244 := n3_; clear n0_ n1_ n2_ n3_; clear hb hbox hg; have hcz6_0 : w5.cell? ⟨gb244, 0, none⟩ = some (.int .i64 a0_0) := (blk_cell BK244.out 0).trans rfl; have hcz6_1 : w5.cell? ⟨gb244, 1, none⟩ = some (.int .i64 a0_1) := (blk_cell BK244.out 1).trans rfl; have hcz6_2 : w5.cell? ⟨gb244, 2, none⟩ = some (.slice A0_2 l0_2.length c0_2) := (blk_cell BK244.out 2).trans rfl; have hfz6_0 := blk_frozen BK244.out 0; have hfz6_1 := blk_frozen BK244.out 1; have hfz6_2 := blk_frozen BK244.out 2) | ((with_reducible refine gate_callee (f := 43) rfl ?_); refine goesL_ (some 8) rfl rfl Try.func43 (by kernel_rfl) rfl #[.slice A0_2 l0_2.length c0_2, .int .i64 a1] rfl (by (try simp only [List.map_toArray, List.map_cons, List.map_nil]); first | done | rfl | (simp only [List.length_drop, List.length_take]; rfl)) ?_; (with_reducible refine (laws_heldIntS.calls k _ _ l0_2 a1 t245 _ ?side1 ?side2 A3.out).mono ?_); (case side1 => repeat (first | exact (Kd.C_below HR0_2.out HB.out) | (with_reducible refine Kd.C_alloc ?_ _) | (with_reducible refine Kd.C_drewN ?_ _) | (with_reducible refine Kd.C_drew ?_))); (case side2 => exact HC0_2.out); rintro e w' ⟨rfl, ⟨nd, rfl⟩⟩; refine ⟨_, rfl, ?_⟩))
   go_ret
   exact ⟨by first | rfl | (simp [errW_none, errW_some] <;> rfl) | (simp [*, errW_none, errW_some] <;> rfl), by repeat (first | (with_reducible first | exact HB.out | apply below_alloc | apply pw_below_drewN | apply below_drew1 | refine below_set ?_ GE244.out) | exact HB.out)⟩
  ·rw [if_neg c4] at H
   have c4b0 : decide (t245 < 0) = false := decide_eq_false c4
   clear c4
   obtain rfl := Option.some.inj H
   go_enter Try.func28, Try.ntmps28
   go_wp2_with (first | ((with_reducible refine gate_dst (N := 2) rfl ?_); refine box_event ?hg (N := 2) ?hd (cs := #[.int .i64 a0_0, .int .i64 a0_1, .slice A0_2 l0_2.length c0_2]) (t := 36) ?hr ?_; (case hd => rfl); (case hg => rfl); (case hr => first | (go_simp; done) | (go_simp; rfl)); intro gb244 hg w7 hbox hb; have n0_ := Aside0.mk (below_step (by repeat (first | (with_reducible first | exact HB.out | apply below_alloc | apply pw_below_drewN | apply below_drew1) | exact HB.out)) hb); have n1_ := Aside0.mk (hbox); have n2_ := Aside0.mk ((by rw [hg]; exact (below_size (by repeat (first | (with_reducible first | exact HB.out | apply below_alloc | apply pw_below_drewN | apply below_drew1) | exact HB.out))) : w.heap.size ≤ gb244)); have n3_ := Aside0.mk ((by rw [hg]; exact (below_size (by repeat (first | (with_reducible first | exact HB.out | apply below_alloc | apply pw_below_drewN | apply below_drew1) | exact HB.out))) : w.heap.size ≤ gb244)); clear HB; have HB := n0_; have BK244 := n1_; have GW244 := n2_; have GE244 := n3_; clear n0_ n1_ n2_ n3_; clear hb hbox hg; have hcz8_0 : w7.cell? ⟨gb244, 0, none⟩ = some (.int .i64 a0_0) := (blk_cell BK244.out 0).trans rfl; have hcz8_1 : w7.cell? ⟨gb244, 1, none⟩ = some (.int .i64 a0_1) := (blk_cell BK244.out 1).trans rfl; have hcz8_2 : w7.cell? ⟨gb244, 2, none⟩ = some (.slice A0_2 l0_2.length c0_2) := (blk_cell BK244.out 2).trans rfl; have hfz8_0 := blk_frozen BK244.out 0; have hfz8_1 := blk_frozen BK244.out 1; have hfz8_2 := blk_frozen BK244.out 2) | ((with_reducible refine gate_callee (f := 43) rfl ?_); refine goesL_ (some 8) rfl rfl Try.func43 (by kernel_rfl) rfl #[.slice A0_2 l0_2.length c0_2, .int .i64 a1] rfl (by (try simp only [List.map_toArray, List.map_cons, List.map_nil]); first | done | rfl | (simp only [List.length_drop, List.length_take]; rfl)) ?_; (with_reducible refine (laws_heldIntS.calls k _ _ l0_2 a1 t245 _ ?side1 ?side2 A3.out).mono ?_); (case side1 => repeat (first | exact (Kd.C_below HR0_2.out HB.out) | (with_reducible refine Kd.C_alloc ?_ _) | (with_reducible refine Kd.C_drewN ?_ _) | (with_reducible refine Kd.C_drew ?_))); (case side2 => exact HC0_2.out); rintro e w' ⟨rfl, ⟨nd, rfl⟩⟩; refine ⟨_, rfl, ?_⟩))
   go_ret
   exact ⟨by first | rfl | (simp [errW_none, errW_some] <;> rfl) | (simp [*, errW_none, errW_some] <;> rfl), by repeat (first | (with_reducible first | exact HB.out | apply below_alloc | apply pw_below_drewN | apply below_drew1 | refine below_set ?_ GE244.out) | exact HB.out)⟩
/-! ### laws_FnExactUnpackMarks: function 4 -/
def laws_FnExactUnpackMarks.f (k : Nat) (a0 : Int) (a1 : Int) (a2_0 : Int) (l2_1 : List Int) : Option (Bool) := (laws_szBits.f a2_0 l2_1 1048576).bind fun t247 => (if t247 < 0 then (some true) else ((laws_toBits.f k a2_0 l2_1).bind fun bt248 => ((spec_UnpackMarks.f k a0 a1 bt248.1 bt248.2).bind fun bt252 => ((laws_toBits.f k a2_0 l2_1).bind fun bt259 => ((impl_UnpackMarks.f k a0 a1 bt259.1 bt259.2).bind fun bt264 => ((laws_eqPeeled.f k bt264.1 bt264.2.1 bt264.2.2.1 bt252.1 bt252.2.1 bt252.2.2.1).bind fun t271 => (if t271 = true then (if (bt264.2.2.2 != bt252.2.2.2) = true then (none) else ((laws_toBits.f k a2_0 l2_1).bind fun bt272 => ((laws_eqBits.f k bt259.1 bt259.2 bt272.1 bt272.2).bind fun t276 => (if t276 = true then ((laws_markBits.f k bt259.1 bt259.2 1).bind fun bt277 => (if bt277.1 < 0 then (none) else ((laws_eqPeeled.f k bt264.1 bt264.2.1 bt264.2.2.1 bt252.1 bt252.2.1 bt252.2.2.1).bind fun t279 => (if t279 = true then ((laws_markPeeled.f k bt264.1 bt264.2.1 bt264.2.2.1 1).bind fun bt280 => ((laws_heldPeeled.f k bt264.1 bt264.2.1 bt280.2 1).bind fun t282 => (if t282 < 0 then (none) else (if t282 = bt280.1 then ((laws_toBits.f k a2_0 l2_1).bind fun bt283 => ((impl_UnpackMarks.f k a0 a1 bt283.1 bt283.2).bind fun bt287 => ((laws_eqPeeled.f k bt287.1 bt287.2.1 bt287.2.2.1 bt252.1 bt252.2.1 bt252.2.2.1).bind fun t294 => (if t294 = true then (if (bt287.2.2.2 != bt252.2.2.2) = true then (none) else ((laws_heldPeeled.f k bt264.1 bt264.2.1 bt280.2 1).bind fun t295 => (if t295 < 0 then (none) else (if t295 = bt280.1 then (some true) else (none))))) else (none))))) else (none))))) else (none))))) else (none))))) else (none))))))))
theorem laws_FnExactUnpackMarks.mono : ∀ a0 a1 a2 a3 k, LeO (laws_FnExactUnpackMarks.f k a0 a1 a2 a3) (laws_FnExactUnpackMarks.f (k + 1) a0 a1 a2 a3) := by
  intro a0 a1 a2 a3 k
  unfold laws_FnExactUnpackMarks.f
  repeat' first
      | (with_reducible exact impl_UnpackMarks.mono _ _ _ _ _)
      | (with_reducible exact laws_eqBits.mono _ _ _ _ _)
      | (with_reducible exact laws_eqPeeled.mono _ _ _ _ _ _ _)
      | (with_reducible exact laws_heldPeeled.mono _ _ _ _ _)
      | (with_reducible exact laws_markBits.mono _ _ _ _)
      | (with_reducible exact laws_markPeeled.mono _ _ _ _ _)
      | (with_reducible exact laws_toBits.mono _ _ _)
      | (with_reducible exact spec_UnpackMarks.mono _ _ _ _ _)
      | (with_reducible exact LeO.refl _)
      | (with_reducible exact LeO.none _)
      | (with_reducible refine LeO.ite ?_ ?_)
      | (with_reducible refine LeO.bind ?_ (fun _ => ?_))
      | exact impl_UnpackMarks.mono _ _ _ _ _
      | exact laws_eqBits.mono _ _ _ _ _
      | exact laws_eqPeeled.mono _ _ _ _ _ _ _
      | exact laws_heldPeeled.mono _ _ _ _ _
      | exact laws_markBits.mono _ _ _ _
      | exact laws_markPeeled.mono _ _ _ _ _
      | exact laws_toBits.mono _ _ _
      | exact spec_UnpackMarks.mono _ _ _ _ _
      | exact LeO.none _
      | refine LeO.ite ?_ ?_
      | refine LeO.bind ?_ (fun _ => ?_)
noncomputable def laws_FnExactUnpackMarks.F (a0 : Int) (a1 : Int) (a2_0 : Int) (l2_1 : List Int) : Option (Bool) := lim fun k => laws_FnExactUnpackMarks.f k a0 a1 a2_0 l2_1
theorem laws_FnExactUnpackMarks.F_sup (a0 : Int) (a1 : Int) (a2_0 : Int) (l2_1 : List Int) : Sup (fun k => laws_FnExactUnpackMarks.f k a0 a1 a2_0 l2_1) (laws_FnExactUnpackMarks.F a0 a1 a2_0 l2_1) := Sup.of_mono fun k => laws_FnExactUnpackMarks.mono a0 a1 a2_0 l2_1 k
theorem laws_FnExactUnpackMarks.F_eq (a0 : Int) (a1 : Int) (a2_0 : Int) (l2_1 : List Int) : laws_FnExactUnpackMarks.F a0 a1 a2_0 l2_1 = (laws_szBits.f a2_0 l2_1 1048576).bind fun t247 => (if t247 < 0 then (some true) else ((laws_toBits.F a2_0 l2_1).bind fun bt248 => ((spec_UnpackMarks.F a0 a1 bt248.1 bt248.2).bind fun bt252 => ((laws_toBits.F a2_0 l2_1).bind fun bt259 => ((impl_UnpackMarks.F a0 a1 bt259.1 bt259.2).bind fun bt264 => ((laws_eqPeeled.F bt264.1 bt264.2.1 bt264.2.2.1 bt252.1 bt252.2.1 bt252.2.2.1).bind fun t271 => (if t271 = true then (if (bt264.2.2.2 != bt252.2.2.2) = true then (none) else ((laws_toBits.F a2_0 l2_1).bind fun bt272 => ((laws_eqBits.F bt259.1 bt259.2 bt272.1 bt272.2).bind fun t276 => (if t276 = true then ((laws_markBits.F bt259.1 bt259.2 1).bind fun bt277 => (if bt277.1 < 0 then (none) else ((laws_eqPeeled.F bt264.1 bt264.2.1 bt264.2.2.1 bt252.1 bt252.2.1 bt252.2.2.1).bind fun t279 => (if t279 = true then ((laws_markPeeled.F bt264.1 bt264.2.1 bt264.2.2.1 1).bind fun bt280 => ((laws_heldPeeled.F bt264.1 bt264.2.1 bt280.2 1).bind fun t282 => (if t282 < 0 then (none) else (if t282 = bt280.1 then ((laws_toBits.F a2_0 l2_1).bind fun bt283 => ((impl_UnpackMarks.F a0 a1 bt283.1 bt283.2).bind fun bt287 => ((laws_eqPeeled.F bt287.1 bt287.2.1 bt287.2.2.1 bt252.1 bt252.2.1 bt252.2.2.1).bind fun t294 => (if t294 = true then (if (bt287.2.2.2 != bt252.2.2.2) = true then (none) else ((laws_heldPeeled.F bt264.1 bt264.2.1 bt280.2 1).bind fun t295 => (if t295 < 0 then (none) else (if t295 = bt280.1 then (some true) else (none))))) else (none))))) else (none))))) else (none))))) else (none))))) else (none)))))))) := by
  refine Sup.unique (laws_FnExactUnpackMarks.F_sup a0 a1 a2_0 l2_1) (Sup.congr (g' := fun k => (laws_szBits.f a2_0 l2_1 1048576).bind fun t247 => (if t247 < 0 then (some true) else ((laws_toBits.f k a2_0 l2_1).bind fun bt248 => ((spec_UnpackMarks.f k a0 a1 bt248.1 bt248.2).bind fun bt252 => ((laws_toBits.f k a2_0 l2_1).bind fun bt259 => ((impl_UnpackMarks.f k a0 a1 bt259.1 bt259.2).bind fun bt264 => ((laws_eqPeeled.f k bt264.1 bt264.2.1 bt264.2.2.1 bt252.1 bt252.2.1 bt252.2.2.1).bind fun t271 => (if t271 = true then (if (bt264.2.2.2 != bt252.2.2.2) = true then (none) else ((laws_toBits.f k a2_0 l2_1).bind fun bt272 => ((laws_eqBits.f k bt259.1 bt259.2 bt272.1 bt272.2).bind fun t276 => (if t276 = true then ((laws_markBits.f k bt259.1 bt259.2 1).bind fun bt277 => (if bt277.1 < 0 then (none) else ((laws_eqPeeled.f k bt264.1 bt264.2.1 bt264.2.2.1 bt252.1 bt252.2.1 bt252.2.2.1).bind fun t279 => (if t279 = true then ((laws_markPeeled.f k bt264.1 bt264.2.1 bt264.2.2.1 1).bind fun bt280 => ((laws_heldPeeled.f k bt264.1 bt264.2.1 bt280.2 1).bind fun t282 => (if t282 < 0 then (none) else (if t282 = bt280.1 then ((laws_toBits.f k a2_0 l2_1).bind fun bt283 => ((impl_UnpackMarks.f k a0 a1 bt283.1 bt283.2).bind fun bt287 => ((laws_eqPeeled.f k bt287.1 bt287.2.1 bt287.2.2.1 bt252.1 bt252.2.1 bt252.2.2.1).bind fun t294 => (if t294 = true then (if (bt287.2.2.2 != bt252.2.2.2) = true then (none) else ((laws_heldPeeled.f k bt264.1 bt264.2.1 bt280.2 1).bind fun t295 => (if t295 < 0 then (none) else (if t295 = bt280.1 then (some true) else (none))))) else (none))))) else (none))))) else (none))))) else (none))))) else (none))))))))) (fun k => by first | rfl | simp only [laws_FnExactUnpackMarks.f]) ?_)
  repeat' first
    | (with_reducible exact spec_UnpackMarks.F_sup _ _ _ _)
    | (with_reducible exact laws_toBits.F_sup _ _)
    | (with_reducible exact impl_UnpackMarks.F_sup _ _ _ _)
    | (with_reducible exact laws_eqPeeled.F_sup _ _ _ _ _ _)
    | (with_reducible exact laws_eqBits.F_sup _ _ _ _)
    | (with_reducible exact laws_markBits.F_sup _ _ _)
    | (with_reducible exact laws_markPeeled.F_sup _ _ _ _)
    | (with_reducible exact laws_heldPeeled.F_sup _ _ _ _)
    | (with_reducible refine Sup.ite ?_ ?_)
    | (with_reducible refine Sup.bind ?_ (fun _ => ?_))
    | (with_reducible exact Sup.const _)
    | exact spec_UnpackMarks.F_sup _ _ _ _
    | exact laws_toBits.F_sup _ _
    | exact impl_UnpackMarks.F_sup _ _ _ _
    | exact laws_eqPeeled.F_sup _ _ _ _ _ _
    | exact laws_eqBits.F_sup _ _ _ _
    | exact laws_markBits.F_sup _ _ _
    | exact laws_markPeeled.F_sup _ _ _ _
    | exact laws_heldPeeled.F_sup _ _ _ _
    | exact Sup.const _
set_option maxHeartbeats 8000000 in
set_option maxRecDepth 100000 in
theorem laws_FnExactUnpackMarks.calls (k : Nat) (a0 : Int) (a1 : Int) (a2_0 : Int) (A2_1 : Option Addr) (c2_1 : Nat) (l2_1 : List Int) (r : Bool) (w : World) (hr2_1 : Kd.C (Kd.int .i64) w A2_1 l2_1.length l2_1) (hc2_1 : l2_1.length ≤ c2_1) (h : laws_FnExactUnpackMarks.f k a0 a1 a2_0 l2_1 = some r) :
    Calls Try.prog 4 #[.int .i64 a0, .int .i64 a1, .agg #[.int .i64 a2_0, .slice A2_1 l2_1.length c2_1]] w fun e w' => e = .returned (.bool r) ∧ Below w.heap.size w w' := by
  have hu33 := Try.underlying33
  have hu36 := Try.underlying36
  have hu39 := Try.underlying39
  have HR2_1 := Aside0.mk hr2_1
  have HC2_1 := Aside0.mk hc2_1
  clear hr2_1 hc2_1
  have HB := Aside0.mk (Below.refl w.heap.size w)
  have H : ((laws_szBits.f a2_0 l2_1 1048576).bind fun t247 => (if t247 < 0 then (some true) else ((laws_toBits.f k a2_0 l2_1).bind fun bt248 => ((spec_UnpackMarks.f k a0 a1 bt248.1 bt248.2).bind fun bt252 => ((laws_toBits.f k a2_0 l2_1).bind fun bt259 => ((impl_UnpackMarks.f k a0 a1 bt259.1 bt259.2).bind fun bt264 => ((laws_eqPeeled.f k bt264.1 bt264.2.1 bt264.2.2.1 bt252.1 bt252.2.1 bt252.2.2.1).bind fun t271 => (if t271 = true then (if (bt264.2.2.2 != bt252.2.2.2) = true then (none) else ((laws_toBits.f k a2_0 l2_1).bind fun bt272 => ((laws_eqBits.f k bt259.1 bt259.2 bt272.1 bt272.2).bind fun t276 => (if t276 = true then ((laws_markBits.f k bt259.1 bt259.2 1).bind fun bt277 => (if bt277.1 < 0 then (none) else ((laws_eqPeeled.f k bt264.1 bt264.2.1 bt264.2.2.1 bt252.1 bt252.2.1 bt252.2.2.1).bind fun t279 => (if t279 = true then ((laws_markPeeled.f k bt264.1 bt264.2.1 bt264.2.2.1 1).bind fun bt280 => ((laws_heldPeeled.f k bt264.1 bt264.2.1 bt280.2 1).bind fun t282 => (if t282 < 0 then (none) else (if t282 = bt280.1 then ((laws_toBits.f k a2_0 l2_1).bind fun bt283 => ((impl_UnpackMarks.f k a0 a1 bt283.1 bt283.2).bind fun bt287 => ((laws_eqPeeled.f k bt287.1 bt287.2.1 bt287.2.2.1 bt252.1 bt252.2.1 bt252.2.2.1).bind fun t294 => (if t294 = true then (if (bt287.2.2.2 != bt252.2.2.2) = true then (none) else ((laws_heldPeeled.f k bt264.1 bt264.2.1 bt280.2 1).bind fun t295 => (if t295 < 0 then (none) else (if t295 = bt280.1 then (some true) else (none))))) else (none))))) else (none))))) else (none))))) else (none))))) else (none))))))))) = some r := h
  clear h
  replace H := Option.bind_eq_some_iff.mp H
  obtain ⟨t247, A40, H⟩ := H
  replace H : (if t247 < 0 then (some true) else ((laws_toBits.f k a2_0 l2_1).bind fun bt248 => ((spec_UnpackMarks.f k a0 a1 bt248.1 bt248.2).bind fun bt252 => ((laws_toBits.f k a2_0 l2_1).bind fun bt259 => ((impl_UnpackMarks.f k a0 a1 bt259.1 bt259.2).bind fun bt264 => ((laws_eqPeeled.f k bt264.1 bt264.2.1 bt264.2.2.1 bt252.1 bt252.2.1 bt252.2.2.1).bind fun t271 => (if t271 = true then (if (bt264.2.2.2 != bt252.2.2.2) = true then (none) else ((laws_toBits.f k a2_0 l2_1).bind fun bt272 => ((laws_eqBits.f k bt259.1 bt259.2 bt272.1 bt272.2).bind fun t276 => (if t276 = true then ((laws_markBits.f k bt259.1 bt259.2 1).bind fun bt277 => (if bt277.1 < 0 then (none) else ((laws_eqPeeled.f k bt264.1 bt264.2.1 bt264.2.2.1 bt252.1 bt252.2.1 bt252.2.2.1).bind fun t279 => (if t279 = true then ((laws_markPeeled.f k bt264.1 bt264.2.1 bt264.2.2.1 1).bind fun bt280 => ((laws_heldPeeled.f k bt264.1 bt264.2.1 bt280.2 1).bind fun t282 => (if t282 < 0 then (none) else (if t282 = bt280.1 then ((laws_toBits.f k a2_0 l2_1).bind fun bt283 => ((impl_UnpackMarks.f k a0 a1 bt283.1 bt283.2).bind fun bt287 => ((laws_eqPeeled.f k bt287.1 bt287.2.1 bt287.2.2.1 bt252.1 bt252.2.1 bt252.2.2.1).bind fun t294 => (if t294 = true then (if (bt287.2.2.2 != bt252.2.2.2) = true then (none) else ((laws_heldPeeled.f k bt264.1 bt264.2.1 bt280.2 1).bind fun t295 => (if t295 < 0 then (none) else (if t295 = bt280.1 then (some true) else (none))))) else (none))))) else (none))))) else (none))))) else (none))))) else (none)))))))) = some r := H
  have A4 := Aside0.mk A40
  clear A40
  by_cases c5 : t247 < 0
  ·rw [if_pos c5] at H
   have c5b0 : decide (t247 < 0) = true := decide_eq_true c5
   clear c5
   obtain rfl := Option.some.inj H
   go_enter Try.func4, Try.ntmps4
   go_wp2_with (first | ((with_reducible refine gate_dst (N := 5) rfl ?_); refine box_event ?hg (N := 5) ?hd (cs := #[.int .i64 a2_0, .slice A2_1 l2_1.length c2_1]) (t := 33) ?hr ?_; (case hd => rfl); (case hg => rfl); (case hr => first | (go_simp; done) | (go_simp; rfl)); intro gb246 hg w6 hbox hb; have n0_ := Aside0.mk (below_step (by repeat (first | (with_reducible first | exact HB.out | apply below_alloc | apply pw_below_drewN | apply below_drew1) | exact HB.out)) hb); have n1_ := Aside0.mk (hbox); have n2_ := Aside0.mk ((by rw [hg]; exact (below_size (by repeat (first | (with_reducible first | exact HB.out | apply below_alloc | apply pw_below_drewN | apply below_drew1) | exact HB.out))) : w.heap.size ≤ gb246)); have n3_ := Aside0.mk ((by rw [hg]; exact (below_size (by repeat (first | (with_reducible first | exact HB.out | apply below_alloc | apply pw_below_drewN | apply below_drew1) | exact HB.out))) : w.heap.size ≤ gb246)); clear HB; have HB := n0_; have BK246 := n1_; have GW246 := n2_; have GE246 := n3_; clear n0_ n1_ n2_ n3_; clear hb hbox hg; have hcz7_0 : w6.cell? ⟨gb246, 0, none⟩ = some (.int .i64 a2_0) := (blk_cell BK246.out 0).trans rfl; have hcz7_1 : w6.cell? ⟨gb246, 1, none⟩ = some (.slice A2_1 l2_1.length c2_1) := (blk_cell BK246.out 1).trans rfl; have hfz7_0 := blk_frozen BK246.out 0; have hfz7_1 := blk_frozen BK246.out 1) | ((with_reducible refine gate_callee (f := 20) rfl ?_); refine goesL_ (some 20) rfl rfl Try.func20 (by kernel_rfl) rfl #[.agg #[.int .i64 a2_0, .slice A2_1 l2_1.length c2_1], .int .i64 1048576] rfl (by (try simp only [List.map_toArray, List.map_cons, List.map_nil]); first | done | rfl | (simp only [List.length_drop, List.length_take]; rfl)) ?_; (with_reducible refine (laws_szBits.calls a2_0 _ _ l2_1 1048576 t247 _ ?side1 ?side2 A4.out).mono ?_); (case side1 => repeat (first | exact (Kd.C_below HR2_1.out HB.out) | (with_reducible refine Kd.C_alloc ?_ _) | (with_reducible refine Kd.C_drewN ?_ _) | (with_reducible refine Kd.C_drew ?_))); (case side2 => exact HC2_1.out); rintro e w8 ⟨rfl, hb⟩; refine ⟨_, rfl, ?_⟩; have n0_ := Aside0.mk (blk_below (g := gb246) (o := .cells #[.int .i64 a2_0, .slice A2_1 l2_1.length c2_1] 33 (0, 0)) (by (with_reducible repeat (first | refine blk_drewN ?_ _ | refine blk_drew ?_ | refine blk_alloc ?_ _)); exact BK246.out) hb); have n1_ := Aside0.mk (below_step (by repeat (first | (with_reducible first | exact HB.out | apply below_alloc | apply pw_below_drewN | apply below_drew1 | refine below_set ?_ GE246.out) | exact HB.out)) hb); clear BK246; clear HB; have BK246 := n0_; have HB := n1_; clear n0_ n1_; (try clear hb); (try clear hb2); (try clear hk); (try clear hi)))
   go_ret
   exact ⟨by first | rfl | (simp [errW_none, errW_some] <;> rfl) | (simp [*, errW_none, errW_some] <;> rfl), by repeat (first | (with_reducible first | exact HB.out | apply below_alloc | apply pw_below_drewN | apply below_drew1 | refine below_set ?_ GE246.out) | exact HB.out)⟩
  ·rw [if_neg c5] at H
   have c5b0 : decide (t247 < 0) = false := decide_eq_false c5
   clear c5
   replace H := Option.bind_eq_some_iff.mp H
   obtain ⟨⟨t248, t249⟩, A90, H⟩ := H
   replace H : ((spec_UnpackMarks.f k a0 a1 t248 t249).bind fun bt252 => ((laws_toBits.f k a2_0 l2_1).bind fun bt259 => ((impl_UnpackMarks.f k a0 a1 bt259.1 bt259.2).bind fun bt264 => ((laws_eqPeeled.f k bt264.1 bt264.2.1 bt264.2.2.1 bt252.1 bt252.2.1 bt252.2.2.1).bind fun t271 => (if t271 = true then (if (bt264.2.2.2 != bt252.2.2.2) = true then (none) else ((laws_toBits.f k a2_0 l2_1).bind fun bt272 => ((laws_eqBits.f k bt259.1 bt259.2 bt272.1 bt272.2).bind fun t276 => (if t276 = true then ((laws_markBits.f k bt259.1 bt259.2 1).bind fun bt277 => (if bt277.1 < 0 then (none) else ((laws_eqPeeled.f k bt264.1 bt264.2.1 bt264.2.2.1 bt252.1 bt252.2.1 bt252.2.2.1).bind fun t279 => (if t279 = true then ((laws_markPeeled.f k bt264.1 bt264.2.1 bt264.2.2.1 1).bind fun bt280 => ((laws_heldPeeled.f k bt264.1 bt264.2.1 bt280.2 1).bind fun t282 => (if t282 < 0 then (none) else (if t282 = bt280.1 then ((laws_toBits.f k a2_0 l2_1).bind fun bt283 => ((impl_UnpackMarks.f k a0 a1 bt283.1 bt283.2).bind fun bt287 => ((laws_eqPeeled.f k bt287.1 bt287.2.1 bt287.2.2.1 bt252.1 bt252.2.1 bt252.2.2.1).bind fun t294 => (if t294 = true then (if (bt287.2.2.2 != bt252.2.2.2) = true then (none) else ((laws_heldPeeled.f k bt264.1 bt264.2.1 bt280.2 1).bind fun t295 => (if t295 < 0 then (none) else (if t295 = bt280.1 then (some true) else (none))))) else (none))))) else (none))))) else (none))))) else (none))))) else (none)))))) = some r := H
   have A9 := Aside0.mk A90
   clear A90
   replace H := Option.bind_eq_some_iff.mp H
   obtain ⟨⟨t252, t253, t254, t257⟩, A100, H⟩ := H
   replace H : ((laws_toBits.f k a2_0 l2_1).bind fun bt259 => ((impl_UnpackMarks.f k a0 a1 bt259.1 bt259.2).bind fun bt264 => ((laws_eqPeeled.f k bt264.1 bt264.2.1 bt264.2.2.1 t252 t253 t254).bind fun t271 => (if t271 = true then (if (bt264.2.2.2 != t257) = true then (none) else ((laws_toBits.f k a2_0 l2_1).bind fun bt272 => ((laws_eqBits.f k bt259.1 bt259.2 bt272.1 bt272.2).bind fun t276 => (if t276 = true then ((laws_markBits.f k bt259.1 bt259.2 1).bind fun bt277 => (if bt277.1 < 0 then (none) else ((laws_eqPeeled.f k bt264.1 bt264.2.1 bt264.2.2.1 t252 t253 t254).bind fun t279 => (if t279 = true then ((laws_markPeeled.f k bt264.1 bt264.2.1 bt264.2.2.1 1).bind fun bt280 => ((laws_heldPeeled.f k bt264.1 bt264.2.1 bt280.2 1).bind fun t282 => (if t282 < 0 then (none) else (if t282 = bt280.1 then ((laws_toBits.f k a2_0 l2_1).bind fun bt283 => ((impl_UnpackMarks.f k a0 a1 bt283.1 bt283.2).bind fun bt287 => ((laws_eqPeeled.f k bt287.1 bt287.2.1 bt287.2.2.1 t252 t253 t254).bind fun t294 => (if t294 = true then (if (bt287.2.2.2 != t257) = true then (none) else ((laws_heldPeeled.f k bt264.1 bt264.2.1 bt280.2 1).bind fun t295 => (if t295 < 0 then (none) else (if t295 = bt280.1 then (some true) else (none))))) else (none))))) else (none))))) else (none))))) else (none))))) else (none))))) = some r := H
   have A10 := Aside0.mk A100
   clear A100
   replace H := Option.bind_eq_some_iff.mp H
   obtain ⟨⟨t259, t260⟩, A110, H⟩ := H
   replace H : ((impl_UnpackMarks.f k a0 a1 t259 t260).bind fun bt264 => ((laws_eqPeeled.f k bt264.1 bt264.2.1 bt264.2.2.1 t252 t253 t254).bind fun t271 => (if t271 = true then (if (bt264.2.2.2 != t257) = true then (none) else ((laws_toBits.f k a2_0 l2_1).bind fun bt272 => ((laws_eqBits.f k t259 t260 bt272.1 bt272.2).bind fun t276 => (if t276 = true then ((laws_markBits.f k t259 t260 1).bind fun bt277 => (if bt277.1 < 0 then (none) else ((laws_eqPeeled.f k bt264.1 bt264.2.1 bt264.2.2.1 t252 t253 t254).bind fun t279 => (if t279 = true then ((laws_markPeeled.f k bt264.1 bt264.2.1 bt264.2.2.1 1).bind fun bt280 => ((laws_heldPeeled.f k bt264.1 bt264.2.1 bt280.2 1).bind fun t282 => (if t282 < 0 then (none) else (if t282 = bt280.1 then ((laws_toBits.f k a2_0 l2_1).bind fun bt283 => ((impl_UnpackMarks.f k a0 a1 bt283.1 bt283.2).bind fun bt287 => ((laws_eqPeeled.f k bt287.1 bt287.2.1 bt287.2.2.1 t252 t253 t254).bind fun t294 => (if t294 = true then (if (bt287.2.2.2 != t257) = true then (none) else ((laws_heldPeeled.f k bt264.1 bt264.2.1 bt280.2 1).bind fun t295 => (if t295 < 0 then (none) else (if t295 = bt280.1 then (some true) else (none))))) else (none))))) else (none))))) else (none))))) else (none))))) else (none)))) = some r := H
   have A11 := Aside0.mk A110
   clear A110
   replace H := Option.bind_eq_some_iff.mp H
   obtain ⟨⟨t264, t265, t266, t269⟩, A120, H⟩ := H
   replace H : ((laws_eqPeeled.f k t264 t265 t266 t252 t253 t254).bind fun t271 => (if t271 = true then (if (t269 != t257) = true then (none) else ((laws_toBits.f k a2_0 l2_1).bind fun bt272 => ((laws_eqBits.f k t259 t260 bt272.1 bt272.2).bind fun t276 => (if t276 = true then ((laws_markBits.f k t259 t260 1).bind fun bt277 => (if bt277.1 < 0 then (none) else ((laws_eqPeeled.f k t264 t265 t266 t252 t253 t254).bind fun t279 => (if t279 = true then ((laws_markPeeled.f k t264 t265 t266 1).bind fun bt280 => ((laws_heldPeeled.f k t264 t265 bt280.2 1).bind fun t282 => (if t282 < 0 then (none) else (if t282 = bt280.1 then ((laws_toBits.f k a2_0 l2_1).bind fun bt283 => ((impl_UnpackMarks.f k a0 a1 bt283.1 bt283.2).bind fun bt287 => ((laws_eqPeeled.f k bt287.1 bt287.2.1 bt287.2.2.1 t252 t253 t254).bind fun t294 => (if t294 = true then (if (bt287.2.2.2 != t257) = true then (none) else ((laws_heldPeeled.f k t264 t265 bt280.2 1).bind fun t295 => (if t295 < 0 then (none) else (if t295 = bt280.1 then (some true) else (none))))) else (none))))) else (none))))) else (none))))) else (none))))) else (none))) = some r := H
   have A12 := Aside0.mk A120
   clear A120
   replace H := Option.bind_eq_some_iff.mp H
   obtain ⟨t271, A130, H⟩ := H
   replace H : (if t271 = true then (if (t269 != t257) = true then (none) else ((laws_toBits.f k a2_0 l2_1).bind fun bt272 => ((laws_eqBits.f k t259 t260 bt272.1 bt272.2).bind fun t276 => (if t276 = true then ((laws_markBits.f k t259 t260 1).bind fun bt277 => (if bt277.1 < 0 then (none) else ((laws_eqPeeled.f k t264 t265 t266 t252 t253 t254).bind fun t279 => (if t279 = true then ((laws_markPeeled.f k t264 t265 t266 1).bind fun bt280 => ((laws_heldPeeled.f k t264 t265 bt280.2 1).bind fun t282 => (if t282 < 0 then (none) else (if t282 = bt280.1 then ((laws_toBits.f k a2_0 l2_1).bind fun bt283 => ((impl_UnpackMarks.f k a0 a1 bt283.1 bt283.2).bind fun bt287 => ((laws_eqPeeled.f k bt287.1 bt287.2.1 bt287.2.2.1 t252 t253 t254).bind fun t294 => (if t294 = true then (if (bt287.2.2.2 != t257) = true then (none) else ((laws_heldPeeled.f k t264 t265 bt280.2 1).bind fun t295 => (if t295 < 0 then (none) else (if t295 = bt280.1 then (some true) else (none))))) else (none))))) else (none))))) else (none))))) else (none))))) else (none)) = some r := H
   have A13 := Aside0.mk A130
   clear A130
   by_cases c14 : t271 = true
   ·subst c14
    have H1 : (if (t269 != t257) = true then (none) else ((laws_toBits.f k a2_0 l2_1).bind fun bt272 => ((laws_eqBits.f k t259 t260 bt272.1 bt272.2).bind fun t276 => (if t276 = true then ((laws_markBits.f k t259 t260 1).bind fun bt277 => (if bt277.1 < 0 then (none) else ((laws_eqPeeled.f k t264 t265 t266 t252 t253 t254).bind fun t279 => (if t279 = true then ((laws_markPeeled.f k t264 t265 t266 1).bind fun bt280 => ((laws_heldPeeled.f k t264 t265 bt280.2 1).bind fun t282 => (if t282 < 0 then (none) else (if t282 = bt280.1 then ((laws_toBits.f k a2_0 l2_1).bind fun bt283 => ((impl_UnpackMarks.f k a0 a1 bt283.1 bt283.2).bind fun bt287 => ((laws_eqPeeled.f k bt287.1 bt287.2.1 bt287.2.2.1 t252 t253 t254).bind fun t294 => (if t294 = true then (if (bt287.2.2.2 != t257) = true then (none) else ((laws_heldPeeled.f k t264 t265 bt280.2 1).bind fun t295 => (if t295 < 0 then (none) else (if t295 = bt280.1 then (some true) else (none))))) else (none))))) else (none))))) else (none))))) else (none))))) = some r := by rw [if_pos rfl] at H; exact H
    clear H
    have H := H1
    clear H1
    by_cases c15 : (t269 != t257) = true
    ·rw [if_pos c15] at H
     exact absurd H (by simp)
    ·rw [if_neg c15] at H
     have c15b0 : (t269 != t257) = false := by simpa using c15
     (try (have c15b1 : decide (t269 = t257) = true := by simpa using c15))
     (try (have c15b2 : (t269 == t257) = true := by simpa using c15))
     clear c15
     replace H := Option.bind_eq_some_iff.mp H
     obtain ⟨⟨t272, t273⟩, A160, H⟩ := H
     replace H : ((laws_eqBits.f k t259 t260 t272 t273).bind fun t276 => (if t276 = true then ((laws_markBits.f k t259 t260 1).bind fun bt277 => (if bt277.1 < 0 then (none) else ((laws_eqPeeled.f k t264 t265 t266 t252 t253 t254).bind fun t279 => (if t279 = true then ((laws_markPeeled.f k t264 t265 t266 1).bind fun bt280 => ((laws_heldPeeled.f k t264 t265 bt280.2 1).bind fun t282 => (if t282 < 0 then (none) else (if t282 = bt280.1 then ((laws_toBits.f k a2_0 l2_1).bind fun bt283 => ((impl_UnpackMarks.f k a0 a1 bt283.1 bt283.2).bind fun bt287 => ((laws_eqPeeled.f k bt287.1 bt287.2.1 bt287.2.2.1 t252 t253 t254).bind fun t294 => (if t294 = true then (if (bt287.2.2.2 != t257) = true then (none) else ((laws_heldPeeled.f k t264 t265 bt280.2 1).bind fun t295 => (if t295 < 0 then (none) else (if t295 = bt280.1 then (some true) else (none))))) else (none))))) else (none))))) else (none))))) else (none))) = some r := H
     have A16 := Aside0.mk A160
     clear A160
     replace H := Option.bind_eq_some_iff.mp H
     obtain ⟨t276, A170, H⟩ := H
     replace H : (if t276 = true then ((laws_markBits.f k t259 t260 1).bind fun bt277 => (if bt277.1 < 0 then (none) else ((laws_eqPeeled.f k t264 t265 t266 t252 t253 t254).bind fun t279 => (if t279 = true then ((laws_markPeeled.f k t264 t265 t266 1).bind fun bt280 => ((laws_heldPeeled.f k t264 t265 bt280.2 1).bind fun t282 => (if t282 < 0 then (none) else (if t282 = bt280.1 then ((laws_toBits.f k a2_0 l2_1).bind fun bt283 => ((impl_UnpackMarks.f k a0 a1 bt283.1 bt283.2).bind fun bt287 => ((laws_eqPeeled.f k bt287.1 bt287.2.1 bt287.2.2.1 t252 t253 t254).bind fun t294 => (if t294 = true then (if (bt287.2.2.2 != t257) = true then (none) else ((laws_heldPeeled.f k t264 t265 bt280.2 1).bind fun t295 => (if t295 < 0 then (none) else (if t295 = bt280.1 then (some true) else (none))))) else (none))))) else (none))))) else (none))))) else (none)) = some r := H
     have A17 := Aside0.mk A170
     clear A170
     by_cases c18 : t276 = true
     ·subst c18
      have H1 : ((laws_markBits.f k t259 t260 1).bind fun bt277 => (if bt277.1 < 0 then (none) else ((laws_eqPeeled.f k t264 t265 t266 t252 t253 t254).bind fun t279 => (if t279 = true then ((laws_markPeeled.f k t264 t265 t266 1).bind fun bt280 => ((laws_heldPeeled.f k t264 t265 bt280.2 1).bind fun t282 => (if t282 < 0 then (none) else (if t282 = bt280.1 then ((laws_toBits.f k a2_0 l2_1).bind fun bt283 => ((impl_UnpackMarks.f k a0 a1 bt283.1 bt283.2).bind fun bt287 => ((laws_eqPeeled.f k bt287.1 bt287.2.1 bt287.2.2.1 t252 t253 t254).bind fun t294 => (if t294 = true then (if (bt287.2.2.2 != t257) = true then (none) else ((laws_heldPeeled.f k t264 t265 bt280.2 1).bind fun t295 => (if t295 < 0 then (none) else (if t295 = bt280.1 then (some true) else (none))))) else (none))))) else (none))))) else (none))))) = some r := by rw [if_pos rfl] at H; exact H
      clear H
      have H := H1
      clear H1
      replace H := Option.bind_eq_some_iff.mp H
      obtain ⟨⟨t277, t278⟩, A190, H⟩ := H
      replace H : (if t277 < 0 then (none) else ((laws_eqPeeled.f k t264 t265 t266 t252 t253 t254).bind fun t279 => (if t279 = true then ((laws_markPeeled.f k t264 t265 t266 1).bind fun bt280 => ((laws_heldPeeled.f k t264 t265 bt280.2 1).bind fun t282 => (if t282 < 0 then (none) else (if t282 = bt280.1 then ((laws_toBits.f k a2_0 l2_1).bind fun bt283 => ((impl_UnpackMarks.f k a0 a1 bt283.1 bt283.2).bind fun bt287 => ((laws_eqPeeled.f k bt287.1 bt287.2.1 bt287.2.2.1 t252 t253 t254).bind fun t294 => (if t294 = true then (if (bt287.2.2.2 != t257) = true then (none) else ((laws_heldPeeled.f k t264 t265 bt280.2 1).bind fun t295 => (if t295 < 0 then (none) else (if t295 = bt280.1 then (some true) else (none))))) else (none))))) else (none))))) else (none)))) = some r := H
      have A19 := Aside0.mk A190
      clear A190
      by_cases c20 : t277 < 0
      ·rw [if_pos c20] at H
       exact absurd H (by simp)
      ·rw [if_neg c20] at H
       have c20b0 : decide (t277 < 0) = false := decide_eq_false c20
       clear c20
       replace H := Option.bind_eq_some_iff.mp H
       obtain ⟨t279, A210, H⟩ := H
       replace H : (if t279 = true then ((laws_markPeeled.f k t264 t265 t266 1).bind fun bt280 => ((laws_heldPeeled.f k t264 t265 bt280.2 1).bind fun t282 => (if t282 < 0 then (none) else (if t282 = bt280.1 then ((laws_toBits.f k a2_0 l2_1).bind fun bt283 => ((impl_UnpackMarks.f k a0 a1 bt283.1 bt283.2).bind fun bt287 => ((laws_eqPeeled.f k bt287.1 bt287.2.1 bt287.2.2.1 t252 t253 t254).bind fun t294 => (if t294 = true then (if (bt287.2.2.2 != t257) = true then (none) else ((laws_heldPeeled.f k t264 t265 bt280.2 1).bind fun t295 => (if t295 < 0 then (none) else (if t295 = bt280.1 then (some true) else (none))))) else (none))))) else (none))))) else (none)) = some r := H
       have A21 := Aside0.mk A210
       clear A210
       by_cases c22 : t279 = true
       ·subst c22
        have H1 : ((laws_markPeeled.f k t264 t265 t266 1).bind fun bt280 => ((laws_heldPeeled.f k t264 t265 bt280.2 1).bind fun t282 => (if t282 < 0 then (none) else (if t282 = bt280.1 then ((laws_toBits.f k a2_0 l2_1).bind fun bt283 => ((impl_UnpackMarks.f k a0 a1 bt283.1 bt283.2).bind fun bt287 => ((laws_eqPeeled.f k bt287.1 bt287.2.1 bt287.2.2.1 t252 t253 t254).bind fun t294 => (if t294 = true then (if (bt287.2.2.2 != t257) = true then (none) else ((laws_heldPeeled.f k t264 t265 bt280.2 1).bind fun t295 => (if t295 < 0 then (none) else (if t295 = bt280.1 then (some true) else (none))))) else (none))))) else (none))))) = some r := by rw [if_pos rfl] at H; exact H
        clear H
        have H := H1
        clear H1
        replace H := Option.bind_eq_some_iff.mp H
        obtain ⟨⟨t280, t281⟩, A230, H⟩ := H
        replace H : ((laws_heldPeeled.f k t264 t265 t281 1).bind fun t282 => (if t282 < 0 then (none) else (if t282 = t280 then ((laws_toBits.f k a2_0 l2_1).bind fun bt283 => ((impl_UnpackMarks.f k a0 a1 bt283.1 bt283.2).bind fun bt287 => ((laws_eqPeeled.f k bt287.1 bt287.2.1 bt287.2.2.1 t252 t253 t254).bind fun t294 => (if t294 = true then (if (bt287.2.2.2 != t257) = true then (none) else ((laws_heldPeeled.f k t264 t265 t281 1).bind fun t295 => (if t295 < 0 then (none) else (if t295 = t280 then (some true) else (none))))) else (none))))) else (none)))) = some r := H
        have A23 := Aside0.mk A230
        clear A230
        replace H := Option.bind_eq_some_iff.mp H
        obtain ⟨t282, A240, H⟩ := H
        replace H : (if t282 < 0 then (none) else (if t282 = t280 then ((laws_toBits.f k a2_0 l2_1).bind fun bt283 => ((impl_UnpackMarks.f k a0 a1 bt283.1 bt283.2).bind fun bt287 => ((laws_eqPeeled.f k bt287.1 bt287.2.1 bt287.2.2.1 t252 t253 t254).bind fun t294 => (if t294 = true then (if (bt287.2.2.2 != t257) = true then (none) else ((laws_heldPeeled.f k t264 t265 t281 1).bind fun t295 => (if t295 < 0 then (none) else (if t295 = t280 then (some true) else (none))))) else (none))))) else (none))) = some r := H
        have A24 := Aside0.mk A240
        clear A240
        by_cases c25 : t282 < 0
        ·rw [if_pos c25] at H
         exact absurd H (by simp)
        ·rw [if_neg c25] at H
         have c25b0 : decide (t282 < 0) = false := decide_eq_false c25
         clear c25
         by_cases c26 : t282 = t280
         ·rw [if_pos c26] at H
          have c26b0 : (t282 == t280) = true := beq_iff_eq.mpr c26
          have c26b1 : (t282 != t280) = false := bne_eq_false_iff_eq.mpr c26
          clear c26
          replace H := Option.bind_eq_some_iff.mp H
          obtain ⟨⟨t283, t284⟩, A270, H⟩ := H
          replace H : ((impl_UnpackMarks.f k a0 a1 t283 t284).bind fun bt287 => ((laws_eqPeeled.f k bt287.1 bt287.2.1 bt287.2.2.1 t252 t253 t254).bind fun t294 => (if t294 = true then (if (bt287.2.2.2 != t257) = true then (none) else ((laws_heldPeeled.f k t264 t265 t281 1).bind fun t295 => (if t295 < 0 then (none) else (if t295 = t280 then (some true) else (none))))) else (none)))) = some r := H
          have A27 := Aside0.mk A270
          clear A270
          replace H := Option.bind_eq_some_iff.mp H
          obtain ⟨⟨t287, t288, t289, t292⟩, A280, H⟩ := H
          replace H : ((laws_eqPeeled.f k t287 t288 t289 t252 t253 t254).bind fun t294 => (if t294 = true then (if (t292 != t257) = true then (none) else ((laws_heldPeeled.f k t264 t265 t281 1).bind fun t295 => (if t295 < 0 then (none) else (if t295 = t280 then (some true) else (none))))) else (none))) = some r := H
          have A28 := Aside0.mk A280
          clear A280
          replace H := Option.bind_eq_some_iff.mp H
          obtain ⟨t294, A290, H⟩ := H
          replace H : (if t294 = true then (if (t292 != t257) = true then (none) else ((laws_heldPeeled.f k t264 t265 t281 1).bind fun t295 => (if t295 < 0 then (none) else (if t295 = t280 then (some true) else (none))))) else (none)) = some r := H
          have A29 := Aside0.mk A290
          clear A290
          by_cases c30 : t294 = true
          ·subst c30
           have H1 : (if (t292 != t257) = true then (none) else ((laws_heldPeeled.f k t264 t265 t281 1).bind fun t295 => (if t295 < 0 then (none) else (if t295 = t280 then (some true) else (none))))) = some r := by rw [if_pos rfl] at H; exact H
           clear H
           have H := H1
           clear H1
           by_cases c31 : (t292 != t257) = true
           ·rw [if_pos c31] at H
            exact absurd H (by simp)
           ·rw [if_neg c31] at H
            have c31b0 : (t292 != t257) = false := by simpa using c31
            (try (have c31b1 : decide (t292 = t257) = true := by simpa using c31))
            (try (have c31b2 : (t292 == t257) = true := by simpa using c31))
            clear c31
            replace H := Option.bind_eq_some_iff.mp H
            obtain ⟨t295, A320, H⟩ := H
            replace H : (if t295 < 0 then (none) else (if t295 = t280 then (some true) else (none))) = some r := H
            have A32 := Aside0.mk A320
            clear A320
            by_cases c33 : t295 < 0
            ·rw [if_pos c33] at H
             exact absurd H (by simp)
            ·rw [if_neg c33] at H
             have c33b0 : decide (t295 < 0) = false := decide_eq_false c33
             clear c33
             by_cases c34 : t295 = t280
             ·rw [if_pos c34] at H
              have c34b0 : (t295 == t280) = true := beq_iff_eq.mpr c34
              have c34b1 : (t295 != t280) = false := bne_eq_false_iff_eq.mpr c34
              clear c34
              obtain rfl := Option.some.inj H
              go_enter Try.func4, Try.ntmps4
              try go_wp2_with (first | ((with_reducible refine gate_dst (N := 5) rfl ?_); refine box_event ?hg (N := 5) ?hd (cs := #[.int .i64 a2_0, .slice A2_1 l2_1.length c2_1]) (t := 33) ?hr ?_; (case hd => rfl); (case hg => rfl); (case hr => first | (go_simp; done) | (go_simp; rfl)); intro gb246 hg w35 hbox hb; have n0_ := Aside0.mk (below_step (by repeat (first | (with_reducible first | exact HB.out | apply below_alloc | apply pw_below_drewN | apply below_drew1) | exact HB.out)) hb); have n1_ := Aside0.mk (hbox); have n2_ := Aside0.mk ((by rw [hg]; exact (below_size (by repeat (first | (with_reducible first | exact HB.out | apply below_alloc | apply pw_below_drewN | apply below_drew1) | exact HB.out))) : w.heap.size ≤ gb246)); have n3_ := Aside0.mk ((by rw [hg]; exact (below_size (by repeat (first | (with_reducible first | exact HB.out | apply below_alloc | apply pw_below_drewN | apply below_drew1) | exact HB.out))) : w.heap.size ≤ gb246)); clear HB; have HB := n0_; have BK246 := n1_; have GW246 := n2_; have GE246 := n3_; clear n0_ n1_ n2_ n3_; clear hb hbox hg; have hcz36_0 : w35.cell? ⟨gb246, 0, none⟩ = some (.int .i64 a2_0) := (blk_cell BK246.out 0).trans rfl; have hcz36_1 : w35.cell? ⟨gb246, 1, none⟩ = some (.slice A2_1 l2_1.length c2_1) := (blk_cell BK246.out 1).trans rfl; have hfz36_0 := blk_frozen BK246.out 0; have hfz36_1 := blk_frozen BK246.out 1) | ((with_reducible refine gate_callee (f := 20) rfl ?_); refine goesL_ (some 20) rfl rfl Try.func20 (by kernel_rfl) rfl #[.agg #[.int .i64 a2_0, .slice A2_1 l2_1.length c2_1], .int .i64 1048576] rfl (by (try simp only [List.map_toArray, List.map_cons, List.map_nil]); first | done | rfl | (simp only [List.length_drop, List.length_take]; rfl)) ?_; (with_reducible refine (laws_szBits.calls a2_0 _ _ l2_1 1048576 t247 _ ?side1 ?side2 A4.out).mono ?_); (case side1 => repeat (first | exact (Kd.C_below HR2_1.out HB.out) | (with_reducible refine Kd.C_alloc ?_ _) | (with_reducible refine Kd.C_drewN ?_ _) | (with_reducible refine Kd.C_drew ?_))); (case side2 => exact HC2_1.out); rintro e w37 ⟨rfl, hb⟩; refine ⟨_, rfl, ?_⟩; have n0_ := Aside0.mk (blk_below (g := gb246) (o := .cells #[.int .i64 a2_0, .slice A2_1 l2_1.length c2_1] 33 (0, 0)) (by (with_reducible repeat (first | refine blk_drewN ?_ _ | refine blk_drew ?_ | refine blk_alloc ?_ _)); exact BK246.out) hb); have n1_ := Aside0.mk (below_step (by repeat (first | (with_reducible first | exact HB.out | apply below_alloc | apply pw_below_drewN | apply below_drew1 | refine below_set ?_ GE246.out) | exact HB.out)) hb); clear BK246; clear HB; have BK246 := n0_; have HB := n1_; clear n0_ n1_; (try clear hb); (try clear hb2); (try clear hk); (try clear hi); have hcz38_0 : w37.cell? ⟨gb246, 0, none⟩ = some (.int .i64 a2_0) := (blk_cell BK246.out 0).trans rfl; have hcz38_1 : w37.cell? ⟨gb246, 1, none⟩ = some (.slice A2_1 l2_1.length c2_1) := (blk_cell BK246.out 1).trans rfl; have hfz38_0 := blk_frozen BK246.out 0; have hfz38_1 := blk_frozen BK246.out 1) | ((with_reducible refine gate_callee (f := 22) rfl ?_); refine goesL_ (some 27) rfl rfl Try.func22 (by kernel_rfl) rfl #[.agg #[.int .i64 a2_0, .slice A2_1 l2_1.length c2_1]] rfl (by (try simp only [List.map_toArray, List.map_cons, List.map_nil]); first | done | rfl | (simp only [List.length_drop, List.length_take]; rfl)) ?_; (with_reducible refine (laws_toBits.calls k a2_0 _ _ l2_1 t248 t249 _ ?side1 ?side2 A9.out).mono ?_); (case side1 => repeat (first | exact (Kd.C_below HR2_1.out HB.out) | (with_reducible refine Kd.C_alloc ?_ _) | (with_reducible refine Kd.C_drewN ?_ _) | (with_reducible refine Kd.C_drew ?_))); (case side2 => exact HC2_1.out); rintro e w39 ⟨v250, rfl, ho0, hb⟩; refine ⟨_, rfl, ?_⟩; have n0_ := Aside0.mk (Kd.R_lower ho0 (below_size (by repeat (first | (with_reducible first | exact HB.out | apply below_alloc | apply pw_below_drewN | apply below_drew1 | refine below_set ?_ GE246.out) | exact HB.out)))); have n1_ := Aside0.mk (blk_below (g := gb246) (o := .cells #[.int .i64 a2_0, .slice A2_1 l2_1.length c2_1] 33 (0, 0)) (by (with_reducible repeat (first | refine blk_drewN ?_ _ | refine blk_drew ?_ | refine blk_alloc ?_ _)); exact BK246.out) hb); have n2_ := Aside0.mk (below_step (by repeat (first | (with_reducible first | exact HB.out | apply below_alloc | apply pw_below_drewN | apply below_drew1 | refine below_set ?_ GE246.out) | exact HB.out)) hb); clear BK246; clear HB; have HO251 := n0_; have BK246 := n1_; have HB := n2_; clear n0_ n1_ n2_; (try clear hb); (try clear hb2); (try clear hk); (try clear hi); (try clear ho0); obtain ⟨Ao40, co40, eo40⟩ := Kd.R_slice HO251.out; subst eo40) | ((with_reducible refine gate_callee (f := 21) rfl ?_); refine goesL_ (some 28) rfl rfl Try.func21 (by kernel_rfl) rfl #[.int .i64 a0, .int .i64 a1, .agg #[.int .i64 t248, .slice Ao40 t249.length co40]] rfl (by (try simp only [List.map_toArray, List.map_cons, List.map_nil]); first | done | rfl | (simp only [List.length_drop, List.length_take]; rfl)) ?_; (with_reducible refine (spec_UnpackMarks.calls k a0 a1 t248 _ _ t249 t252 t253 t254 t257 _ ?side1 ?side2 A10.out).mono ?_); (case side1 => repeat (first | exact (Kd.R_reads' HO251.out).2.2 | (with_reducible refine Kd.C_alloc ?_ _) | (with_reducible refine Kd.C_drewN ?_ _) | (with_reducible refine Kd.C_drew ?_))); (case side2 => exact (Kd.R_reads' HO251.out).2.1); rintro e w41 ⟨v255, rfl, ho0, hb⟩; refine ⟨_, rfl, ?_⟩; have n0_ := Aside0.mk (Kd.R_elder' (by (with_reducible repeat (first | apply Kd.R_alloc | apply Kd.R_drewN | apply Kd.R_drew)); exact HO251.out) (Kd.R_base ho0) hb); have n1_ := Aside0.mk (Kd.R_lower (Kd.R_new' ho0 (Kd.R_lt (by (with_reducible repeat (first | apply Kd.R_alloc | apply Kd.R_drewN | apply Kd.R_drew)); exact HO251.out))) (below_size (by repeat (first | (with_reducible first | exact HB.out | apply below_alloc | apply pw_below_drewN | apply below_drew1 | refine below_set ?_ GE246.out) | exact HB.out)))); have n2_ := Aside0.mk (blk_below (g := gb246) (o := .cells #[.int .i64 a2_0, .slice A2_1 l2_1.length c2_1] 33 (0, 0)) (by (with_reducible repeat (first | refine blk_drewN ?_ _ | refine blk_drew ?_ | refine blk_alloc ?_ _)); exact BK246.out) hb); have n3_ := Aside0.mk (below_step (by repeat (first | (with_reducible first | exact HB.out | apply below_alloc | apply pw_below_drewN | apply below_drew1 | refine below_set ?_ GE246.out) | exact HB.out)) hb); clear HO251; clear BK246; clear HB; have HO251 := n0_; have HO256 := n1_; have BK246 := n2_; have HB := n3_; clear n0_ n1_ n2_ n3_; (try clear hb); (try clear hb2); (try clear hk); (try clear hi); (try clear ho0)) | ((with_reducible refine gate_dst (N := 8) rfl ?_); refine box_event ?hg (N := 8) ?hd (cs := #[.int .i64 0, .int .i64 0, .slice none 0 0]) (t := 36) ?hr ?_; (case hd => rfl); (case hg => rfl); (case hr => first | (go_simp; done) | (go_simp; rfl)); intro gb258 hg w42 hbox hb; have n0_ := Aside0.mk (Kd.R_below (by (with_reducible repeat (first | apply Kd.R_alloc | apply Kd.R_drewN | apply Kd.R_drew)); exact HO251.out) hb); have n1_ := Aside0.mk (Kd.R_below (by (with_reducible repeat (first | apply Kd.R_alloc | apply Kd.R_drewN | apply Kd.R_drew)); exact HO256.out) hb); have n2_ := Aside0.mk (blk_below (g := gb246) (o := .cells #[.int .i64 a2_0, .slice A2_1 l2_1.length c2_1] 33 (0, 0)) (by (with_reducible repeat (first | refine blk_drewN ?_ _ | refine blk_drew ?_ | refine blk_alloc ?_ _)); exact BK246.out) hb); have n3_ := Aside0.mk (below_step (by repeat (first | (with_reducible first | exact HB.out | apply below_alloc | apply pw_below_drewN | apply below_drew1 | refine below_set ?_ GE246.out) | exact HB.out)) hb); have n4_ := Aside0.mk (hbox); have n5_ := Aside0.mk ((by rw [hg]; exact (below_size (by repeat (first | (with_reducible first | exact HB.out | apply below_alloc | apply pw_below_drewN | apply below_drew1 | refine below_set ?_ GE246.out) | exact HB.out))) : w.heap.size ≤ gb258)); have n6_ := Aside0.mk ((by rw [hg]; exact (below_size (by repeat (first | (with_reducible first | exact HB.out | apply below_alloc | apply pw_below_drewN | apply below_drew1 | refine below_set ?_ GE246.out) | exact HB.out))) : w.heap.size ≤ gb258)); have n7_ := Aside0.mk ((by rw [hg]; exact Nat.ne_of_lt (blk_lt (g := gb246) (o := .cells #[.int .i64 a2_0, .slice A2_1 l2_1.length c2_1] 33 (0, 0)) (by (with_reducible repeat (first | refine blk_drewN ?_ _ | refine blk_drew ?_ | refine blk_alloc ?_ _)); exact BK246.out)) : gb246 ≠ gb258)); have n8_ := Aside0.mk ((by rw [hg]; exact Nat.ne_of_gt (blk_lt (g := gb246) (o := .cells #[.int .i64 a2_0, .slice A2_1 l2_1.length c2_1] 33 (0, 0)) (by (with_reducible repeat (first | refine blk_drewN ?_ _ | refine blk_drew ?_ | refine blk_alloc ?_ _)); exact BK246.out)) : gb258 ≠ gb246)); clear HO251; clear HO256; clear BK246; clear HB; have HO251 := n0_; have HO256 := n1_; have BK246 := n2_; have HB := n3_; have BK258 := n4_; have GW258 := n5_; have GE258 := n6_; have NB246_258 := n7_; have NB258_246 := n8_; clear n0_ n1_ n2_ n3_ n4_ n5_ n6_ n7_ n8_; clear hb hbox hg; have hnb43 := NB258_246.out; have hnc43 := NB246_258.out; have hcz44_0 : w42.cell? ⟨gb258, 0, none⟩ = some (.int .i64 0) := (blk_cell BK258.out 0).trans rfl; have hcz44_1 : w42.cell? ⟨gb258, 1, none⟩ = some (.int .i64 0) := (blk_cell BK258.out 1).trans rfl; have hcz44_2 : w42.cell? ⟨gb258, 2, none⟩ = some (.slice none 0 0) := (blk_cell BK258.out 2).trans rfl; have hfz44_0 := blk_frozen BK258.out 0; have hfz44_1 := blk_frozen BK258.out 1; have hfz44_2 := blk_frozen BK258.out 2; obtain ⟨Ao45, co45, eo45⟩ := Kd.R_slice HO256.out; subst eo45; have hcz46_0 : w42.cell? ⟨gb246, 0, none⟩ = some (.int .i64 a2_0) := (blk_cell BK246.out 0).trans rfl; have hcz46_1 : w42.cell? ⟨gb246, 1, none⟩ = some (.slice A2_1 l2_1.length c2_1) := (blk_cell BK246.out 1).trans rfl; have hfz46_0 := blk_frozen BK246.out 0; have hfz46_1 := blk_frozen BK246.out 1) | ((with_reducible refine gate_callee (f := 22) rfl ?_); refine goesL_ (some 32) rfl rfl Try.func22 (by kernel_rfl) rfl #[.agg #[.int .i64 a2_0, .slice A2_1 l2_1.length c2_1]] rfl (by (try simp only [List.map_toArray, List.map_cons, List.map_nil]); first | done | rfl | (simp only [List.length_drop, List.length_take]; rfl)) ?_; (with_reducible refine (laws_toBits.calls k a2_0 _ _ l2_1 t259 t260 _ ?side1 ?side2 A11.out).mono ?_); (case side1 => exact Kd.C_below HR2_1.out (by repeat (first | (with_reducible first | exact HB.out | apply below_alloc | apply pw_below_drewN | apply below_drew1 | refine below_set ?_ GE246.out | refine below_set ?_ GE258.out) | exact HB.out))); (case side2 => exact HC2_1.out); rintro e w47 ⟨v261, rfl, ho0, hb⟩; refine ⟨_, rfl, ?_⟩; have n0_ := Aside0.mk (Kd.R_elder' (by (with_reducible repeat (first | apply Kd.R_alloc | apply Kd.R_drewN | apply Kd.R_drew)); exact (Kd.R_mono (Kd.R_far (p := ⟨gb258, 2, none⟩) (Kd.R_far (p := ⟨gb258, 1, none⟩) (Kd.R_far (p := ⟨gb258, 0, none⟩) (Kd.R_types HO251.out BK258.out (by decide)) (fun _ hk => hk.2) (.int .i64 t252)) (fun _ hk => hk.2) (.int .i64 t253)) (fun _ hk => hk.2) (.slice Ao45 t254.length co45)) (fun _ h_ => h_.1))) (Kd.R_base ho0) hb); have n1_ := Aside0.mk (Kd.R_elder' (by (with_reducible repeat (first | apply Kd.R_alloc | apply Kd.R_drewN | apply Kd.R_drew)); exact (Kd.R_mono (Kd.R_far (p := ⟨gb258, 2, none⟩) (Kd.R_far (p := ⟨gb258, 1, none⟩) (Kd.R_far (p := ⟨gb258, 0, none⟩) (Kd.R_types HO256.out BK258.out (by decide)) (fun _ hk => hk.2) (.int .i64 t252)) (fun _ hk => hk.2) (.int .i64 t253)) (fun _ hk => hk.2) (.slice Ao45 t254.length co45)) (fun _ h_ => h_.1))) (Kd.R_base ho0) hb); have n2_ := Aside0.mk (Kd.R_lower (Kd.R_new' (Kd.R_new' ho0 (Kd.R_lt (by (with_reducible repeat (first | apply Kd.R_alloc | apply Kd.R_drewN | apply Kd.R_drew)); exact (Kd.R_mono (Kd.R_far (p := ⟨gb258, 2, none⟩) (Kd.R_far (p := ⟨gb258, 1, none⟩) (Kd.R_far (p := ⟨gb258, 0, none⟩) (Kd.R_types HO251.out BK258.out (by decide)) (fun _ hk => hk.2) (.int .i64 t252)) (fun _ hk => hk.2) (.int .i64 t253)) (fun _ hk => hk.2) (.slice Ao45 t254.length co45)) (fun _ h_ => h_.1))))) (Kd.R_lt (by (with_reducible repeat (first | apply Kd.R_alloc | apply Kd.R_drewN | apply Kd.R_drew)); exact (Kd.R_mono (Kd.R_far (p := ⟨gb258, 2, none⟩) (Kd.R_far (p := ⟨gb258, 1, none⟩) (Kd.R_far (p := ⟨gb258, 0, none⟩) (Kd.R_types HO256.out BK258.out (by decide)) (fun _ hk => hk.2) (.int .i64 t252)) (fun _ hk => hk.2) (.int .i64 t253)) (fun _ hk => hk.2) (.slice Ao45 t254.length co45)) (fun _ h_ => h_.1))))) (below_size (by repeat (first | (with_reducible first | exact HB.out | apply below_alloc | apply pw_below_drewN | apply below_drew1 | refine below_set ?_ GE246.out | refine below_set ?_ GE258.out) | exact HB.out)))); have n3_ := Aside0.mk (blk_below (g := gb246) (o := .cells #[.int .i64 a2_0, .slice A2_1 l2_1.length c2_1] 33 (0, 0)) (by (with_reducible repeat (first | refine blk_drewN ?_ _ | refine blk_drew ?_ | refine blk_alloc ?_ _)); refine blk_far ?_ NB246_258.out _; (with_reducible repeat (first | refine blk_drewN ?_ _ | refine blk_drew ?_ | refine blk_alloc ?_ _)); refine blk_far ?_ NB246_258.out _; (with_reducible repeat (first | refine blk_drewN ?_ _ | refine blk_drew ?_ | refine blk_alloc ?_ _)); refine blk_far ?_ NB246_258.out _; (with_reducible repeat (first | refine blk_drewN ?_ _ | refine blk_drew ?_ | refine blk_alloc ?_ _)); exact BK246.out) hb); have n4_ := Aside0.mk (blk_below (g := gb258) (o := .cells #[.int .i64 t252, .int .i64 t253, .slice Ao45 t254.length co45] 36 (0, 0)) (by (with_reducible repeat (first | refine blk_drewN ?_ _ | refine blk_drew ?_ | refine blk_alloc ?_ _)); refine blk_put (cs := #[.int .i64 t252, .int .i64 t253, .slice none 0 0]) ?_ 2 _ rfl; (with_reducible repeat (first | refine blk_drewN ?_ _ | refine blk_drew ?_ | refine blk_alloc ?_ _)); refine blk_put (cs := #[.int .i64 t252, .int .i64 0, .slice none 0 0]) ?_ 1 _ rfl; (with_reducible repeat (first | refine blk_drewN ?_ _ | refine blk_drew ?_ | refine blk_alloc ?_ _)); refine blk_put (cs := #[.int .i64 0, .int .i64 0, .slice none 0 0]) ?_ 0 _ rfl; (with_reducible repeat (first | refine blk_drewN ?_ _ | refine blk_drew ?_ | refine blk_alloc ?_ _)); exact BK258.out) hb); have n5_ := Aside0.mk (below_step (by repeat (first | (with_reducible first | exact HB.out | apply below_alloc | apply pw_below_drewN | apply below_drew1 | refine below_set ?_ GE246.out | refine below_set ?_ GE258.out) | exact HB.out)) hb); clear HO251; clear HO256; clear BK246; clear BK258; clear HB; have HO251 := n0_; have HO256 := n1_; have HO262 := n2_; have BK246 := n3_; have BK258 := n4_; have HB := n5_; clear n0_ n1_ n2_ n3_ n4_ n5_; (try clear hb); (try clear hb2); (try clear hk); (try clear hi); (try clear ho0)) | ((with_reducible refine gate_dst (N := 10) rfl ?_); refine box_event ?hg (N := 10) ?hd (cs := #[.int .i64 0, .slice none 0 0]) (t := 39) ?hr ?_; (case hd => rfl); (case hg => rfl); (case hr => first | (go_simp; done) | (go_simp; rfl)); intro gb263 hg w48 hbox hb; have n0_ := Aside0.mk (Kd.R_below (by (with_reducible repeat (first | apply Kd.R_alloc | apply Kd.R_drewN | apply Kd.R_drew)); exact HO251.out) hb); have n1_ := Aside0.mk (Kd.R_below (by (with_reducible repeat (first | apply Kd.R_alloc | apply Kd.R_drewN | apply Kd.R_drew)); exact HO256.out) hb); have n2_ := Aside0.mk (Kd.R_below (by (with_reducible repeat (first | apply Kd.R_alloc | apply Kd.R_drewN | apply Kd.R_drew)); exact HO262.out) hb); have n3_ := Aside0.mk (blk_below (g := gb246) (o := .cells #[.int .i64 a2_0, .slice A2_1 l2_1.length c2_1] 33 (0, 0)) (by (with_reducible repeat (first | refine blk_drewN ?_ _ | refine blk_drew ?_ | refine blk_alloc ?_ _)); exact BK246.out) hb); have n4_ := Aside0.mk (blk_below (g := gb258) (o := .cells #[.int .i64 t252, .int .i64 t253, .slice Ao45 t254.length co45] 36 (0, 0)) (by (with_reducible repeat (first | refine blk_drewN ?_ _ | refine blk_drew ?_ | refine blk_alloc ?_ _)); exact BK258.out) hb); have n5_ := Aside0.mk (below_step (by repeat (first | (with_reducible first | exact HB.out | apply below_alloc | apply pw_below_drewN | apply below_drew1 | refine below_set ?_ GE246.out | refine below_set ?_ GE258.out) | exact HB.out)) hb); have n6_ := Aside0.mk (hbox); have n7_ := Aside0.mk ((by rw [hg]; exact (below_size (by repeat (first | (with_reducible first | exact HB.out | apply below_alloc | apply pw_below_drewN | apply below_drew1 | refine below_set ?_ GE246.out | refine below_set ?_ GE258.out) | exact HB.out))) : w.heap.size ≤ gb263)); have n8_ := Aside0.mk ((by rw [hg]; exact (below_size (by repeat (first | (with_reducible first | exact HB.out | apply below_alloc | apply pw_below_drewN | apply below_drew1 | refine below_set ?_ GE246.out | refine below_set ?_ GE258.out) | exact HB.out))) : w.heap.size ≤ gb263)); have n9_ := Aside0.mk ((by rw [hg]; exact Nat.ne_of_lt (blk_lt (g := gb246) (o := .cells #[.int .i64 a2_0, .slice A2_1 l2_1.length c2_1] 33 (0, 0)) (by (with_reducible repeat (first | refine blk_drewN ?_ _ | refine blk_drew ?_ | refine blk_alloc ?_ _)); exact BK246.out)) : gb246 ≠ gb263)); have n10_ := Aside0.mk ((by rw [hg]; exact Nat.ne_of_gt (blk_lt (g := gb246) (o := .cells #[.int .i64 a2_0, .slice A2_1 l2_1.length c2_1] 33 (0, 0)) (by (with_reducible repeat (first | refine blk_drewN ?_ _ | refine blk_drew ?_ | refine blk_alloc ?_ _)); exact BK246.out)) : gb263 ≠ gb246)); have n11_ := Aside0.mk ((by rw [hg]; exact Nat.ne_of_lt (blk_lt (g := gb258) (o := .cells #[.int .i64 t252, .int .i64 t253, .slice Ao45 t254.length co45] 36 (0, 0)) (by (with_reducible repeat (first | refine blk_drewN ?_ _ | refine blk_drew ?_ | refine blk_alloc ?_ _)); exact BK258.out)) : gb258 ≠ gb263)); have n12_ := Aside0.mk ((by rw [hg]; exact Nat.ne_of_gt (blk_lt (g := gb258) (o := .cells #[.int .i64 t252, .int .i64 t253, .slice Ao45 t254.length co45] 36 (0, 0)) (by (with_reducible repeat (first | refine blk_drewN ?_ _ | refine blk_drew ?_ | refine blk_alloc ?_ _)); exact BK258.out)) : gb263 ≠ gb258)); clear HO251; clear HO256; clear HO262; clear BK246; clear BK258; clear HB; have HO251 := n0_; have HO256 := n1_; have HO262 := n2_; have BK246 := n3_; have BK258 := n4_; have HB := n5_; have BK263 := n6_; have GW263 := n7_; have GE263 := n8_; have NB246_263 := n9_; have NB263_246 := n10_; have NB258_263 := n11_; have NB263_258 := n12_; clear n0_ n1_ n2_ n3_ n4_ n5_ n6_ n7_ n8_ n9_ n10_ n11_ n12_; clear hb hbox hg; have hnb49 := NB263_246.out; have hnc49 := NB246_263.out; have hnb50 := NB263_258.out; have hnc50 := NB258_263.out; have hcz51_0 : w48.cell? ⟨gb263, 0, none⟩ = some (.int .i64 0) := (blk_cell BK263.out 0).trans rfl; have hcz51_1 : w48.cell? ⟨gb263, 1, none⟩ = some (.slice none 0 0) := (blk_cell BK263.out 1).trans rfl; have hfz51_0 := blk_frozen BK263.out 0; have hfz51_1 := blk_frozen BK263.out 1; obtain ⟨Ao52, co52, eo52⟩ := Kd.R_slice HO262.out; subst eo52) | ((with_reducible refine gate_callee (f := 23) rfl ?_); refine goesL_ (some 37) rfl rfl Try.func23 (by kernel_rfl) rfl #[.int .i64 a0, .int .i64 a1, .agg #[.int .i64 t259, .slice Ao52 t260.length co52]] rfl (by (try simp only [List.map_toArray, List.map_cons, List.map_nil]); first | done | rfl | (simp only [List.length_drop, List.length_take]; rfl)) ?_; (with_reducible refine (impl_UnpackMarks.calls k a0 a1 t259 _ _ t260 t264 t265 t266 t269 _ ?side1 ?side2 A12.out).mono ?_); (case side1 => refine (Kd.R_reads' (e := 3) (base := w.heap.size) (ok := fun k_ => ((True ∧ some k_ ≠ (.slice Ao40 t249.length co40 : Value).ownBlock) ∧ some k_ ≠ (.slice Ao45 t254.length co45 : Value).ownBlock)) (n := t260.length) (c := co52) ?_).2.2; exact (by (with_reducible repeat (first | apply Kd.R_alloc | apply Kd.R_drewN | apply Kd.R_drew)); exact (Kd.R_mono (Kd.R_far (p := ⟨gb263, 1, none⟩) (Kd.R_far (p := ⟨gb263, 0, none⟩) (Kd.R_types HO262.out BK263.out (by decide)) (fun _ hk => hk.2) (.int .i64 t259)) (fun _ hk => hk.2) (.slice Ao52 t260.length co52)) (fun _ h_ => h_.1)))); (case side2 => exact (Kd.R_reads' HO262.out).2.1); rintro e w53 ⟨v267, rfl, ho0, hb⟩; refine ⟨_, rfl, ?_⟩; have n0_ := Aside0.mk (Kd.R_elder' (by (with_reducible repeat (first | apply Kd.R_alloc | apply Kd.R_drewN | apply Kd.R_drew)); exact (Kd.R_mono (Kd.R_far (p := ⟨gb263, 1, none⟩) (Kd.R_far (p := ⟨gb263, 0, none⟩) (Kd.R_types HO251.out BK263.out (by decide)) (fun _ hk => hk.2) (.int .i64 t259)) (fun _ hk => hk.2) (.slice Ao52 t260.length co52)) (fun _ h_ => h_.1))) (Kd.R_base ho0) hb); have n1_ := Aside0.mk (Kd.R_elder' (by (with_reducible repeat (first | apply Kd.R_alloc | apply Kd.R_drewN | apply Kd.R_drew)); exact (Kd.R_mono (Kd.R_far (p := ⟨gb263, 1, none⟩) (Kd.R_far (p := ⟨gb263, 0, none⟩) (Kd.R_types HO256.out BK263.out (by decide)) (fun _ hk => hk.2) (.int .i64 t259)) (fun _ hk => hk.2) (.slice Ao52 t260.length co52)) (fun _ h_ => h_.1))) (Kd.R_base ho0) hb); have n2_ := Aside0.mk (Kd.R_elder' (by (with_reducible repeat (first | apply Kd.R_alloc | apply Kd.R_drewN | apply Kd.R_drew)); exact (Kd.R_mono (Kd.R_far (p := ⟨gb263, 1, none⟩) (Kd.R_far (p := ⟨gb263, 0, none⟩) (Kd.R_types HO262.out BK263.out (by decide)) (fun _ hk => hk.2) (.int .i64 t259)) (fun _ hk => hk.2) (.slice Ao52 t260.length co52)) (fun _ h_ => h_.1))) (Kd.R_base ho0) hb); have n3_ := Aside0.mk (Kd.R_lower (Kd.R_new' (Kd.R_new' (Kd.R_new' ho0 (Kd.R_lt (by (with_reducible repeat (first | apply Kd.R_alloc | apply Kd.R_drewN | apply Kd.R_drew)); exact (Kd.R_mono (Kd.R_far (p := ⟨gb263, 1, none⟩) (Kd.R_far (p := ⟨gb263, 0, none⟩) (Kd.R_types HO251.out BK263.out (by decide)) (fun _ hk => hk.2) (.int .i64 t259)) (fun _ hk => hk.2) (.slice Ao52 t260.length co52)) (fun _ h_ => h_.1))))) (Kd.R_lt (by (with_reducible repeat (first | apply Kd.R_alloc | apply Kd.R_drewN | apply Kd.R_drew)); exact (Kd.R_mono (Kd.R_far (p := ⟨gb263, 1, none⟩) (Kd.R_far (p := ⟨gb263, 0, none⟩) (Kd.R_types HO256.out BK263.out (by decide)) (fun _ hk => hk.2) (.int .i64 t259)) (fun _ hk => hk.2) (.slice Ao52 t260.length co52)) (fun _ h_ => h_.1))))) (Kd.R_lt (by (with_reducible repeat (first | apply Kd.R_alloc | apply Kd.R_drewN | apply Kd.R_drew)); exact (Kd.R_mono (Kd.R_far (p := ⟨gb263, 1, none⟩) (Kd.R_far (p := ⟨gb263, 0, none⟩) (Kd.R_types HO262.out BK263.out (by decide)) (fun _ hk => hk.2) (.int .i64 t259)) (fun _ hk => hk.2) (.slice Ao52 t260.length co52)) (fun _ h_ => h_.1))))) (below_size (by repeat (first | (with_reducible first | exact HB.out | apply below_alloc | apply pw_below_drewN | apply below_drew1 | refine below_set ?_ GE246.out | refine below_set ?_ GE258.out | refine below_set ?_ GE263.out) | exact HB.out)))); have n4_ := Aside0.mk (blk_below (g := gb246) (o := .cells #[.int .i64 a2_0, .slice A2_1 l2_1.length c2_1] 33 (0, 0)) (by (with_reducible repeat (first | refine blk_drewN ?_ _ | refine blk_drew ?_ | refine blk_alloc ?_ _)); refine blk_far ?_ NB246_263.out _; (with_reducible repeat (first | refine blk_drewN ?_ _ | refine blk_drew ?_ | refine blk_alloc ?_ _)); refine blk_far ?_ NB246_263.out _; (with_reducible repeat (first | refine blk_drewN ?_ _ | refine blk_drew ?_ | refine blk_alloc ?_ _)); exact BK246.out) hb); have n5_ := Aside0.mk (blk_below (g := gb258) (o := .cells #[.int .i64 t252, .int .i64 t253, .slice Ao45 t254.length co45] 36 (0, 0)) (by (with_reducible repeat (first | refine blk_drewN ?_ _ | refine blk_drew ?_ | refine blk_alloc ?_ _)); refine blk_far ?_ NB258_263.out _; (with_reducible repeat (first | refine blk_drewN ?_ _ | refine blk_drew ?_ | refine blk_alloc ?_ _)); refine blk_far ?_ NB258_263.out _; (with_reducible repeat (first | refine blk_drewN ?_ _ | refine blk_drew ?_ | refine blk_alloc ?_ _)); exact BK258.out) hb); have n6_ := Aside0.mk (blk_below (g := gb263) (o := .cells #[.int .i64 t259, .slice Ao52 t260.length co52] 39 (0, 0)) (by (with_reducible repeat (first | refine blk_drewN ?_ _ | refine blk_drew ?_ | refine blk_alloc ?_ _)); refine blk_put (cs := #[.int .i64 t259, .slice none 0 0]) ?_ 1 _ rfl; (with_reducible repeat (first | refine blk_drewN ?_ _ | refine blk_drew ?_ | refine blk_alloc ?_ _)); refine blk_put (cs := #[.int .i64 0, .slice none 0 0]) ?_ 0 _ rfl; (with_reducible repeat (first | refine blk_drewN ?_ _ | refine blk_drew ?_ | refine blk_alloc ?_ _)); exact BK263.out) hb); have n7_ := Aside0.mk (below_step (by repeat (first | (with_reducible first | exact HB.out | apply below_alloc | apply pw_below_drewN | apply below_drew1 | refine below_set ?_ GE246.out | refine below_set ?_ GE258.out | refine below_set ?_ GE263.out) | exact HB.out)) hb); clear HO251; clear HO256; clear HO262; clear BK246; clear BK258; clear BK263; clear HB; have HO251 := n0_; have HO256 := n1_; have HO262 := n2_; have HO268 := n3_; have BK246 := n4_; have BK258 := n5_; have BK263 := n6_; have HB := n7_; clear n0_ n1_ n2_ n3_ n4_ n5_ n6_ n7_; (try clear hb); (try clear hb2); (try clear hk); (try clear hi); (try clear ho0)) | ((with_reducible refine gate_dst (N := 11) rfl ?_); refine box_event ?hg (N := 11) ?hd (cs := #[.int .i64 0, .int .i64 0, .slice none 0 0]) (t := 36) ?hr ?_; (case hd => rfl); (case hg => rfl); (case hr => first | (go_simp; done) | (go_simp; rfl)); intro gb270 hg w54 hbox hb; have n0_ := Aside0.mk (Kd.R_below (by (with_reducible repeat (first | apply Kd.R_alloc | apply Kd.R_drewN | apply Kd.R_drew)); exact HO251.out) hb); have n1_ := Aside0.mk (Kd.R_below (by (with_reducible repeat (first | apply Kd.R_alloc | apply Kd.R_drewN | apply Kd.R_drew)); exact HO256.out) hb); have n2_ := Aside0.mk (Kd.R_below (by (with_reducible repeat (first | apply Kd.R_alloc | apply Kd.R_drewN | apply Kd.R_drew)); exact HO262.out) hb); have n3_ := Aside0.mk (Kd.R_below (by (with_reducible repeat (first | apply Kd.R_alloc | apply Kd.R_drewN | apply Kd.R_drew)); exact HO268.out) hb); have n4_ := Aside0.mk (blk_below (g := gb246) (o := .cells #[.int .i64 a2_0, .slice A2_1 l2_1.length c2_1] 33 (0, 0)) (by (with_reducible repeat (first | refine blk_drewN ?_ _ | refine blk_drew ?_ | refine blk_alloc ?_ _)); exact BK246.out) hb); have n5_ := Aside0.mk (blk_below (g := gb258) (o := .cells #[.int .i64 t252, .int .i64 t253, .slice Ao45 t254.length co45] 36 (0, 0)) (by (with_reducible repeat (first | refine blk_drewN ?_ _ | refine blk_drew ?_ | refine blk_alloc ?_ _)); exact BK258.out) hb); have n6_ := Aside0.mk (blk_below (g := gb263) (o := .cells #[.int .i64 t259, .slice Ao52 t260.length co52] 39 (0, 0)) (by (with_reducible repeat (first | refine blk_drewN ?_ _ | refine blk_drew ?_ | refine blk_alloc ?_ _)); exact BK263.out) hb); have n7_ := Aside0.mk (below_step (by repeat (first | (with_reducible first | exact HB.out | apply below_alloc | apply pw_below_drewN | apply below_drew1 | refine below_set ?_ GE246.out | refine below_set ?_ GE258.out | refine below_set ?_ GE263.out) | exact HB.out)) hb); have n8_ := Aside0.mk (hbox); have n9_ := Aside0.mk ((by rw [hg]; exact (below_size (by repeat (first | (with_reducible first | exact HB.out | apply below_alloc | apply pw_below_drewN | apply below_drew1 | refine below_set ?_ GE246.out | refine below_set ?_ GE258.out | refine below_set ?_ GE263.out) | exact HB.out))) : w.heap.size ≤ gb270)); have n10_ := Aside0.mk ((by rw [hg]; exact (below_size (by repeat (first | (with_reducible first | exact HB.out | apply below_alloc | apply pw_below_drewN | apply below_drew1 | refine below_set ?_ GE246.out | refine below_set ?_ GE258.out | refine below_set ?_ GE263.out) | exact HB.out))) : w.heap.size ≤ gb270)); have n11_ := Aside0.mk ((by rw [hg]; exact Nat.ne_of_lt (blk_lt (g := gb246) (o := .cells #[.int .i64 a2_0, .slice A2_1 l2_1.length c2_1] 33 (0, 0)) (by (with_reducible repeat (first | refine blk_drewN ?_ _ | refine blk_drew ?_ | refine blk_alloc ?_ _)); exact BK246.out)) : gb246 ≠ gb270)); have n12_ := Aside0.mk ((by rw [hg]; exact Nat.ne_of_gt (blk_lt (g := gb246) (o := .cells #[.int .i64 a2_0, .slice A2_1 l2_1.length c2_1] 33 (0, 0)) (by (with_reducible repeat (first | refine blk_drewN ?_ _ | refine blk_drew ?_ | refine blk_alloc ?_ _)); exact BK246.out)) : gb270 ≠ gb246)); have n13_ := Aside0.mk ((by rw [hg]; exact Nat.ne_of_lt (blk_lt (g := gb258) (o := .cells #[.int .i64 t252, .int .i64 t253, .slice Ao45 t254.length co45] 36 (0, 0)) (by (with_reducible repeat (first | refine blk_drewN ?_ _ | refine blk_drew ?_ | refine blk_alloc ?_ _)); exact BK258.out)) : gb258 ≠ gb270)); have n14_ := Aside0.mk ((by rw [hg]; exact Nat.ne_of_gt (blk_lt (g := gb258) (o := .cells #[.int .i64 t252, .int .i64 t253, .slice Ao45 t254.length co45] 36 (0, 0)) (by (with_reducible repeat (first | refine blk_drewN ?_ _ | refine blk_drew ?_ | refine blk_alloc ?_ _)); exact BK258.out)) : gb270 ≠ gb258)); have n15_ := Aside0.mk ((by rw [hg]; exact Nat.ne_of_lt (blk_lt (g := gb263) (o := .cells #[.int .i64 t259, .slice Ao52 t260.length co52] 39 (0, 0)) (by (with_reducible repeat (first | refine blk_drewN ?_ _ | refine blk_drew ?_ | refine blk_alloc ?_ _)); exact BK263.out)) : gb263 ≠ gb270)); have n16_ := Aside0.mk ((by rw [hg]; exact Nat.ne_of_gt (blk_lt (g := gb263) (o := .cells #[.int .i64 t259, .slice Ao52 t260.length co52] 39 (0, 0)) (by (with_reducible repeat (first | refine blk_drewN ?_ _ | refine blk_drew ?_ | refine blk_alloc ?_ _)); exact BK263.out)) : gb270 ≠ gb263)); clear HO251; clear HO256; clear HO262; clear HO268; clear BK246; clear BK258; clear BK263; clear HB; have HO251 := n0_; have HO256 := n1_; have HO262 := n2_; have HO268 := n3_; have BK246 := n4_; have BK258 := n5_; have BK263 := n6_; have HB := n7_; have BK270 := n8_; have GW270 := n9_; have GE270 := n10_; have NB246_270 := n11_; have NB270_246 := n12_; have NB258_270 := n13_; have NB270_258 := n14_; have NB263_270 := n15_; have NB270_263 := n16_; clear n0_ n1_ n2_ n3_ n4_ n5_ n6_ n7_ n8_ n9_ n10_ n11_ n12_ n13_ n14_ n15_ n16_; clear hb hbox hg; have hnb55 := NB270_246.out; have hnc55 := NB246_270.out; have hnb56 := NB270_258.out; have hnc56 := NB258_270.out; have hnb57 := NB270_263.out; have hnc57 := NB263_270.out; have hcz58_0 : w54.cell? ⟨gb270, 0, none⟩ = some (.int .i64 0) := (blk_cell BK270.out 0).trans rfl; have hcz58_1 : w54.cell? ⟨gb270, 1, none⟩ = some (.int .i64 0) := (blk_cell BK270.out 1).trans rfl; have hcz58_2 : w54.cell? ⟨gb270, 2, none⟩ = some (.slice none 0 0) := (blk_cell BK270.out 2).trans rfl; have hfz58_0 := blk_frozen BK270.out 0; have hfz58_1 := blk_frozen BK270.out 1; have hfz58_2 := blk_frozen BK270.out 2; obtain ⟨Ao59, co59, eo59⟩ := Kd.R_slice HO268.out; subst eo59; have hcz60_0 : w54.cell? ⟨gb258, 0, none⟩ = some (.int .i64 t252) := (blk_cell BK258.out 0).trans rfl; have hcz60_1 : w54.cell? ⟨gb258, 1, none⟩ = some (.int .i64 t253) := (blk_cell BK258.out 1).trans rfl; have hcz60_2 : w54.cell? ⟨gb258, 2, none⟩ = some (.slice Ao45 t254.length co45) := (blk_cell BK258.out 2).trans rfl; have hfz60_0 := blk_frozen BK258.out 0; have hfz60_1 := blk_frozen BK258.out 1; have hfz60_2 := blk_frozen BK258.out 2) | ((with_reducible refine gate_callee (f := 24) rfl ?_); refine goesL_ (some 42) rfl rfl Try.func24 (by kernel_rfl) rfl #[.agg #[.int .i64 t264, .int .i64 t265, .slice Ao59 t266.length co59], .agg #[.int .i64 t252, .int .i64 t253, .slice Ao45 t254.length co45]] rfl (by (try simp only [List.map_toArray, List.map_cons, List.map_nil]); first | done | rfl | (simp only [List.length_drop, List.length_take]; rfl)) ?_; (with_reducible refine (laws_eqPeeled.calls k t264 t265 _ _ t266 t252 t253 _ _ t254 true _ ?side1 ?side2 ?side3 ?side4 A13.out).mono ?_); (case side1 => refine (Kd.R_reads' (e := 3) (base := w.heap.size) (ok := fun k_ => (((True ∧ some k_ ≠ (.slice Ao40 t249.length co40 : Value).ownBlock) ∧ some k_ ≠ (.slice Ao45 t254.length co45 : Value).ownBlock) ∧ some k_ ≠ (.slice Ao52 t260.length co52 : Value).ownBlock)) (n := t266.length) (c := co59) ?_).2.2; exact (by (with_reducible repeat (first | apply Kd.R_alloc | apply Kd.R_drewN | apply Kd.R_drew)); exact (Kd.R_mono (Kd.R_far (p := ⟨gb270, 2, none⟩) (Kd.R_far (p := ⟨gb270, 1, none⟩) (Kd.R_far (p := ⟨gb270, 0, none⟩) (Kd.R_types HO268.out BK270.out (by decide)) (fun _ hk => hk.2) (.int .i64 t264)) (fun _ hk => hk.2) (.int .i64 t265)) (fun _ hk => hk.2) (.slice Ao59 t266.length co59)) (fun _ h_ => h_.1)))); (case side2 => exact (Kd.R_reads' HO268.out).2.1); (case side3 => refine (Kd.R_reads' (e := 3) (base := w.heap.size) (ok := fun k_ => (((True ∧ some k_ ≠ (.slice Ao40 t249.length co40 : Value).ownBlock) ∧ some k_ ≠ (.slice Ao52 t260.length co52 : Value).ownBlock) ∧ some k_ ≠ (.slice Ao59 t266.length co59 : Value).ownBlock)) (n := t254.length) (c := co45) ?_).2.2; exact (by (with_reducible repeat (first | apply Kd.R_alloc | apply Kd.R_drewN | apply Kd.R_drew)); exact (Kd.R_mono (Kd.R_far (p := ⟨gb270, 2, none⟩) (Kd.R_far (p := ⟨gb270, 1, none⟩) (Kd.R_far (p := ⟨gb270, 0, none⟩) (Kd.R_types HO256.out BK270.out (by decide)) (fun _ hk => hk.2) (.int .i64 t264)) (fun _ hk => hk.2) (.int .i64 t265)) (fun _ hk => hk.2) (.slice Ao59 t266.length co59)) (fun _ h_ => h_.1)))); (case side4 => exact (Kd.R_reads' HO256.out).2.1); rintro e w61 ⟨rfl, hb⟩; refine ⟨_, rfl, ?_⟩; have n0_ := Aside0.mk (Kd.R_below (by (with_reducible repeat (first | apply Kd.R_alloc | apply Kd.R_drewN | apply Kd.R_drew)); exact (Kd.R_mono (Kd.R_far (p := ⟨gb270, 2, none⟩) (Kd.R_far (p := ⟨gb270, 1, none⟩) (Kd.R_far (p := ⟨gb270, 0, none⟩) (Kd.R_types HO251.out BK270.out (by decide)) (fun _ hk => hk.2) (.int .i64 t264)) (fun _ hk => hk.2) (.int .i64 t265)) (fun _ hk => hk.2) (.slice Ao59 t266.length co59)) (fun _ h_ => h_.1))) hb); have n1_ := Aside0.mk (Kd.R_below (by (with_reducible repeat (first | apply Kd.R_alloc | apply Kd.R_drewN | apply Kd.R_drew)); exact (Kd.R_mono (Kd.R_far (p := ⟨gb270, 2, none⟩) (Kd.R_far (p := ⟨gb270, 1, none⟩) (Kd.R_far (p := ⟨gb270, 0, none⟩) (Kd.R_types HO256.out BK270.out (by decide)) (fun _ hk => hk.2) (.int .i64 t264)) (fun _ hk => hk.2) (.int .i64 t265)) (fun _ hk => hk.2) (.slice Ao59 t266.length co59)) (fun _ h_ => h_.1))) hb); have n2_ := Aside0.mk (Kd.R_below (by (with_reducible repeat (first | apply Kd.R_alloc | apply Kd.R_drewN | apply Kd.R_drew)); exact (Kd.R_mono (Kd.R_far (p := ⟨gb270, 2, none⟩) (Kd.R_far (p := ⟨gb270, 1, none⟩) (Kd.R_far (p := ⟨gb270, 0, none⟩) (Kd.R_types HO262.out BK270.out (by decide)) (fun _ hk => hk.2) (.int .i64 t264)) (fun _ hk => hk.2) (.int .i64 t265)) (fun _ hk => hk.2) (.slice Ao59 t266.length co59)) (fun _ h_ => h_.1))) hb); have n3_ := Aside0.mk (Kd.R_below (by (with_reducible repeat (first | apply Kd.R_alloc | apply Kd.R_drewN | apply Kd.R_drew)); exact (Kd.R_mono (Kd.R_far (p := ⟨gb270, 2, none⟩) (Kd.R_far (p := ⟨gb270, 1, none⟩) (Kd.R_far (p := ⟨gb270, 0, none⟩) (Kd.R_types HO268.out BK270.out (by decide)) (fun _ hk => hk.2) (.int .i64 t264)) (fun _ hk => hk.2) (.int .i64 t265)) (fun _ hk => hk.2) (.slice Ao59 t266.length co59)) (fun _ h_ => h_.1))) hb); have n4_ := Aside0.mk (blk_below (g := gb246) (o := .cells #[.int .i64 a2_0, .slice A2_1 l2_1.length c2_1] 33 (0, 0)) (by (with_reducible repeat (first | refine blk_drewN ?_ _ | refine blk_drew ?_ | refine blk_alloc ?_ _)); refine blk_far ?_ NB246_270.out _; (with_reducible repeat (first | refine blk_drewN ?_ _ | refine blk_drew ?_ | refine blk_alloc ?_ _)); refine blk_far ?_ NB246_270.out _; (with_reducible repeat (first | refine blk_drewN ?_ _ | refine blk_drew ?_ | refine blk_alloc ?_ _)); refine blk_far ?_ NB246_270.out _; (with_reducible repeat (first | refine blk_drewN ?_ _ | refine blk_drew ?_ | refine blk_alloc ?_ _)); exact BK246.out) hb); have n5_ := Aside0.mk (blk_below (g := gb258) (o := .cells #[.int .i64 t252, .int .i64 t253, .slice Ao45 t254.length co45] 36 (0, 0)) (by (with_reducible repeat (first | refine blk_drewN ?_ _ | refine blk_drew ?_ | refine blk_alloc ?_ _)); refine blk_far ?_ NB258_270.out _; (with_reducible repeat (first | refine blk_drewN ?_ _ | refine blk_drew ?_ | refine blk_alloc ?_ _)); refine blk_far ?_ NB258_270.out _; (with_reducible repeat (first | refine blk_drewN ?_ _ | refine blk_drew ?_ | refine blk_alloc ?_ _)); refine blk_far ?_ NB258_270.out _; (with_reducible repeat (first | refine blk_drewN ?_ _ | refine blk_drew ?_ | refine blk_alloc ?_ _)); exact BK258.out) hb); have n6_ := Aside0.mk (blk_below (g := gb263) (o := .cells #[.int .i64 t259, .slice Ao52 t260.length co52] 39 (0, 0)) (by (with_reducible repeat (first | refine blk_drewN ?_ _ | refine blk_drew ?_ | refine blk_alloc ?_ _)); refine blk_far ?_ NB263_270.out _; (with_reducible repeat (first | refine blk_drewN ?_ _ | refine blk_drew ?_ | refine blk_alloc ?_ _)); refine blk_far ?_ NB263_270.out _; (with_reducible repeat (first | refine blk_drewN ?_ _ | refine blk_drew ?_ | refine blk_alloc ?_ _)); refine blk_far ?_ NB263_270.out _; (with_reducible repeat (first | refine blk_drewN ?_ _ | refine blk_drew ?_ | refine blk_alloc ?_ _)); exact BK263.out) hb); have n7_ := Aside0.mk (blk_below (g := gb270) (o := .cells #[.int .i64 t264, .int .i64 t265, .slice Ao59 t266.length co59] 36 (0, 0)) (by (with_reducible repeat (first | refine blk_drewN ?_ _ | refine blk_drew ?_ | refine blk_alloc ?_ _)); refine blk_put (cs := #[.int .i64 t264, .int .i64 t265, .slice none 0 0]) ?_ 2 _ rfl; (with_reducible repeat (first | refine blk_drewN ?_ _ | refine blk_drew ?_ | refine blk_alloc ?_ _)); refine blk_put (cs := #[.int .i64 t264, .int .i64 0, .slice none 0 0]) ?_ 1 _ rfl; (with_reducible repeat (first | refine blk_drewN ?_ _ | refine blk_drew ?_ | refine blk_alloc ?_ _)); refine blk_put (cs := #[.int .i64 0, .int .i64 0, .slice none 0 0]) ?_ 0 _ rfl; (with_reducible repeat (first | refine blk_drewN ?_ _ | refine blk_drew ?_ | refine blk_alloc ?_ _)); exact BK270.out) hb); have n8_ := Aside0.mk (below_step (by repeat (first | (with_reducible first | exact HB.out | apply below_alloc | apply pw_below_drewN | apply below_drew1 | refine below_set ?_ GE246.out | refine below_set ?_ GE258.out | refine below_set ?_ GE263.out | refine below_set ?_ GE270.out) | exact HB.out)) hb); clear HO251; clear HO256; clear HO262; clear HO268; clear BK246; clear BK258; clear BK263; clear BK270; clear HB; have HO251 := n0_; have HO256 := n1_; have HO262 := n2_; have HO268 := n3_; have BK246 := n4_; have BK258 := n5_; have BK263 := n6_; have BK270 := n7_; have HB := n8_; clear n0_ n1_ n2_ n3_ n4_ n5_ n6_ n7_ n8_; (try clear hb); (try clear hb2); (try clear hk); (try clear hi)))
              have n0_ := Aside0.mk (Kd.R_drew HO251.out)
              have n1_ := Aside0.mk (Kd.R_drew HO256.out)
              have n2_ := Aside0.mk (Kd.R_drew HO262.out)
              have n3_ := Aside0.mk (Kd.R_drew HO268.out)
              have n4_ := Aside0.mk (blk_drew BK246.out)
              have n5_ := Aside0.mk (blk_drew BK258.out)
              have n6_ := Aside0.mk (blk_drew BK263.out)
              have n7_ := Aside0.mk (blk_drew BK270.out)
              have n8_ := Aside0.mk (below_drew1 HB.out)
              clear HO251
              clear HO256
              clear HO262
              clear HO268
              clear BK246
              clear BK258
              clear BK263
              clear BK270
              clear HB
              have HO251 := n0_
              have HO256 := n1_
              have HO262 := n2_
              have HO268 := n3_
              have BK246 := n4_
              have BK258 := n5_
              have BK263 := n6_
              have BK270 := n7_
              have HB := n8_
              clear n0_ n1_ n2_ n3_ n4_ n5_ n6_ n7_ n8_
              refine start_ (n := 5) (S := fun w' => w'.cell? ⟨gb263, 0, none⟩ = some (.int .i64 t259) ∧ w'.cell? ⟨gb263, 1, none⟩ = some (.slice Ao52 t260.length co52) ∧ w'.cell? ⟨gb246, 0, none⟩ = some (.int .i64 a2_0) ∧ w'.cell? ⟨gb246, 1, none⟩ = some (.slice A2_1 l2_1.length c2_1)) (ds := []) #[false, false, false, false, false] (by kernel_rfl) rfl rfl ⟨(blk_cell BK263.out 0).trans rfl, (blk_cell BK263.out 1).trans rfl, (blk_cell BK246.out 0).trans rfl, (blk_cell BK246.out 1).trans rfl⟩ (fun hHeld => ?_)
              generalize w61.drew = w62 at HO251 HO256 HO262 HO268 BK246 BK258 BK263 BK270 HB hHeld ⊢
              refine take_ (i := 0) (N := some 49) (v := ?_) (a' := ?_) #[true, false, false, false, false] rfl rfl (by kernel_rfl) (fun _ _ _ h => h) (Or.inl ⟨by rfl, ?_⟩) hHeld ?_ ?_
              rotate_left
              ·rintro w' ⟨s0, s1, s2, s3⟩
               go_simp
               with_reducible rfl
              rotate_left
              ·simp only [Act.put, List.setIfInBounds_toArray, List.set_cons_zero, List.set_cons_succ, i64_w]
               rfl
              refine take_ (i := 1) (N := some 50) (v := ?_) (a' := ?_) #[true, true, false, false, false] rfl rfl (by kernel_rfl) (fun _ _ _ h => h) (Or.inl ⟨by rfl, ?_⟩) hHeld ?_ ?_
              rotate_left
              ·rintro w' ⟨s0, s1, s2, s3⟩
               go_simp
               with_reducible rfl
              rotate_left
              ·simp only [Act.put, List.setIfInBounds_toArray, List.set_cons_zero, List.set_cons_succ, i64_w]
               rfl
              refine one_ (i := 2) (N := some 51) #[true, true, true, false, false] rfl rfl (by kernel_rfl) (by decide) (fun K hK => ?_)
              refine goes_ Try.func22 (by kernel_rfl) rfl #[.agg #[.int .i64 a2_0, .slice A2_1 l2_1.length c2_1]] (by rfl) rfl rfl (by (try simp only [List.map_toArray, List.map_cons, List.map_nil]); first | done | rfl | (simp only [List.length_drop, List.length_take]; rfl)) ?_
              with_reducible refine (laws_toBits.calls k a2_0 _ _ l2_1 t272 t273 _ ?side1 ?side2 A16.out).mono ?_
              (case side1 => repeat (first | exact (Kd.C_below HR2_1.out HB.out) | (with_reducible refine Kd.C_alloc ?_ _) | (with_reducible refine Kd.C_drewN ?_ _) | (with_reducible refine Kd.C_drew ?_)))
              (case side2 => exact HC2_1.out)
              rintro e w63 ⟨v274, rfl, ho0, hb⟩
              refine ⟨_, rfl, ?_⟩
              have n0_ := Aside0.mk (Kd.R_elder' (by (with_reducible repeat (first | apply Kd.R_alloc | apply Kd.R_drewN | apply Kd.R_drew)); exact HO251.out) (Kd.R_base ho0) hb)
              have n1_ := Aside0.mk (Kd.R_elder' (by (with_reducible repeat (first | apply Kd.R_alloc | apply Kd.R_drewN | apply Kd.R_drew)); exact HO256.out) (Kd.R_base ho0) hb)
              have n2_ := Aside0.mk (Kd.R_elder' (by (with_reducible repeat (first | apply Kd.R_alloc | apply Kd.R_drewN | apply Kd.R_drew)); exact HO262.out) (Kd.R_base ho0) hb)
              have n3_ := Aside0.mk (Kd.R_elder' (by (with_reducible repeat (first | apply Kd.R_alloc | apply Kd.R_drewN | apply Kd.R_drew)); exact HO268.out) (Kd.R_base ho0) hb)
              have n4_ := Aside0.mk (Kd.R_lower (Kd.R_new' (Kd.R_new' (Kd.R_new' (Kd.R_new' ho0 (Kd.R_lt (by (with_reducible repeat (first | apply Kd.R_alloc | apply Kd.R_drewN | apply Kd.R_drew)); exact HO251.out))) (Kd.R_lt (by (with_reducible repeat (first | apply Kd.R_alloc | apply Kd.R_drewN | apply Kd.R_drew)); exact HO256.out))) (Kd.R_lt (by (with_reducible repeat (first | apply Kd.R_alloc | apply Kd.R_drewN | apply Kd.R_drew)); exact HO262.out))) (Kd.R_lt (by (with_reducible repeat (first | apply Kd.R_alloc | apply Kd.R_drewN | apply Kd.R_drew)); exact HO268.out))) (below_size (by repeat (first | (with_reducible first | exact HB.out | apply below_alloc | apply pw_below_drewN | apply below_drew1 | refine below_set ?_ GE246.out | refine below_set ?_ GE258.out | refine below_set ?_ GE263.out | refine below_set ?_ GE270.out) | exact HB.out))))
              have n5_ := Aside0.mk (blk_below (g := gb246) (o := .cells #[.int .i64 a2_0, .slice A2_1 l2_1.length c2_1] 33 (0, 0)) (by (with_reducible repeat (first | refine blk_drewN ?_ _ | refine blk_drew ?_ | refine blk_alloc ?_ _)); exact BK246.out) hb)
              have n6_ := Aside0.mk (blk_below (g := gb258) (o := .cells #[.int .i64 t252, .int .i64 t253, .slice Ao45 t254.length co45] 36 (0, 0)) (by (with_reducible repeat (first | refine blk_drewN ?_ _ | refine blk_drew ?_ | refine blk_alloc ?_ _)); exact BK258.out) hb)
              have n7_ := Aside0.mk (blk_below (g := gb263) (o := .cells #[.int .i64 t259, .slice Ao52 t260.length co52] 39 (0, 0)) (by (with_reducible repeat (first | refine blk_drewN ?_ _ | refine blk_drew ?_ | refine blk_alloc ?_ _)); exact BK263.out) hb)
              have n8_ := Aside0.mk (blk_below (g := gb270) (o := .cells #[.int .i64 t264, .int .i64 t265, .slice Ao59 t266.length co59] 36 (0, 0)) (by (with_reducible repeat (first | refine blk_drewN ?_ _ | refine blk_drew ?_ | refine blk_alloc ?_ _)); exact BK270.out) hb)
              have n9_ := Aside0.mk (below_step (by repeat (first | (with_reducible first | exact HB.out | apply below_alloc | apply pw_below_drewN | apply below_drew1 | refine below_set ?_ GE246.out | refine below_set ?_ GE258.out | refine below_set ?_ GE263.out | refine below_set ?_ GE270.out) | exact HB.out)) hb)
              clear HO251
              clear HO256
              clear HO262
              clear HO268
              clear BK246
              clear BK258
              clear BK263
              clear BK270
              clear HB
              have HO251 := n0_
              have HO256 := n1_
              have HO262 := n2_
              have HO268 := n3_
              have HO275 := n4_
              have BK246 := n5_
              have BK258 := n6_
              have BK263 := n7_
              have BK270 := n8_
              have HB := n9_
              clear n0_ n1_ n2_ n3_ n4_ n5_ n6_ n7_ n8_ n9_
              (try clear hb)
              (try clear hb2)
              (try clear hk)
              (try clear hi)
              (try clear ho0)
              obtain ⟨Ao64, co64, eo64⟩ := Kd.R_slice HO275.out
              (first | subst eo64 | (injection eo64 with f1_ f2_ f3_; have f4_ := f1_.symm; have f5_ := f3_.symm; clear f1_ f2_ f3_; subst f4_; subst f5_))
              refine hK.out _ _ ⟨(blk_cell BK263.out 0).trans rfl, (blk_cell BK263.out 1).trans rfl, (blk_cell BK246.out 0).trans rfl, (blk_cell BK246.out 1).trans rfl⟩ (fun hHeld => ?_)
              clear hK K
              refine norm_ (a' := ?_) ?_ ?_
              rotate_left
              ·show Act.put _ (some 51) _ = _
               simp only [Act.put, List.setIfInBounds_toArray, List.set_cons_zero, List.set_cons_succ, i64_w]
               rfl
              refine one_ (i := 3) (N := some 52) #[true, true, true, true, false] rfl rfl (by kernel_rfl) (by decide) (fun K hK => ?_)
              refine goes_ Try.func25 (by kernel_rfl) rfl #[.agg #[.int .i64 t259, .slice Ao52 t260.length co52], .agg #[.int .i64 t272, .slice Ao64 t273.length co64]] (by rfl) rfl rfl (by (try simp only [List.map_toArray, List.map_cons, List.map_nil]); first | done | rfl | (simp only [List.length_drop, List.length_take]; rfl)) ?_
              with_reducible refine (laws_eqBits.calls k t259 _ _ t260 t272 _ _ t273 true _ ?side1 ?side2 ?side3 ?side4 A17.out).mono ?_
              (case side1 => repeat (first | exact (Kd.R_reads' HO262.out).2.2 | (with_reducible refine Kd.C_alloc ?_ _) | (with_reducible refine Kd.C_drewN ?_ _) | (with_reducible refine Kd.C_drew ?_)))
              (case side2 => exact (Kd.R_reads' HO262.out).2.1)
              (case side3 => repeat (first | exact (Kd.R_reads' HO275.out).2.2 | (with_reducible refine Kd.C_alloc ?_ _) | (with_reducible refine Kd.C_drewN ?_ _) | (with_reducible refine Kd.C_drew ?_)))
              (case side4 => exact (Kd.R_reads' HO275.out).2.1)
              rintro e w65 ⟨rfl, hb⟩
              refine ⟨_, rfl, ?_⟩
              have n0_ := Aside0.mk (Kd.R_below (by (with_reducible repeat (first | apply Kd.R_alloc | apply Kd.R_drewN | apply Kd.R_drew)); exact HO251.out) hb)
              have n1_ := Aside0.mk (Kd.R_below (by (with_reducible repeat (first | apply Kd.R_alloc | apply Kd.R_drewN | apply Kd.R_drew)); exact HO256.out) hb)
              have n2_ := Aside0.mk (Kd.R_below (by (with_reducible repeat (first | apply Kd.R_alloc | apply Kd.R_drewN | apply Kd.R_drew)); exact HO262.out) hb)
              have n3_ := Aside0.mk (Kd.R_below (by (with_reducible repeat (first | apply Kd.R_alloc | apply Kd.R_drewN | apply Kd.R_drew)); exact HO268.out) hb)
              have n4_ := Aside0.mk (Kd.R_below (by (with_reducible repeat (first | apply Kd.R_alloc | apply Kd.R_drewN | apply Kd.R_drew)); exact HO275.out) hb)
              have n5_ := Aside0.mk (blk_below (g := gb246) (o := .cells #[.int .i64 a2_0, .slice A2_1 l2_1.length c2_1] 33 (0, 0)) (by (with_reducible repeat (first | refine blk_drewN ?_ _ | refine blk_drew ?_ | refine blk_alloc ?_ _)); exact BK246.out) hb)
              have n6_ := Aside0.mk (blk_below (g := gb258) (o := .cells #[.int .i64 t252, .int .i64 t253, .slice Ao45 t254.length co45] 36 (0, 0)) (by (with_reducible repeat (first | refine blk_drewN ?_ _ | refine blk_drew ?_ | refine blk_alloc ?_ _)); exact BK258.out) hb)
              have n7_ := Aside0.mk (blk_below (g := gb263) (o := .cells #[.int .i64 t259, .slice Ao52 t260.length co52] 39 (0, 0)) (by (with_reducible repeat (first | refine blk_drewN ?_ _ | refine blk_drew ?_ | refine blk_alloc ?_ _)); exact BK263.out) hb)
              have n8_ := Aside0.mk (blk_below (g := gb270) (o := .cells #[.int .i64 t264, .int .i64 t265, .slice Ao59 t266.length co59] 36 (0, 0)) (by (with_reducible repeat (first | refine blk_drewN ?_ _ | refine blk_drew ?_ | refine blk_alloc ?_ _)); exact BK270.out) hb)
              have n9_ := Aside0.mk (below_step (by repeat (first | (with_reducible first | exact HB.out | apply below_alloc | apply pw_below_drewN | apply below_drew1 | refine below_set ?_ GE246.out | refine below_set ?_ GE258.out | refine below_set ?_ GE263.out | refine below_set ?_ GE270.out) | exact HB.out)) hb)
              clear HO251
              clear HO256
              clear HO262
              clear HO268
              clear HO275
              clear BK246
              clear BK258
              clear BK263
              clear BK270
              clear HB
              have HO251 := n0_
              have HO256 := n1_
              have HO262 := n2_
              have HO268 := n3_
              have HO275 := n4_
              have BK246 := n5_
              have BK258 := n6_
              have BK263 := n7_
              have BK270 := n8_
              have HB := n9_
              clear n0_ n1_ n2_ n3_ n4_ n5_ n6_ n7_ n8_ n9_
              (try clear hb)
              (try clear hb2)
              (try clear hk)
              (try clear hi)
              refine hK.out _ _ ⟨(blk_cell BK263.out 0).trans rfl, (blk_cell BK263.out 1).trans rfl, (blk_cell BK246.out 0).trans rfl, (blk_cell BK246.out 1).trans rfl⟩ (fun hHeld => ?_)
              clear hK K
              refine norm_ (a' := ?_) ?_ ?_
              rotate_left
              ·show Act.put _ (some 52) _ = _
               simp only [Act.put, List.setIfInBounds_toArray, List.set_cons_zero, List.set_cons_succ, i64_w]
               rfl
              refine pure_ (i := 4) (N := some 53) (v := ?_) (a' := ?_) #[true, true, true, true, true] rfl rfl (by kernel_rfl) (fun _ _ _ h => h) (Or.inl ⟨by rfl, ?_⟩) ?_ ?_
              rotate_left
              ·intro w'
               go_simp
               with_reducible rfl
              rotate_left
              ·simp only [Act.put, List.setIfInBounds_toArray, List.set_cons_zero, List.set_cons_succ, i64_w]
               rfl
              refine done_ (by kernel_rfl) ?_
              have hcz66_0 : w65.cell? ⟨gb263, 0, none⟩ = some (.int .i64 t259) := (blk_cell BK263.out 0).trans rfl
              have hcz66_1 : w65.cell? ⟨gb263, 1, none⟩ = some (.slice Ao52 t260.length co52) := (blk_cell BK263.out 1).trans rfl
              have hfz66_0 := blk_frozen BK263.out 0
              have hfz66_1 := blk_frozen BK263.out 1
              try go_wp2_with (first | ((with_reducible refine gate_callee (f := 26) rfl ?_); refine goesL_ (some 56) rfl rfl Try.func26 (by kernel_rfl) rfl #[.agg #[.int .i64 t259, .slice Ao52 t260.length co52], .int .i64 1] rfl (by (try simp only [List.map_toArray, List.map_cons, List.map_nil]); first | done | rfl | (simp only [List.length_drop, List.length_take]; rfl)) ?_; (with_reducible refine (laws_markBits.calls k t259 (fun k_ => some k_ = (.slice Ao52 t260.length co52 : Value).ownBlock) (.slice Ao52 t260.length co52) t260 1 t277 t278 w _ ?side1 ?side2 A19.out).mono ?_); (case side1 => repeat (first | (with_reducible first | exact HB.out | apply below_alloc | apply pw_below_drewN | apply below_drew1 | refine below_set ?_ GE246.out | refine below_set ?_ GE258.out | refine below_set ?_ GE263.out | refine below_set ?_ GE270.out) | exact HB.out)); (case side2 => exact Kd.R_tight rfl HO262.out); rintro e w67 ⟨rfl, hy0, hb, hkp⟩; refine ⟨_, rfl, ?_⟩; have n0_ := Aside0.mk (blk_kept (by (with_reducible repeat (first | refine blk_drewN ?_ _ | refine blk_drew ?_ | refine blk_alloc ?_ _)); exact BK246.out) hkp (fun hs_ => (fun e_ => (Kd.R_ne HO262.out BK246.out (by decide)) e_) hs_)); have n1_ := Aside0.mk (Kd.R_mono (ok' := fun k_ => some k_ ≠ (.slice Ao45 t254.length co45 : Value).ownBlock ∧ some k_ ≠ (.slice Ao52 t260.length co52 : Value).ownBlock ∧ some k_ ≠ (.slice Ao59 t266.length co59 : Value).ownBlock ∧ some k_ ≠ (.slice Ao64 t273.length co64 : Value).ownBlock) (Kd.R_keptB (HO251.out) hkp (fun k_ hk_ hs_ => (hk_.1.1.2) hs_)) (fun k_ hk_ => ⟨hk_.1.1.1.1.2, hk_.1.1.1.2, hk_.1.1.2, hk_.1.2⟩)); have n2_ := Aside0.mk (Kd.R_mono (ok' := fun k_ => some k_ ≠ (.slice Ao40 t249.length co40 : Value).ownBlock ∧ some k_ ≠ (.slice Ao52 t260.length co52 : Value).ownBlock ∧ some k_ ≠ (.slice Ao59 t266.length co59 : Value).ownBlock ∧ some k_ ≠ (.slice Ao64 t273.length co64 : Value).ownBlock) (Kd.R_keptB (HO256.out) hkp (fun k_ hk_ hs_ => (hk_.1.1.2) hs_)) (fun k_ hk_ => ⟨hk_.1.1.1.1.2, hk_.1.1.1.2, hk_.1.1.2, hk_.1.2⟩)); have n3_ := Aside0.mk (blk_kept (by (with_reducible repeat (first | refine blk_drewN ?_ _ | refine blk_drew ?_ | refine blk_alloc ?_ _)); exact BK258.out) hkp (fun hs_ => (fun e_ => (Kd.R_ne HO262.out BK258.out (by decide)) e_) hs_)); have n4_ := Aside0.mk (Kd.R_reok rfl hy0 (fun k_ e_ => HO262.out.1 k_ e_)); have n5_ := Aside0.mk (blk_kept (by (with_reducible repeat (first | refine blk_drewN ?_ _ | refine blk_drew ?_ | refine blk_alloc ?_ _)); exact BK263.out) hkp (fun hs_ => (fun e_ => (Kd.R_ne HO262.out BK263.out (by decide)) e_) hs_)); have n6_ := Aside0.mk (Kd.R_mono (ok' := fun k_ => some k_ ≠ (.slice Ao40 t249.length co40 : Value).ownBlock ∧ some k_ ≠ (.slice Ao45 t254.length co45 : Value).ownBlock ∧ some k_ ≠ (.slice Ao52 t260.length co52 : Value).ownBlock ∧ some k_ ≠ (.slice Ao64 t273.length co64 : Value).ownBlock) (Kd.R_keptB (HO268.out) hkp (fun k_ hk_ hs_ => (hk_.1.2) hs_)) (fun k_ hk_ => ⟨hk_.1.1.1.1.2, hk_.1.1.1.2, hk_.1.1.2, hk_.1.2⟩)); have n7_ := Aside0.mk (blk_kept (by (with_reducible repeat (first | refine blk_drewN ?_ _ | refine blk_drew ?_ | refine blk_alloc ?_ _)); exact BK270.out) hkp (fun hs_ => (fun e_ => (Kd.R_ne HO262.out BK270.out (by decide)) e_) hs_)); have n8_ := Aside0.mk (Kd.R_mono (ok' := fun k_ => some k_ ≠ (.slice Ao40 t249.length co40 : Value).ownBlock ∧ some k_ ≠ (.slice Ao45 t254.length co45 : Value).ownBlock ∧ some k_ ≠ (.slice Ao52 t260.length co52 : Value).ownBlock ∧ some k_ ≠ (.slice Ao59 t266.length co59 : Value).ownBlock) (Kd.R_keptB (HO275.out) hkp (fun k_ hk_ hs_ => (hk_.1.2) hs_)) (fun k_ hk_ => ⟨hk_.1.1.1.1.2, hk_.1.1.1.2, hk_.1.1.2, hk_.1.2⟩)); have n9_ := Aside0.mk (hb); clear BK246; clear HO251; clear HO256; clear BK258; clear HO262; clear BK263; clear HO268; clear BK270; clear HO275; clear HB; have BK246 := n0_; have HO251 := n1_; have HO256 := n2_; have BK258 := n3_; have HO262 := n4_; have BK263 := n5_; have HO268 := n6_; have BK270 := n7_; have HO275 := n8_; have HB := n9_; clear n0_ n1_ n2_ n3_ n4_ n5_ n6_ n7_ n8_ n9_; (try clear hb); (try clear hkp); (try clear hy0); have hcz68_0 : w67.cell? ⟨gb270, 0, none⟩ = some (.int .i64 t264) := (blk_cell BK270.out 0).trans rfl; have hcz68_1 : w67.cell? ⟨gb270, 1, none⟩ = some (.int .i64 t265) := (blk_cell BK270.out 1).trans rfl; have hcz68_2 : w67.cell? ⟨gb270, 2, none⟩ = some (.slice Ao59 t266.length co59) := (blk_cell BK270.out 2).trans rfl; have hfz68_0 := blk_frozen BK270.out 0; have hfz68_1 := blk_frozen BK270.out 1; have hfz68_2 := blk_frozen BK270.out 2; have hcz69_0 : w67.cell? ⟨gb258, 0, none⟩ = some (.int .i64 t252) := (blk_cell BK258.out 0).trans rfl; have hcz69_1 : w67.cell? ⟨gb258, 1, none⟩ = some (.int .i64 t253) := (blk_cell BK258.out 1).trans rfl; have hcz69_2 : w67.cell? ⟨gb258, 2, none⟩ = some (.slice Ao45 t254.length co45) := (blk_cell BK258.out 2).trans rfl; have hfz69_0 := blk_frozen BK258.out 0; have hfz69_1 := blk_frozen BK258.out 1; have hfz69_2 := blk_frozen BK258.out 2) | (go_at_call 24; (with_reducible refine (laws_eqPeeled.calls k t264 t265 _ _ t266 t252 t253 _ _ t254 true _ ?side1 ?side2 ?side3 ?side4 A21.out).mono ?_); (case side1 => repeat (first | exact (Kd.R_reads' HO268.out).2.2 | (with_reducible refine Kd.C_alloc ?_ _) | (with_reducible refine Kd.C_drewN ?_ _) | (with_reducible refine Kd.C_drew ?_))); (case side2 => exact (Kd.R_reads' HO268.out).2.1); (case side3 => repeat (first | exact (Kd.R_reads' HO256.out).2.2 | (with_reducible refine Kd.C_alloc ?_ _) | (with_reducible refine Kd.C_drewN ?_ _) | (with_reducible refine Kd.C_drew ?_))); (case side4 => exact (Kd.R_reads' HO256.out).2.1); rintro e w70 ⟨rfl, hb⟩; have n0_ := Aside0.mk (Kd.R_below (by (with_reducible repeat (first | apply Kd.R_alloc | apply Kd.R_drewN | apply Kd.R_drew)); exact HO251.out) hb); have n1_ := Aside0.mk (Kd.R_below (by (with_reducible repeat (first | apply Kd.R_alloc | apply Kd.R_drewN | apply Kd.R_drew)); exact HO256.out) hb); have n2_ := Aside0.mk (Kd.R_below (by (with_reducible repeat (first | apply Kd.R_alloc | apply Kd.R_drewN | apply Kd.R_drew)); exact HO262.out) hb); have n3_ := Aside0.mk (Kd.R_below (by (with_reducible repeat (first | apply Kd.R_alloc | apply Kd.R_drewN | apply Kd.R_drew)); exact HO268.out) hb); have n4_ := Aside0.mk (Kd.R_below (by (with_reducible repeat (first | apply Kd.R_alloc | apply Kd.R_drewN | apply Kd.R_drew)); exact HO275.out) hb); have n5_ := Aside0.mk (blk_below (g := gb246) (o := .cells #[.int .i64 a2_0, .slice A2_1 l2_1.length c2_1] 33 (0, 0)) (by (with_reducible repeat (first | refine blk_drewN ?_ _ | refine blk_drew ?_ | refine blk_alloc ?_ _)); exact BK246.out) hb); have n6_ := Aside0.mk (blk_below (g := gb258) (o := .cells #[.int .i64 t252, .int .i64 t253, .slice Ao45 t254.length co45] 36 (0, 0)) (by (with_reducible repeat (first | refine blk_drewN ?_ _ | refine blk_drew ?_ | refine blk_alloc ?_ _)); exact BK258.out) hb); have n7_ := Aside0.mk (blk_below (g := gb263) (o := .cells #[.int .i64 t259, .slice Ao52 t260.length co52] 39 (0, 0)) (by (with_reducible repeat (first | refine blk_drewN ?_ _ | refine blk_drew ?_ | refine blk_alloc ?_ _)); exact BK263.out) hb); have n8_ := Aside0.mk (blk_below (g := gb270) (o := .cells #[.int .i64 t264, .int .i64 t265, .slice Ao59 t266.length co59] 36 (0, 0)) (by (with_reducible repeat (first | refine blk_drewN ?_ _ | refine blk_drew ?_ | refine blk_alloc ?_ _)); exact BK270.out) hb); have n9_ := Aside0.mk (below_step (by repeat (first | (with_reducible first | exact HB.out | apply below_alloc | apply pw_below_drewN | apply below_drew1 | refine below_set ?_ GE246.out | refine below_set ?_ GE258.out | refine below_set ?_ GE263.out | refine below_set ?_ GE270.out) | exact HB.out)) hb); clear HO251; clear HO256; clear HO262; clear HO268; clear HO275; clear BK246; clear BK258; clear BK263; clear BK270; clear HB; have HO251 := n0_; have HO256 := n1_; have HO262 := n2_; have HO268 := n3_; have HO275 := n4_; have BK246 := n5_; have BK258 := n6_; have BK263 := n7_; have BK270 := n8_; have HB := n9_; clear n0_ n1_ n2_ n3_ n4_ n5_ n6_ n7_ n8_ n9_; (try clear hb); (try clear hb2); (try clear hk); (try clear hi); have hcz71_0 : w70.cell? ⟨gb270, 0, none⟩ = some (.int .i64 t264) := (blk_cell BK270.out 0).trans rfl; have hcz71_1 : w70.cell? ⟨gb270, 1, none⟩ = some (.int .i64 t265) := (blk_cell BK270.out 1).trans rfl; have hcz71_2 : w70.cell? ⟨gb270, 2, none⟩ = some (.slice Ao59 t266.length co59) := (blk_cell BK270.out 2).trans rfl; have hfz71_0 := blk_frozen BK270.out 0; have hfz71_1 := blk_frozen BK270.out 1; have hfz71_2 := blk_frozen BK270.out 2) | ((with_reducible refine gate_callee (f := 27) rfl ?_); refine goesL_ (some 72) rfl rfl Try.func27 (by kernel_rfl) rfl #[.agg #[.int .i64 t264, .int .i64 t265, .slice Ao59 t266.length co59], .int .i64 1] rfl (by (try simp only [List.map_toArray, List.map_cons, List.map_nil]); first | done | rfl | (simp only [List.length_drop, List.length_take]; rfl)) ?_; (with_reducible refine (laws_markPeeled.calls k t264 t265 (fun k_ => some k_ = (.slice Ao59 t266.length co59 : Value).ownBlock) (.slice Ao59 t266.length co59) t266 1 t280 t281 w _ ?side1 ?side2 A23.out).mono ?_); (case side1 => repeat (first | (with_reducible first | exact HB.out | apply below_alloc | apply pw_below_drewN | apply below_drew1 | refine below_set ?_ GE246.out | refine below_set ?_ GE258.out | refine below_set ?_ GE263.out | refine below_set ?_ GE270.out) | exact HB.out)); (case side2 => exact Kd.R_tight rfl HO268.out); rintro e w72 ⟨rfl, hy0, hb, hkp⟩; refine ⟨_, rfl, ?_⟩; have n0_ := Aside0.mk (blk_kept (by (with_reducible repeat (first | refine blk_drewN ?_ _ | refine blk_drew ?_ | refine blk_alloc ?_ _)); exact BK246.out) hkp (fun hs_ => (fun e_ => (Kd.R_ne HO268.out BK246.out (by decide)) e_) hs_)); have n1_ := Aside0.mk (Kd.R_mono (ok' := fun k_ => some k_ ≠ (.slice Ao45 t254.length co45 : Value).ownBlock ∧ some k_ ≠ (.slice Ao52 t260.length co52 : Value).ownBlock ∧ some k_ ≠ (.slice Ao59 t266.length co59 : Value).ownBlock ∧ some k_ ≠ (.slice Ao64 t273.length co64 : Value).ownBlock) (Kd.R_keptB (HO251.out) hkp (fun k_ hk_ hs_ => (hk_.2.2.1) hs_)) (fun k_ hk_ => ⟨hk_.1.1, hk_.1.2.1, hk_.1.2.2.1, hk_.1.2.2.2⟩)); have n2_ := Aside0.mk (Kd.R_mono (ok' := fun k_ => some k_ ≠ (.slice Ao40 t249.length co40 : Value).ownBlock ∧ some k_ ≠ (.slice Ao52 t260.length co52 : Value).ownBlock ∧ some k_ ≠ (.slice Ao59 t266.length co59 : Value).ownBlock ∧ some k_ ≠ (.slice Ao64 t273.length co64 : Value).ownBlock) (Kd.R_keptB (HO256.out) hkp (fun k_ hk_ hs_ => (hk_.2.2.1) hs_)) (fun k_ hk_ => ⟨hk_.1.1, hk_.1.2.1, hk_.1.2.2.1, hk_.1.2.2.2⟩)); have n3_ := Aside0.mk (blk_kept (by (with_reducible repeat (first | refine blk_drewN ?_ _ | refine blk_drew ?_ | refine blk_alloc ?_ _)); exact BK258.out) hkp (fun hs_ => (fun e_ => (Kd.R_ne HO268.out BK258.out (by decide)) e_) hs_)); have n4_ := Aside0.mk (Kd.R_mono (ok' := fun k_ => some k_ ≠ (.slice Ao40 t249.length co40 : Value).ownBlock ∧ some k_ ≠ (.slice Ao45 t254.length co45 : Value).ownBlock ∧ some k_ ≠ (.slice Ao59 t266.length co59 : Value).ownBlock ∧ some k_ ≠ (.slice Ao64 t273.length co64 : Value).ownBlock) (Kd.R_keptB (HO262.out) hkp (fun k_ hk_ hs_ => (hk_.1.2) hs_)) (fun k_ hk_ => ⟨hk_.1.1.1.1.2, hk_.1.1.1.2, hk_.1.1.2, hk_.1.2⟩)); have n5_ := Aside0.mk (blk_kept (by (with_reducible repeat (first | refine blk_drewN ?_ _ | refine blk_drew ?_ | refine blk_alloc ?_ _)); exact BK263.out) hkp (fun hs_ => (fun e_ => (Kd.R_ne HO268.out BK263.out (by decide)) e_) hs_)); have n6_ := Aside0.mk (Kd.R_reok rfl hy0 (fun k_ e_ => HO268.out.1 k_ e_)); have n7_ := Aside0.mk (blk_kept (by (with_reducible repeat (first | refine blk_drewN ?_ _ | refine blk_drew ?_ | refine blk_alloc ?_ _)); exact BK270.out) hkp (fun hs_ => (fun e_ => (Kd.R_ne HO268.out BK270.out (by decide)) e_) hs_)); have n8_ := Aside0.mk (Kd.R_mono (ok' := fun k_ => some k_ ≠ (.slice Ao40 t249.length co40 : Value).ownBlock ∧ some k_ ≠ (.slice Ao45 t254.length co45 : Value).ownBlock ∧ some k_ ≠ (.slice Ao52 t260.length co52 : Value).ownBlock ∧ some k_ ≠ (.slice Ao59 t266.length co59 : Value).ownBlock) (Kd.R_keptB (HO275.out) hkp (fun k_ hk_ hs_ => (hk_.2.2.2) hs_)) (fun k_ hk_ => ⟨hk_.1.1, hk_.1.2.1, hk_.1.2.2.1, hk_.1.2.2.2⟩)); have n9_ := Aside0.mk (hb); clear BK246; clear HO251; clear HO256; clear BK258; clear HO262; clear BK263; clear HO268; clear BK270; clear HO275; clear HB; have BK246 := n0_; have HO251 := n1_; have HO256 := n2_; have BK258 := n3_; have HO262 := n4_; have BK263 := n5_; have HO268 := n6_; have BK270 := n7_; have HO275 := n8_; have HB := n9_; clear n0_ n1_ n2_ n3_ n4_ n5_ n6_ n7_ n8_ n9_; (try clear hb); (try clear hkp); (try clear hy0); have hcz73_0 : w72.cell? ⟨gb270, 0, none⟩ = some (.int .i64 t264) := (blk_cell BK270.out 0).trans rfl; have hcz73_1 : w72.cell? ⟨gb270, 1, none⟩ = some (.int .i64 t265) := (blk_cell BK270.out 1).trans rfl; have hcz73_2 : w72.cell? ⟨gb270, 2, none⟩ = some (.slice Ao59 t266.length co59) := (blk_cell BK270.out 2).trans rfl; have hfz73_0 := blk_frozen BK270.out 0; have hfz73_1 := blk_frozen BK270.out 1; have hfz73_2 := blk_frozen BK270.out 2) | ((with_reducible refine gate_callee (f := 28) rfl ?_); refine goesL_ (some 75) rfl rfl Try.func28 (by kernel_rfl) rfl #[.agg #[.int .i64 t264, .int .i64 t265, .slice Ao59 t281.length co59], .int .i64 1] rfl (by (try simp only [List.map_toArray, List.map_cons, List.map_nil]); first | done | (rw [show t281.length = t266.length from (Kd.R_reads' HO268.out).1.symm] <;> rfl) | rfl | (simp only [List.length_drop, List.length_take]; rfl)) ?_; (with_reducible refine (laws_heldPeeled.calls k t264 t265 _ _ t281 1 t282 _ ?side1 ?side2 A24.out).mono ?_); (case side1 => repeat (first | exact (Kd.R_reads' HO268.out).2.2 | (with_reducible refine Kd.C_alloc ?_ _) | (with_reducible refine Kd.C_drewN ?_ _) | (with_reducible refine Kd.C_drew ?_))); (case side2 => rw [show t281.length = t266.length from (Kd.R_reads' HO268.out).1.symm]; exact (Kd.R_reads' HO268.out).2.1); rintro e w74 ⟨rfl, hb⟩; refine ⟨_, rfl, ?_⟩; have n0_ := Aside0.mk (Kd.R_below (by (with_reducible repeat (first | apply Kd.R_alloc | apply Kd.R_drewN | apply Kd.R_drew)); exact HO251.out) hb); have n1_ := Aside0.mk (Kd.R_below (by (with_reducible repeat (first | apply Kd.R_alloc | apply Kd.R_drewN | apply Kd.R_drew)); exact HO256.out) hb); have n2_ := Aside0.mk (Kd.R_below (by (with_reducible repeat (first | apply Kd.R_alloc | apply Kd.R_drewN | apply Kd.R_drew)); exact HO262.out) hb); have n3_ := Aside0.mk (Kd.R_below (by (with_reducible repeat (first | apply Kd.R_alloc | apply Kd.R_drewN | apply Kd.R_drew)); exact HO268.out) hb); have n4_ := Aside0.mk (Kd.R_below (by (with_reducible repeat (first | apply Kd.R_alloc | apply Kd.R_drewN | apply Kd.R_drew)); exact HO275.out) hb); have n5_ := Aside0.mk (blk_below (g := gb246) (o := .cells #[.int .i64 a2_0, .slice A2_1 l2_1.length c2_1] 33 (0, 0)) (by (with_reducible repeat (first | refine blk_drewN ?_ _ | refine blk_drew ?_ | refine blk_alloc ?_ _)); exact BK246.out) hb); have n6_ := Aside0.mk (blk_below (g := gb258) (o := .cells #[.int .i64 t252, .int .i64 t253, .slice Ao45 t254.length co45] 36 (0, 0)) (by (with_reducible repeat (first | refine blk_drewN ?_ _ | refine blk_drew ?_ | refine blk_alloc ?_ _)); exact BK258.out) hb); have n7_ := Aside0.mk (blk_below (g := gb263) (o := .cells #[.int .i64 t259, .slice Ao52 t260.length co52] 39 (0, 0)) (by (with_reducible repeat (first | refine blk_drewN ?_ _ | refine blk_drew ?_ | refine blk_alloc ?_ _)); exact BK263.out) hb); have n8_ := Aside0.mk (blk_below (g := gb270) (o := .cells #[.int .i64 t264, .int .i64 t265, .slice Ao59 t266.length co59] 36 (0, 0)) (by (with_reducible repeat (first | refine blk_drewN ?_ _ | refine blk_drew ?_ | refine blk_alloc ?_ _)); exact BK270.out) hb); have n9_ := Aside0.mk (below_step (by repeat (first | (with_reducible first | exact HB.out | apply below_alloc | apply pw_below_drewN | apply below_drew1 | refine below_set ?_ GE246.out | refine below_set ?_ GE258.out | refine below_set ?_ GE263.out | refine below_set ?_ GE270.out) | exact HB.out)) hb); clear HO251; clear HO256; clear HO262; clear HO268; clear HO275; clear BK246; clear BK258; clear BK263; clear BK270; clear HB; have HO251 := n0_; have HO256 := n1_; have HO262 := n2_; have HO268 := n3_; have HO275 := n4_; have BK246 := n5_; have BK258 := n6_; have BK263 := n7_; have BK270 := n8_; have HB := n9_; clear n0_ n1_ n2_ n3_ n4_ n5_ n6_ n7_ n8_ n9_; (try clear hb); (try clear hb2); (try clear hk); (try clear hi); have hcz75_0 : w74.cell? ⟨gb246, 0, none⟩ = some (.int .i64 a2_0) := (blk_cell BK246.out 0).trans rfl; have hcz75_1 : w74.cell? ⟨gb246, 1, none⟩ = some (.slice A2_1 l2_1.length c2_1) := (blk_cell BK246.out 1).trans rfl; have hfz75_0 := blk_frozen BK246.out 0; have hfz75_1 := blk_frozen BK246.out 1) | ((with_reducible refine gate_callee (f := 22) rfl ?_); refine goesL_ (some 85) rfl rfl Try.func22 (by kernel_rfl) rfl #[.agg #[.int .i64 a2_0, .slice A2_1 l2_1.length c2_1]] rfl (by (try simp only [List.map_toArray, List.map_cons, List.map_nil]); first | done | rfl | (simp only [List.length_drop, List.length_take]; rfl)) ?_; (with_reducible refine (laws_toBits.calls k a2_0 _ _ l2_1 t283 t284 _ ?side1 ?side2 A27.out).mono ?_); (case side1 => repeat (first | exact (Kd.C_below HR2_1.out HB.out) | (with_reducible refine Kd.C_alloc ?_ _) | (with_reducible refine Kd.C_drewN ?_ _) | (with_reducible refine Kd.C_drew ?_))); (case side2 => exact HC2_1.out); rintro e w76 ⟨v285, rfl, ho0, hb⟩; refine ⟨_, rfl, ?_⟩; have n0_ := Aside0.mk (Kd.R_elder' (by (with_reducible repeat (first | apply Kd.R_alloc | apply Kd.R_drewN | apply Kd.R_drew)); exact HO251.out) (Kd.R_base ho0) hb); have n1_ := Aside0.mk (Kd.R_elder' (by (with_reducible repeat (first | apply Kd.R_alloc | apply Kd.R_drewN | apply Kd.R_drew)); exact HO256.out) (Kd.R_base ho0) hb); have n2_ := Aside0.mk (Kd.R_elder' (by (with_reducible repeat (first | apply Kd.R_alloc | apply Kd.R_drewN | apply Kd.R_drew)); exact HO262.out) (Kd.R_base ho0) hb); have n3_ := Aside0.mk (Kd.R_elder' (by (with_reducible repeat (first | apply Kd.R_alloc | apply Kd.R_drewN | apply Kd.R_drew)); exact HO268.out) (Kd.R_base ho0) hb); have n4_ := Aside0.mk (Kd.R_elder' (by (with_reducible repeat (first | apply Kd.R_alloc | apply Kd.R_drewN | apply Kd.R_drew)); exact HO275.out) (Kd.R_base ho0) hb); have n5_ := Aside0.mk (Kd.R_lower (Kd.R_new' (Kd.R_new' (Kd.R_new' (Kd.R_new' (Kd.R_new' ho0 (Kd.R_lt (by (with_reducible repeat (first | apply Kd.R_alloc | apply Kd.R_drewN | apply Kd.R_drew)); exact HO251.out))) (Kd.R_lt (by (with_reducible repeat (first | apply Kd.R_alloc | apply Kd.R_drewN | apply Kd.R_drew)); exact HO256.out))) (Kd.R_lt (by (with_reducible repeat (first | apply Kd.R_alloc | apply Kd.R_drewN | apply Kd.R_drew)); exact HO262.out))) (Kd.R_lt (by (with_reducible repeat (first | apply Kd.R_alloc | apply Kd.R_drewN | apply Kd.R_drew)); exact HO268.out))) (Kd.R_lt (by (with_reducible repeat (first | apply Kd.R_alloc | apply Kd.R_drewN | apply Kd.R_drew)); exact HO275.out))) (below_size (by repeat (first | (with_reducible first | exact HB.out | apply below_alloc | apply pw_below_drewN | apply below_drew1 | refine below_set ?_ GE246.out | refine below_set ?_ GE258.out | refine below_set ?_ GE263.out | refine below_set ?_ GE270.out) | exact HB.out)))); have n6_ := Aside0.mk (blk_below (g := gb246) (o := .cells #[.int .i64 a2_0, .slice A2_1 l2_1.length c2_1] 33 (0, 0)) (by (with_reducible repeat (first | refine blk_drewN ?_ _ | refine blk_drew ?_ | refine blk_alloc ?_ _)); exact BK246.out) hb); have n7_ := Aside0.mk (blk_below (g := gb258) (o := .cells #[.int .i64 t252, .int .i64 t253, .slice Ao45 t254.length co45] 36 (0, 0)) (by (with_reducible repeat (first | refine blk_drewN ?_ _ | refine blk_drew ?_ | refine blk_alloc ?_ _)); exact BK258.out) hb); have n8_ := Aside0.mk (blk_below (g := gb263) (o := .cells #[.int .i64 t259, .slice Ao52 t260.length co52] 39 (0, 0)) (by (with_reducible repeat (first | refine blk_drewN ?_ _ | refine blk_drew ?_ | refine blk_alloc ?_ _)); exact BK263.out) hb); have n9_ := Aside0.mk (blk_below (g := gb270) (o := .cells #[.int .i64 t264, .int .i64 t265, .slice Ao59 t266.length co59] 36 (0, 0)) (by (with_reducible repeat (first | refine blk_drewN ?_ _ | refine blk_drew ?_ | refine blk_alloc ?_ _)); exact BK270.out) hb); have n10_ := Aside0.mk (below_step (by repeat (first | (with_reducible first | exact HB.out | apply below_alloc | apply pw_below_drewN | apply below_drew1 | refine below_set ?_ GE246.out | refine below_set ?_ GE258.out | refine below_set ?_ GE263.out | refine below_set ?_ GE270.out) | exact HB.out)) hb); clear HO251; clear HO256; clear HO262; clear HO268; clear HO275; clear BK246; clear BK258; clear BK263; clear BK270; clear HB; have HO251 := n0_; have HO256 := n1_; have HO262 := n2_; have HO268 := n3_; have HO275 := n4_; have HO286 := n5_; have BK246 := n6_; have BK258 := n7_; have BK263 := n8_; have BK270 := n9_; have HB := n10_; clear n0_ n1_ n2_ n3_ n4_ n5_ n6_ n7_ n8_ n9_ n10_; (try clear hb); (try clear hb2); (try clear hk); (try clear hi); (try clear ho0); obtain ⟨Ao77, co77, eo77⟩ := Kd.R_slice HO286.out; subst eo77) | ((with_reducible refine gate_callee (f := 23) rfl ?_); refine goesL_ (some 86) rfl rfl Try.func23 (by kernel_rfl) rfl #[.int .i64 a0, .int .i64 a1, .agg #[.int .i64 t283, .slice Ao77 t284.length co77]] rfl (by (try simp only [List.map_toArray, List.map_cons, List.map_nil]); first | done | rfl | (simp only [List.length_drop, List.length_take]; rfl)) ?_; (with_reducible refine (impl_UnpackMarks.calls k a0 a1 t283 _ _ t284 t287 t288 t289 t292 _ ?side1 ?side2 A28.out).mono ?_); (case side1 => repeat (first | exact (Kd.R_reads' HO286.out).2.2 | (with_reducible refine Kd.C_alloc ?_ _) | (with_reducible refine Kd.C_drewN ?_ _) | (with_reducible refine Kd.C_drew ?_))); (case side2 => exact (Kd.R_reads' HO286.out).2.1); rintro e w78 ⟨v290, rfl, ho0, hb⟩; refine ⟨_, rfl, ?_⟩; have n0_ := Aside0.mk (Kd.R_elder' (by (with_reducible repeat (first | apply Kd.R_alloc | apply Kd.R_drewN | apply Kd.R_drew)); exact HO251.out) (Kd.R_base ho0) hb); have n1_ := Aside0.mk (Kd.R_elder' (by (with_reducible repeat (first | apply Kd.R_alloc | apply Kd.R_drewN | apply Kd.R_drew)); exact HO256.out) (Kd.R_base ho0) hb); have n2_ := Aside0.mk (Kd.R_elder' (by (with_reducible repeat (first | apply Kd.R_alloc | apply Kd.R_drewN | apply Kd.R_drew)); exact HO262.out) (Kd.R_base ho0) hb); have n3_ := Aside0.mk (Kd.R_elder' (by (with_reducible repeat (first | apply Kd.R_alloc | apply Kd.R_drewN | apply Kd.R_drew)); exact HO268.out) (Kd.R_base ho0) hb); have n4_ := Aside0.mk (Kd.R_elder' (by (with_reducible repeat (first | apply Kd.R_alloc | apply Kd.R_drewN | apply Kd.R_drew)); exact HO275.out) (Kd.R_base ho0) hb); have n5_ := Aside0.mk (Kd.R_elder' (by (with_reducible repeat (first | apply Kd.R_alloc | apply Kd.R_drewN | apply Kd.R_drew)); exact HO286.out) (Kd.R_base ho0) hb); have n6_ := Aside0.mk (Kd.R_lower (Kd.R_new' (Kd.R_new' (Kd.R_new' (Kd.R_new' (Kd.R_new' (Kd.R_new' ho0 (Kd.R_lt (by (with_reducible repeat (first | apply Kd.R_alloc | apply Kd.R_drewN | apply Kd.R_drew)); exact HO251.out))) (Kd.R_lt (by (with_reducible repeat (first | apply Kd.R_alloc | apply Kd.R_drewN | apply Kd.R_drew)); exact HO256.out))) (Kd.R_lt (by (with_reducible repeat (first | apply Kd.R_alloc | apply Kd.R_drewN | apply Kd.R_drew)); exact HO262.out))) (Kd.R_lt (by (with_reducible repeat (first | apply Kd.R_alloc | apply Kd.R_drewN | apply Kd.R_drew)); exact HO268.out))) (Kd.R_lt (by (with_reducible repeat (first | apply Kd.R_alloc | apply Kd.R_drewN | apply Kd.R_drew)); exact HO275.out))) (Kd.R_lt (by (with_reducible repeat (first | apply Kd.R_alloc | apply Kd.R_drewN | apply Kd.R_drew)); exact HO286.out))) (below_size (by repeat (first | (with_reducible first | exact HB.out | apply below_alloc | apply pw_below_drewN | apply below_drew1 | refine below_set ?_ GE246.out | refine below_set ?_ GE258.out | refine below_set ?_ GE263.out | refine below_set ?_ GE270.out) | exact HB.out)))); have n7_ := Aside0.mk (blk_below (g := gb246) (o := .cells #[.int .i64 a2_0, .slice A2_1 l2_1.length c2_1] 33 (0, 0)) (by (with_reducible repeat (first | refine blk_drewN ?_ _ | refine blk_drew ?_ | refine blk_alloc ?_ _)); exact BK246.out) hb); have n8_ := Aside0.mk (blk_below (g := gb258) (o := .cells #[.int .i64 t252, .int .i64 t253, .slice Ao45 t254.length co45] 36 (0, 0)) (by (with_reducible repeat (first | refine blk_drewN ?_ _ | refine blk_drew ?_ | refine blk_alloc ?_ _)); exact BK258.out) hb); have n9_ := Aside0.mk (blk_below (g := gb263) (o := .cells #[.int .i64 t259, .slice Ao52 t260.length co52] 39 (0, 0)) (by (with_reducible repeat (first | refine blk_drewN ?_ _ | refine blk_drew ?_ | refine blk_alloc ?_ _)); exact BK263.out) hb); have n10_ := Aside0.mk (blk_below (g := gb270) (o := .cells #[.int .i64 t264, .int .i64 t265, .slice Ao59 t266.length co59] 36 (0, 0)) (by (with_reducible repeat (first | refine blk_drewN ?_ _ | refine blk_drew ?_ | refine blk_alloc ?_ _)); exact BK270.out) hb); have n11_ := Aside0.mk (below_step (by repeat (first | (with_reducible first | exact HB.out | apply below_alloc | apply pw_below_drewN | apply below_drew1 | refine below_set ?_ GE246.out | refine below_set ?_ GE258.out | refine below_set ?_ GE263.out | refine below_set ?_ GE270.out) | exact HB.out)) hb); clear HO251; clear HO256; clear HO262; clear HO268; clear HO275; clear HO286; clear BK246; clear BK258; clear BK263; clear BK270; clear HB; have HO251 := n0_; have HO256 := n1_; have HO262 := n2_; have HO268 := n3_; have HO275 := n4_; have HO286 := n5_; have HO291 := n6_; have BK246 := n7_; have BK258 := n8_; have BK263 := n9_; have BK270 := n10_; have HB := n11_; clear n0_ n1_ n2_ n3_ n4_ n5_ n6_ n7_ n8_ n9_ n10_ n11_; (try clear hb); (try clear hb2); (try clear hk); (try clear hi); (try clear ho0)) | ((with_reducible refine gate_dst (N := 16) rfl ?_); refine box_event ?hg (N := 16) ?hd (cs := #[.int .i64 0, .int .i64 0, .slice none 0 0]) (t := 36) ?hr ?_; (case hd => rfl); (case hg => rfl); (case hr => first | (go_simp; done) | (go_simp; rfl)); intro gb293 hg w79 hbox hb; have n0_ := Aside0.mk (Kd.R_below (by (with_reducible repeat (first | apply Kd.R_alloc | apply Kd.R_drewN | apply Kd.R_drew)); exact HO251.out) hb); have n1_ := Aside0.mk (Kd.R_below (by (with_reducible repeat (first | apply Kd.R_alloc | apply Kd.R_drewN | apply Kd.R_drew)); exact HO256.out) hb); have n2_ := Aside0.mk (Kd.R_below (by (with_reducible repeat (first | apply Kd.R_alloc | apply Kd.R_drewN | apply Kd.R_drew)); exact HO262.out) hb); have n3_ := Aside0.mk (Kd.R_below (by (with_reducible repeat (first | apply Kd.R_alloc | apply Kd.R_drewN | apply Kd.R_drew)); exact HO268.out) hb); have n4_ := Aside0.mk (Kd.R_below (by (with_reducible repeat (first | apply Kd.R_alloc | apply Kd.R_drewN | apply Kd.R_drew)); exact HO275.out) hb); have n5_ := Aside0.mk (Kd.R_below (by (with_reducible repeat (first | apply Kd.R_alloc | apply Kd.R_drewN | apply Kd.R_drew)); exact HO286.out) hb); have n6_ := Aside0.mk (Kd.R_below (by (with_reducible repeat (first | apply Kd.R_alloc | apply Kd.R_drewN | apply Kd.R_drew)); exact HO291.out) hb); have n7_ := Aside0.mk (blk_below (g := gb246) (o := .cells #[.int .i64 a2_0, .slice A2_1 l2_1.length c2_1] 33 (0, 0)) (by (with_reducible repeat (first | refine blk_drewN ?_ _ | refine blk_drew ?_ | refine blk_alloc ?_ _)); exact BK246.out) hb); have n8_ := Aside0.mk (blk_below (g := gb258) (o := .cells #[.int .i64 t252, .int .i64 t253, .slice Ao45 t254.length co45] 36 (0, 0)) (by (with_reducible repeat (first | refine blk_drewN ?_ _ | refine blk_drew ?_ | refine blk_alloc ?_ _)); exact BK258.out) hb); have n9_ := Aside0.mk (blk_below (g := gb263) (o := .cells #[.int .i64 t259, .slice Ao52 t260.length co52] 39 (0, 0)) (by (with_reducible repeat (first | refine blk_drewN ?_ _ | refine blk_drew ?_ | refine blk_alloc ?_ _)); exact BK263.out) hb); have n10_ := Aside0.mk (blk_below (g := gb270) (o := .cells #[.int .i64 t264, .int .i64 t265, .slice Ao59 t266.length co59] 36 (0, 0)) (by (with_reducible repeat (first | refine blk_drewN ?_ _ | refine blk_drew ?_ | refine blk_alloc ?_ _)); exact BK270.out) hb); have n11_ := Aside0.mk (below_step (by repeat (first | (with_reducible first | exact HB.out | apply below_alloc | apply pw_below_drewN | apply below_drew1 | refine below_set ?_ GE246.out | refine below_set ?_ GE258.out | refine below_set ?_ GE263.out | refine below_set ?_ GE270.out) | exact HB.out)) hb); have n12_ := Aside0.mk (hbox); have n13_ := Aside0.mk ((by rw [hg]; exact (below_size (by repeat (first | (with_reducible first | exact HB.out | apply below_alloc | apply pw_below_drewN | apply below_drew1 | refine below_set ?_ GE246.out | refine below_set ?_ GE258.out | refine below_set ?_ GE263.out | refine below_set ?_ GE270.out) | exact HB.out))) : w.heap.size ≤ gb293)); have n14_ := Aside0.mk ((by rw [hg]; exact (below_size (by repeat (first | (with_reducible first | exact HB.out | apply below_alloc | apply pw_below_drewN | apply below_drew1 | refine below_set ?_ GE246.out | refine below_set ?_ GE258.out | refine below_set ?_ GE263.out | refine below_set ?_ GE270.out) | exact HB.out))) : w.heap.size ≤ gb293)); have n15_ := Aside0.mk ((by rw [hg]; exact Nat.ne_of_lt (blk_lt (g := gb246) (o := .cells #[.int .i64 a2_0, .slice A2_1 l2_1.length c2_1] 33 (0, 0)) (by (with_reducible repeat (first | refine blk_drewN ?_ _ | refine blk_drew ?_ | refine blk_alloc ?_ _)); exact BK246.out)) : gb246 ≠ gb293)); have n16_ := Aside0.mk ((by rw [hg]; exact Nat.ne_of_gt (blk_lt (g := gb246) (o := .cells #[.int .i64 a2_0, .slice A2_1 l2_1.length c2_1] 33 (0, 0)) (by (with_reducible repeat (first | refine blk_drewN ?_ _ | refine blk_drew ?_ | refine blk_alloc ?_ _)); exact BK246.out)) : gb293 ≠ gb246)); have n17_ := Aside0.mk ((by rw [hg]; exact Nat.ne_of_lt (blk_lt (g := gb258) (o := .cells #[.int .i64 t252, .int .i64 t253, .slice Ao45 t254.length co45] 36 (0, 0)) (by (with_reducible repeat (first | refine blk_drewN ?_ _ | refine blk_drew ?_ | refine blk_alloc ?_ _)); exact BK258.out)) : gb258 ≠ gb293)); have n18_ := Aside0.mk ((by rw [hg]; exact Nat.ne_of_gt (blk_lt (g := gb258) (o := .cells #[.int .i64 t252, .int .i64 t253, .slice Ao45 t254.length co45] 36 (0, 0)) (by (with_reducible repeat (first | refine blk_drewN ?_ _ | refine blk_drew ?_ | refine blk_alloc ?_ _)); exact BK258.out)) : gb293 ≠ gb258)); have n19_ := Aside0.mk ((by rw [hg]; exact Nat.ne_of_lt (blk_lt (g := gb263) (o := .cells #[.int .i64 t259, .slice Ao52 t260.length co52] 39 (0, 0)) (by (with_reducible repeat (first | refine blk_drewN ?_ _ | refine blk_drew ?_ | refine blk_alloc ?_ _)); exact BK263.out)) : gb263 ≠ gb293)); have n20_ := Aside0.mk ((by rw [hg]; exact Nat.ne_of_gt (blk_lt (g := gb263) (o := .cells #[.int .i64 t259, .slice Ao52 t260.length co52] 39 (0, 0)) (by (with_reducible repeat (first | refine blk_drewN ?_ _ | refine blk_drew ?_ | refine blk_alloc ?_ _)); exact BK263.out)) : gb293 ≠ gb263)); have n21_ := Aside0.mk ((by rw [hg]; exact Nat.ne_of_lt (blk_lt (g := gb270) (o := .cells #[.int .i64 t264, .int .i64 t265, .slice Ao59 t266.length co59] 36 (0, 0)) (by (with_reducible repeat (first | refine blk_drewN ?_ _ | refine blk_drew ?_ | refine blk_alloc ?_ _)); exact BK270.out)) : gb270 ≠ gb293)); have n22_ := Aside0.mk ((by rw [hg]; exact Nat.ne_of_gt (blk_lt (g := gb270) (o := .cells #[.int .i64 t264, .int .i64 t265, .slice Ao59 t266.length co59] 36 (0, 0)) (by (with_reducible repeat (first | refine blk_drewN ?_ _ | refine blk_drew ?_ | refine blk_alloc ?_ _)); exact BK270.out)) : gb293 ≠ gb270)); clear HO251; clear HO256; clear HO262; clear HO268; clear HO275; clear HO286; clear HO291; clear BK246; clear BK258; clear BK263; clear BK270; clear HB; have HO251 := n0_; have HO256 := n1_; have HO262 := n2_; have HO268 := n3_; have HO275 := n4_; have HO286 := n5_; have HO291 := n6_; have BK246 := n7_; have BK258 := n8_; have BK263 := n9_; have BK270 := n10_; have HB := n11_; have BK293 := n12_; have GW293 := n13_; have GE293 := n14_; have NB246_293 := n15_; have NB293_246 := n16_; have NB258_293 := n17_; have NB293_258 := n18_; have NB263_293 := n19_; have NB293_263 := n20_; have NB270_293 := n21_; have NB293_270 := n22_; clear n0_ n1_ n2_ n3_ n4_ n5_ n6_ n7_ n8_ n9_ n10_ n11_ n12_ n13_ n14_ n15_ n16_ n17_ n18_ n19_ n20_ n21_ n22_; clear hb hbox hg; have hnb80 := NB293_246.out; have hnc80 := NB246_293.out; have hnb81 := NB293_258.out; have hnc81 := NB258_293.out; have hnb82 := NB293_263.out; have hnc82 := NB263_293.out; have hnb83 := NB293_270.out; have hnc83 := NB270_293.out; have hcz84_0 : w79.cell? ⟨gb293, 0, none⟩ = some (.int .i64 0) := (blk_cell BK293.out 0).trans rfl; have hcz84_1 : w79.cell? ⟨gb293, 1, none⟩ = some (.int .i64 0) := (blk_cell BK293.out 1).trans rfl; have hcz84_2 : w79.cell? ⟨gb293, 2, none⟩ = some (.slice none 0 0) := (blk_cell BK293.out 2).trans rfl; have hfz84_0 := blk_frozen BK293.out 0; have hfz84_1 := blk_frozen BK293.out 1; have hfz84_2 := blk_frozen BK293.out 2; obtain ⟨Ao85, co85, eo85⟩ := Kd.R_slice HO291.out; subst eo85; have hcz86_0 : w79.cell? ⟨gb258, 0, none⟩ = some (.int .i64 t252) := (blk_cell BK258.out 0).trans rfl; have hcz86_1 : w79.cell? ⟨gb258, 1, none⟩ = some (.int .i64 t253) := (blk_cell BK258.out 1).trans rfl; have hcz86_2 : w79.cell? ⟨gb258, 2, none⟩ = some (.slice Ao45 t254.length co45) := (blk_cell BK258.out 2).trans rfl; have hfz86_0 := blk_frozen BK258.out 0; have hfz86_1 := blk_frozen BK258.out 1; have hfz86_2 := blk_frozen BK258.out 2) | ((with_reducible refine gate_callee (f := 24) rfl ?_); refine goesL_ (some 91) rfl rfl Try.func24 (by kernel_rfl) rfl #[.agg #[.int .i64 t287, .int .i64 t288, .slice Ao85 t289.length co85], .agg #[.int .i64 t252, .int .i64 t253, .slice Ao45 t254.length co45]] rfl (by (try simp only [List.map_toArray, List.map_cons, List.map_nil]); first | done | rfl | (simp only [List.length_drop, List.length_take]; rfl)) ?_; (with_reducible refine (laws_eqPeeled.calls k t287 t288 _ _ t289 t252 t253 _ _ t254 true _ ?side1 ?side2 ?side3 ?side4 A29.out).mono ?_); (case side1 => refine (Kd.R_reads' (e := 3) (base := w.heap.size) (ok := fun k_ => ((((((True ∧ some k_ ≠ (.slice Ao40 t249.length co40 : Value).ownBlock) ∧ some k_ ≠ (.slice Ao45 t254.length co45 : Value).ownBlock) ∧ some k_ ≠ (.slice Ao52 t260.length co52 : Value).ownBlock) ∧ some k_ ≠ (.slice Ao59 t266.length co59 : Value).ownBlock) ∧ some k_ ≠ (.slice Ao64 t273.length co64 : Value).ownBlock) ∧ some k_ ≠ (.slice Ao77 t284.length co77 : Value).ownBlock)) (n := t289.length) (c := co85) ?_).2.2; exact (by (with_reducible repeat (first | apply Kd.R_alloc | apply Kd.R_drewN | apply Kd.R_drew)); exact (Kd.R_mono (Kd.R_far (p := ⟨gb293, 2, none⟩) (Kd.R_far (p := ⟨gb293, 1, none⟩) (Kd.R_far (p := ⟨gb293, 0, none⟩) (Kd.R_types HO291.out BK293.out (by decide)) (fun _ hk => hk.2) (.int .i64 t287)) (fun _ hk => hk.2) (.int .i64 t288)) (fun _ hk => hk.2) (.slice Ao85 t289.length co85)) (fun _ h_ => h_.1)))); (case side2 => exact (Kd.R_reads' HO291.out).2.1); (case side3 => refine (Kd.R_reads' (e := 3) (base := w.heap.size) (ok := fun k_ => (((some k_ ≠ (.slice Ao40 t249.length co40 : Value).ownBlock ∧ (some k_ ≠ (.slice Ao52 t260.length co52 : Value).ownBlock ∧ (some k_ ≠ (.slice Ao59 t266.length co59 : Value).ownBlock ∧ some k_ ≠ (.slice Ao64 t273.length co64 : Value).ownBlock))) ∧ some k_ ≠ (.slice Ao77 t284.length co77 : Value).ownBlock) ∧ some k_ ≠ (.slice Ao85 t289.length co85 : Value).ownBlock)) (n := t254.length) (c := co45) ?_).2.2; exact (by (with_reducible repeat (first | apply Kd.R_alloc | apply Kd.R_drewN | apply Kd.R_drew)); exact (Kd.R_mono (Kd.R_far (p := ⟨gb293, 2, none⟩) (Kd.R_far (p := ⟨gb293, 1, none⟩) (Kd.R_far (p := ⟨gb293, 0, none⟩) (Kd.R_types HO256.out BK293.out (by decide)) (fun _ hk => hk.2) (.int .i64 t287)) (fun _ hk => hk.2) (.int .i64 t288)) (fun _ hk => hk.2) (.slice Ao85 t289.length co85)) (fun _ h_ => h_.1)))); (case side4 => exact (Kd.R_reads' HO256.out).2.1); rintro e w87 ⟨rfl, hb⟩; refine ⟨_, rfl, ?_⟩; have n0_ := Aside0.mk (Kd.R_below (by (with_reducible repeat (first | apply Kd.R_alloc | apply Kd.R_drewN | apply Kd.R_drew)); exact (Kd.R_mono (Kd.R_far (p := ⟨gb293, 2, none⟩) (Kd.R_far (p := ⟨gb293, 1, none⟩) (Kd.R_far (p := ⟨gb293, 0, none⟩) (Kd.R_types HO251.out BK293.out (by decide)) (fun _ hk => hk.2) (.int .i64 t287)) (fun _ hk => hk.2) (.int .i64 t288)) (fun _ hk => hk.2) (.slice Ao85 t289.length co85)) (fun _ h_ => h_.1))) hb); have n1_ := Aside0.mk (Kd.R_below (by (with_reducible repeat (first | apply Kd.R_alloc | apply Kd.R_drewN | apply Kd.R_drew)); exact (Kd.R_mono (Kd.R_far (p := ⟨gb293, 2, none⟩) (Kd.R_far (p := ⟨gb293, 1, none⟩) (Kd.R_far (p := ⟨gb293, 0, none⟩) (Kd.R_types HO256.out BK293.out (by decide)) (fun _ hk => hk.2) (.int .i64 t287)) (fun _ hk => hk.2) (.int .i64 t288)) (fun _ hk => hk.2) (.slice Ao85 t289.length co85)) (fun _ h_ => h_.1))) hb); have n2_ := Aside0.mk (Kd.R_below (by (with_reducible repeat (first | apply Kd.R_alloc | apply Kd.R_drewN | apply Kd.R_drew)); exact (Kd.R_mono (Kd.R_far (p := ⟨gb293, 2, none⟩) (Kd.R_far (p := ⟨gb293, 1, none⟩) (Kd.R_far (p := ⟨gb293, 0, none⟩) (Kd.R_types HO262.out BK293.out (by decide)) (fun _ hk => hk.2) (.int .i64 t287)) (fun _ hk => hk.2) (.int .i64 t288)) (fun _ hk => hk.2) (.slice Ao85 t289.length co85)) (fun _ h_ => h_.1))) hb); have n3_ := Aside0.mk (Kd.R_below (by (with_reducible repeat (first | apply Kd.R_alloc | apply Kd.R_drewN | apply Kd.R_drew)); exact (Kd.R_mono (Kd.R_far (p := ⟨gb293, 2, none⟩) (Kd.R_far (p := ⟨gb293, 1, none⟩) (Kd.R_far (p := ⟨gb293, 0, none⟩) (Kd.R_types HO268.out BK293.out (by decide)) (fun _ hk => hk.2) (.int .i64 t287)) (fun _ hk => hk.2) (.int .i64 t288)) (fun _ hk => hk.2) (.slice Ao85 t289.length co85)) (fun _ h_ => h_.1))) hb); have n4_ := Aside0.mk (Kd.R_below (by (with_reducible repeat (first | apply Kd.R_alloc | apply Kd.R_drewN | apply Kd.R_drew)); exact (Kd.R_mono (Kd.R_far (p := ⟨gb293, 2, none⟩) (Kd.R_far (p := ⟨gb293, 1, none⟩) (Kd.R_far (p := ⟨gb293, 0, none⟩) (Kd.R_types HO275.out BK293.out (by decide)) (fun _ hk => hk.2) (.int .i64 t287)) (fun _ hk => hk.2) (.int .i64 t288)) (fun _ hk => hk.2) (.slice Ao85 t289.length co85)) (fun _ h_ => h_.1))) hb); have n5_ := Aside0.mk (Kd.R_below (by (with_reducible repeat (first | apply Kd.R_alloc | apply Kd.R_drewN | apply Kd.R_drew)); exact (Kd.R_mono (Kd.R_far (p := ⟨gb293, 2, none⟩) (Kd.R_far (p := ⟨gb293, 1, none⟩) (Kd.R_far (p := ⟨gb293, 0, none⟩) (Kd.R_types HO286.out BK293.out (by decide)) (fun _ hk => hk.2) (.int .i64 t287)) (fun _ hk => hk.2) (.int .i64 t288)) (fun _ hk => hk.2) (.slice Ao85 t289.length co85)) (fun _ h_ => h_.1))) hb); have n6_ := Aside0.mk (Kd.R_below (by (with_reducible repeat (first | apply Kd.R_alloc | apply Kd.R_drewN | apply Kd.R_drew)); exact (Kd.R_mono (Kd.R_far (p := ⟨gb293, 2, none⟩) (Kd.R_far (p := ⟨gb293, 1, none⟩) (Kd.R_far (p := ⟨gb293, 0, none⟩) (Kd.R_types HO291.out BK293.out (by decide)) (fun _ hk => hk.2) (.int .i64 t287)) (fun _ hk => hk.2) (.int .i64 t288)) (fun _ hk => hk.2) (.slice Ao85 t289.length co85)) (fun _ h_ => h_.1))) hb); have n7_ := Aside0.mk (blk_below (g := gb246) (o := .cells #[.int .i64 a2_0, .slice A2_1 l2_1.length c2_1] 33 (0, 0)) (by (with_reducible repeat (first | refine blk_drewN ?_ _ | refine blk_drew ?_ | refine blk_alloc ?_ _)); refine blk_far ?_ NB246_293.out _; (with_reducible repeat (first | refine blk_drewN ?_ _ | refine blk_drew ?_ | refine blk_alloc ?_ _)); refine blk_far ?_ NB246_293.out _; (with_reducible repeat (first | refine blk_drewN ?_ _ | refine blk_drew ?_ | refine blk_alloc ?_ _)); refine blk_far ?_ NB246_293.out _; (with_reducible repeat (first | refine blk_drewN ?_ _ | refine blk_drew ?_ | refine blk_alloc ?_ _)); exact BK246.out) hb); have n8_ := Aside0.mk (blk_below (g := gb258) (o := .cells #[.int .i64 t252, .int .i64 t253, .slice Ao45 t254.length co45] 36 (0, 0)) (by (with_reducible repeat (first | refine blk_drewN ?_ _ | refine blk_drew ?_ | refine blk_alloc ?_ _)); refine blk_far ?_ NB258_293.out _; (with_reducible repeat (first | refine blk_drewN ?_ _ | refine blk_drew ?_ | refine blk_alloc ?_ _)); refine blk_far ?_ NB258_293.out _; (with_reducible repeat (first | refine blk_drewN ?_ _ | refine blk_drew ?_ | refine blk_alloc ?_ _)); refine blk_far ?_ NB258_293.out _; (with_reducible repeat (first | refine blk_drewN ?_ _ | refine blk_drew ?_ | refine blk_alloc ?_ _)); exact BK258.out) hb); have n9_ := Aside0.mk (blk_below (g := gb263) (o := .cells #[.int .i64 t259, .slice Ao52 t260.length co52] 39 (0, 0)) (by (with_reducible repeat (first | refine blk_drewN ?_ _ | refine blk_drew ?_ | refine blk_alloc ?_ _)); refine blk_far ?_ NB263_293.out _; (with_reducible repeat (first | refine blk_drewN ?_ _ | refine blk_drew ?_ | refine blk_alloc ?_ _)); refine blk_far ?_ NB263_293.out _; (with_reducible repeat (first | refine blk_drewN ?_ _ | refine blk_drew ?_ | refine blk_alloc ?_ _)); refine blk_far ?_ NB263_293.out _; (with_reducible repeat (first | refine blk_drewN ?_ _ | refine blk_drew ?_ | refine blk_alloc ?_ _)); exact BK263.out) hb); have n10_ := Aside0.mk (blk_below (g := gb270) (o := .cells #[.int .i64 t264, .int .i64 t265, .slice Ao59 t266.length co59] 36 (0, 0)) (by (with_reducible repeat (first | refine blk_drewN ?_ _ | refine blk_drew ?_ | refine blk_alloc ?_ _)); refine blk_far ?_ NB270_293.out _; (with_reducible repeat (first | refine blk_drewN ?_ _ | refine blk_drew ?_ | refine blk_alloc ?_ _)); refine blk_far ?_ NB270_293.out _; (with_reducible repeat (first | refine blk_drewN ?_ _ | refine blk_drew ?_ | refine blk_alloc ?_ _)); refine blk_far ?_ NB270_293.out _; (with_reducible repeat (first | refine blk_drewN ?_ _ | refine blk_drew ?_ | refine blk_alloc ?_ _)); exact BK270.out) hb); have n11_ := Aside0.mk (blk_below (g := gb293) (o := .cells #[.int .i64 t287, .int .i64 t288, .slice Ao85 t289.length co85] 36 (0, 0)) (by (with_reducible repeat (first | refine blk_drewN ?_ _ | refine blk_drew ?_ | refine blk_alloc ?_ _)); refine blk_put (cs := #[.int .i64 t287, .int .i64 t288, .slice none 0 0]) ?_ 2 _ rfl; (with_reducible repeat (first | refine blk_drewN ?_ _ | refine blk_drew ?_ | refine blk_alloc ?_ _)); refine blk_put (cs := #[.int .i64 t287, .int .i64 0, .slice none 0 0]) ?_ 1 _ rfl; (with_reducible repeat (first | refine blk_drewN ?_ _ | refine blk_drew ?_ | refine blk_alloc ?_ _)); refine blk_put (cs := #[.int .i64 0, .int .i64 0, .slice none 0 0]) ?_ 0 _ rfl; (with_reducible repeat (first | refine blk_drewN ?_ _ | refine blk_drew ?_ | refine blk_alloc ?_ _)); exact BK293.out) hb); have n12_ := Aside0.mk (below_step (by repeat (first | (with_reducible first | exact HB.out | apply below_alloc | apply pw_below_drewN | apply below_drew1 | refine below_set ?_ GE246.out | refine below_set ?_ GE258.out | refine below_set ?_ GE263.out | refine below_set ?_ GE270.out | refine below_set ?_ GE293.out) | exact HB.out)) hb); clear HO251; clear HO256; clear HO262; clear HO268; clear HO275; clear HO286; clear HO291; clear BK246; clear BK258; clear BK263; clear BK270; clear BK293; clear HB; have HO251 := n0_; have HO256 := n1_; have HO262 := n2_; have HO268 := n3_; have HO275 := n4_; have HO286 := n5_; have HO291 := n6_; have BK246 := n7_; have BK258 := n8_; have BK263 := n9_; have BK270 := n10_; have BK293 := n11_; have HB := n12_; clear n0_ n1_ n2_ n3_ n4_ n5_ n6_ n7_ n8_ n9_ n10_ n11_ n12_; (try clear hb); (try clear hb2); (try clear hk); (try clear hi); have hcz88_0 : w87.cell? ⟨gb270, 0, none⟩ = some (.int .i64 t264) := (blk_cell BK270.out 0).trans rfl; have hcz88_1 : w87.cell? ⟨gb270, 1, none⟩ = some (.int .i64 t265) := (blk_cell BK270.out 1).trans rfl; have hcz88_2 : w87.cell? ⟨gb270, 2, none⟩ = some (.slice Ao59 t266.length co59) := (blk_cell BK270.out 2).trans rfl; have hfz88_0 := blk_frozen BK270.out 0; have hfz88_1 := blk_frozen BK270.out 1; have hfz88_2 := blk_frozen BK270.out 2) | ((with_reducible refine gate_callee (f := 28) rfl ?_); refine goesL_ (some 100) rfl rfl Try.func28 (by kernel_rfl) rfl #[.agg #[.int .i64 t264, .int .i64 t265, .slice Ao59 t281.length co59], .int .i64 1] rfl (by (try simp only [List.map_toArray, List.map_cons, List.map_nil]); first | done | (rw [show t281.length = t266.length from (Kd.R_reads' HO268.out).1.symm] <;> rfl) | rfl | (simp only [List.length_drop, List.length_take]; rfl)) ?_; (with_reducible refine (laws_heldPeeled.calls k t264 t265 _ _ t281 1 t295 _ ?side1 ?side2 A32.out).mono ?_); (case side1 => repeat (first | exact (Kd.R_reads' HO268.out).2.2 | (with_reducible refine Kd.C_alloc ?_ _) | (with_reducible refine Kd.C_drewN ?_ _) | (with_reducible refine Kd.C_drew ?_))); (case side2 => rw [show t281.length = t266.length from (Kd.R_reads' HO268.out).1.symm]; exact (Kd.R_reads' HO268.out).2.1); rintro e w89 ⟨rfl, hb⟩; refine ⟨_, rfl, ?_⟩; have n0_ := Aside0.mk (Kd.R_below (by (with_reducible repeat (first | apply Kd.R_alloc | apply Kd.R_drewN | apply Kd.R_drew)); exact HO251.out) hb); have n1_ := Aside0.mk (Kd.R_below (by (with_reducible repeat (first | apply Kd.R_alloc | apply Kd.R_drewN | apply Kd.R_drew)); exact HO256.out) hb); have n2_ := Aside0.mk (Kd.R_below (by (with_reducible repeat (first | apply Kd.R_alloc | apply Kd.R_drewN | apply Kd.R_drew)); exact HO262.out) hb); have n3_ := Aside0.mk (Kd.R_below (by (with_reducible repeat (first | apply Kd.R_alloc | apply Kd.R_drewN | apply Kd.R_drew)); exact HO268.out) hb); have n4_ := Aside0.mk (Kd.R_below (by (with_reducible repeat (first | apply Kd.R_alloc | apply Kd.R_drewN | apply Kd.R_drew)); exact HO275.out) hb); have n5_ := Aside0.mk (Kd.R_below (by (with_reducible repeat (first | apply Kd.R_alloc | apply Kd.R_drewN | apply Kd.R_drew)); exact HO286.out) hb); have n6_ := Aside0.mk (Kd.R_below (by (with_reducible repeat (first | apply Kd.R_alloc | apply Kd.R_drewN | apply Kd.R_drew)); exact HO291.out) hb); have n7_ := Aside0.mk (blk_below (g := gb246) (o := .cells #[.int .i64 a2_0, .slice A2_1 l2_1.length c2_1] 33 (0, 0)) (by (with_reducible repeat (first | refine blk_drewN ?_ _ | refine blk_drew ?_ | refine blk_alloc ?_ _)); exact BK246.out) hb); have n8_ := Aside0.mk (blk_below (g := gb258) (o := .cells #[.int .i64 t252, .int .i64 t253, .slice Ao45 t254.length co45] 36 (0, 0)) (by (with_reducible repeat (first | refine blk_drewN ?_ _ | refine blk_drew ?_ | refine blk_alloc ?_ _)); exact BK258.out) hb); have n9_ := Aside0.mk (blk_below (g := gb263) (o := .cells #[.int .i64 t259, .slice Ao52 t260.length co52] 39 (0, 0)) (by (with_reducible repeat (first | refine blk_drewN ?_ _ | refine blk_drew ?_ | refine blk_alloc ?_ _)); exact BK263.out) hb); have n10_ := Aside0.mk (blk_below (g := gb270) (o := .cells #[.int .i64 t264, .int .i64 t265, .slice Ao59 t266.length co59] 36 (0, 0)) (by (with_reducible repeat (first | refine blk_drewN ?_ _ | refine blk_drew ?_ | refine blk_alloc ?_ _)); exact BK270.out) hb); have n11_ := Aside0.mk (blk_below (g := gb293) (o := .cells #[.int .i64 t287, .int .i64 t288, .slice Ao85 t289.length co85] 36 (0, 0)) (by (with_reducible repeat (first | refine blk_drewN ?_ _ | refine blk_drew ?_ | refine blk_alloc ?_ _)); exact BK293.out) hb); have n12_ := Aside0.mk (below_step (by repeat (first | (with_reducible first | exact HB.out | apply below_alloc | apply pw_below_drewN | apply below_drew1 | refine below_set ?_ GE246.out | refine below_set ?_ GE258.out | refine below_set ?_ GE263.out | refine below_set ?_ GE270.out | refine below_set ?_ GE293.out) | exact HB.out)) hb); clear HO251; clear HO256; clear HO262; clear HO268; clear HO275; clear HO286; clear HO291; clear BK246; clear BK258; clear BK263; clear BK270; clear BK293; clear HB; have HO251 := n0_; have HO256 := n1_; have HO262 := n2_; have HO268 := n3_; have HO275 := n4_; have HO286 := n5_; have HO291 := n6_; have BK246 := n7_; have BK258 := n8_; have BK263 := n9_; have BK270 := n10_; have BK293 := n11_; have HB := n12_; clear n0_ n1_ n2_ n3_ n4_ n5_ n6_ n7_ n8_ n9_ n10_ n11_ n12_; (try clear hb); (try clear hb2); (try clear hk); (try clear hi)))
              go_ret
              exact ⟨by first | rfl | (simp [errW_none, errW_some] <;> rfl) | (simp [*, errW_none, errW_some] <;> rfl), by repeat (first | (with_reducible first | exact HB.out | apply below_alloc | apply pw_below_drewN | apply below_drew1 | refine below_set ?_ GE246.out | refine below_set ?_ GE258.out | refine below_set ?_ GE263.out | refine below_set ?_ GE270.out | refine below_set ?_ GE293.out) | exact HB.out)⟩
             ·rw [if_neg c34] at H
              exact absurd H (by simp)
          ·replace c30 := Bool.eq_false_iff.mpr c30
           subst c30
           have H1 : (none) = some r := by rw [if_neg (show ¬ (false = true) by decide)] at H; exact H
           clear H
           have H := H1
           clear H1
           exact absurd H (by simp)
         ·rw [if_neg c26] at H
          exact absurd H (by simp)
       ·replace c22 := Bool.eq_false_iff.mpr c22
        subst c22
        have H1 : (none) = some r := by rw [if_neg (show ¬ (false = true) by decide)] at H; exact H
        clear H
        have H := H1
        clear H1
        exact absurd H (by simp)
     ·replace c18 := Bool.eq_false_iff.mpr c18
      subst c18
      have H1 : (none) = some r := by rw [if_neg (show ¬ (false = true) by decide)] at H; exact H
      clear H
      have H := H1
      clear H1
      exact absurd H (by simp)
   ·replace c14 := Bool.eq_false_iff.mpr c14
    subst c14
    have H1 : (none) = some r := by rw [if_neg (show ¬ (false = true) by decide)] at H; exact H
    clear H
    have H := H1
    clear H1
    exact absurd H (by simp)

/-- What is to be shown of laws_FnExactUnpackMarks: plain. -/
def laws_FnExactUnpackMarks.Pure : Prop := ∀ (a0 : Int) (a1 : Int) (a2_0 : Int) (l2_1 : List Int), (wfI .i64) a0 → (wfI .i64) a1 → (wfI .i64) a2_0 → (wfL (wfI .i64)) l2_1 → ∃ k, laws_FnExactUnpackMarks.f k a0 a1 a2_0 l2_1 = some true
theorem laws_FnExactUnpackMarks.walk (P : laws_FnExactUnpackMarks.Pure) (a0 : Int) (a1 : Int) (a2_0 : Int) (A2_1 : Option Addr) (c2_1 : Nat) (l2_1 : List Int) (w : World) (hr2_1 : Kd.C (Kd.int .i64) w A2_1 l2_1.length l2_1) (hc2_1 : l2_1.length ≤ c2_1) (hw0 : (wfI .i64) a0) (hw1 : (wfI .i64) a1) (hw2_0 : (wfI .i64) a2_0) (hw2_1 : (wfL (wfI .i64)) l2_1) :
    Calls Try.prog 4 #[.int .i64 a0, .int .i64 a1, .agg #[.int .i64 a2_0, .slice A2_1 l2_1.length c2_1]] w fun e w' => e = .returned (.bool true) ∧ Below w.heap.size w w' := by
  obtain ⟨k, h⟩ := P a0 a1 a2_0 l2_1 hw0 hw1 hw2_0 hw2_1
  refine (laws_FnExactUnpackMarks.calls k a0 a1 a2_0 A2_1 c2_1 l2_1 true w hr2_1 hc2_1 h).mono ?_
  rintro e w' ⟨rfl, hd⟩
  exact ⟨rfl, hd⟩
end Go.Proofs.Ytioncjcmfbndmaa.X
