/- Written by a program of this session: what functions of the given program compute, and that their calls do so. -/
import Derived.Test.YtlcedciocmjggaaXx0
import Derived.Test.YtlcedciocmjggaaXg200a
import Derived.Test.YtlcedciocmjggaaXg3a00a
import Derived.Test.YtlcedciocmjggaaXg3f04a
import Derived.Test.YtlcedciocmjggaaXg3f05a
import Derived.Test.YtlcedciocmjggaaXg3f0ea
import Derived.Test.YtlcedciocmjggaaXg3f1fa
import Derived.Test.YtlcedciocmjggaaXg3f5fa
namespace Go.Proofs.Ytlcedciocmjggaa.X
open Go.RowKit Go.Proofs.YtlcedciocmjggaaW.PrintWords Go.Proofs.YtlcedciocmjggaaW.PrintLast Go.Proofs.YtlcedciocmjggaaW.PrintMore
attribute [local go_sem] max2_int min2_int max_two min_two max_three min_three max_four min_four   -- for this text's walks alone
set_option linter.unusedVariables false
set_option linter.unusedSimpArgs false
/-! ### impl_IsPeelOrder: function 54 -/
def impl_IsPeelOrder.l0 : Nat → List Bool → List (S88) → Int → Int → Int → List (List Int) → Option (Bool × Bool)
  | 0, _, _, _, _, _, _ => none
  | k + 1, x6, x13, x14, x15, x942000, x942001 => if x15 < x14 then (if 0 ≤ x15 then (if x15 < (x13.length : Int) then ((impl_in.f ((rd_T88 x13 x15).f0) 0 (wrap64 ((x942001.length : Int) - 1))).bind fun t951 => (if t951 = true then (if 0 ≤ ((rd_T88 x13 x15).f0) then (if ((rd_T88 x13 x15).f0) < (x6.length : Int) then (if rdOf false x6 ((rd_T88 x13 x15).f0) = true then (some (false, true)) else (if ((rd_T88 x13 x15).f0) < (x942001.length : Int) then ((slices_Contains_int_int.f k (rd_L1 x942001 ((rd_T88 x13 x15).f0)) ((rd_T88 x13 x15).f1)).bind fun t954 => (if t954 = true then ((impl_Hyper_degrees.f k x942000 x942001 x6).bind fun t955 => (if 0 ≤ ((rd_T88 x13 x15).f1) then (if ((rd_T88 x13 x15).f1) < (t955.length : Int) then (if (rd t955 ((rd_T88 x13 x15).f1)) = 1 then (impl_IsPeelOrder.l0 k (x6.set (((rd_T88 x13 x15).f0) : Int).toNat true) x13 x14 (wrap64 (x15 + 1)) x942000 x942001) else (some (false, true))) else (none)) else (none))) else (some (false, true)))) else (none))) else (none)) else (none)) else (some (false, true)))) else (none)) else (none)) else ((impl_left.f k x6).bind fun t946 => (some (((t946.length : Int) == 0), true)))
def impl_IsPeelOrder.f (k : Nat) (a0_0 : Int) (l0_1 : List (List Int)) (l1 : List (S88)) : Option (Bool × Bool) := (impl_IsHyper.f k a0_0 l0_1).bind fun t942 => (if t942 = true then ((impl_Hyper_none.f a0_0 l0_1).bind fun t943 => (impl_IsPeelOrder.l0 k t943 l1 (l1.length : Int) 0 a0_0 l0_1)) else (some (false, false)))
theorem impl_IsPeelOrder.mono_l : ∀ k, (∀ y0 y1 y2 y3 y4 y5, LeO (impl_IsPeelOrder.l0 k y0 y1 y2 y3 y4 y5) (impl_IsPeelOrder.l0 (k + 1) y0 y1 y2 y3 y4 y5))
  | 0 => fun _ _ _ _ _ _ r h => by simp [impl_IsPeelOrder.l0] at h
  | k + 1 => by
    have ih0 := impl_IsPeelOrder.mono_l k
    · intro y0 y1 y2 y3 y4 y5
      unfold impl_IsPeelOrder.l0
      repeat' first
      | (with_reducible exact ih0 _ _ _ _ _ _)
      | (with_reducible exact impl_Hyper_degrees.mono _ _ _ _)
      | (with_reducible exact impl_IsHyper.mono _ _ _)
      | (with_reducible exact impl_left.mono _ _)
      | (with_reducible exact slices_Contains_int_int.mono _ _ _)
      | (with_reducible exact LeO.refl _)
      | (with_reducible exact LeO.none _)
      | (with_reducible refine LeO.ite ?_ ?_)
      | (with_reducible refine LeO.bind ?_ (fun _ => ?_))
      | exact ih0 _ _ _ _ _ _
      | exact impl_Hyper_degrees.mono _ _ _ _
      | exact impl_IsHyper.mono _ _ _
      | exact impl_left.mono _ _
      | exact slices_Contains_int_int.mono _ _ _
      | exact LeO.none _
      | refine LeO.ite ?_ ?_
      | refine LeO.bind ?_ (fun _ => ?_)
theorem impl_IsPeelOrder.mono : ∀ a0 a1 a2 k, LeO (impl_IsPeelOrder.f k a0 a1 a2) (impl_IsPeelOrder.f (k + 1) a0 a1 a2) := by
  intro a0 a1 a2 k
  have ih0 := impl_IsPeelOrder.mono_l k
  unfold impl_IsPeelOrder.f
  repeat' first
      | (with_reducible exact ih0 _ _ _ _ _ _)
      | (with_reducible exact impl_Hyper_degrees.mono _ _ _ _)
      | (with_reducible exact impl_IsHyper.mono _ _ _)
      | (with_reducible exact impl_left.mono _ _)
      | (with_reducible exact slices_Contains_int_int.mono _ _ _)
      | (with_reducible exact LeO.refl _)
      | (with_reducible exact LeO.none _)
      | (with_reducible refine LeO.ite ?_ ?_)
      | (with_reducible refine LeO.bind ?_ (fun _ => ?_))
      | exact ih0 _ _ _ _ _ _
      | exact impl_Hyper_degrees.mono _ _ _ _
      | exact impl_IsHyper.mono _ _ _
      | exact impl_left.mono _ _
      | exact slices_Contains_int_int.mono _ _ _
      | exact LeO.none _
      | refine LeO.ite ?_ ?_
      | refine LeO.bind ?_ (fun _ => ?_)
noncomputable def impl_IsPeelOrder.L0 (y0 : List Bool) (y1 : List (S88)) (y2 : Int) (y3 : Int) (y4 : Int) (y5 : List (List Int)) : Option (Bool × Bool) := lim fun k => impl_IsPeelOrder.l0 k y0 y1 y2 y3 y4 y5
theorem impl_IsPeelOrder.L0_sup (y0 : List Bool) (y1 : List (S88)) (y2 : Int) (y3 : Int) (y4 : Int) (y5 : List (List Int)) : Sup (fun k => impl_IsPeelOrder.l0 k y0 y1 y2 y3 y4 y5) (impl_IsPeelOrder.L0 y0 y1 y2 y3 y4 y5) := Sup.of_mono fun k => impl_IsPeelOrder.mono_l k y0 y1 y2 y3 y4 y5
noncomputable def impl_IsPeelOrder.F (a0_0 : Int) (l0_1 : List (List Int)) (l1 : List (S88)) : Option (Bool × Bool) := lim fun k => impl_IsPeelOrder.f k a0_0 l0_1 l1
theorem impl_IsPeelOrder.F_sup (a0_0 : Int) (l0_1 : List (List Int)) (l1 : List (S88)) : Sup (fun k => impl_IsPeelOrder.f k a0_0 l0_1 l1) (impl_IsPeelOrder.F a0_0 l0_1 l1) := Sup.of_mono fun k => impl_IsPeelOrder.mono a0_0 l0_1 l1 k
theorem impl_IsPeelOrder.L0_eq (x6 : List Bool) (x13 : List (S88)) (x14 : Int) (x15 : Int) (x942000 : Int) (x942001 : List (List Int)) : impl_IsPeelOrder.L0 x6 x13 x14 x15 x942000 x942001 = if x15 < x14 then (if 0 ≤ x15 then (if x15 < (x13.length : Int) then ((impl_in.f ((rd_T88 x13 x15).f0) 0 (wrap64 ((x942001.length : Int) - 1))).bind fun t951 => (if t951 = true then (if 0 ≤ ((rd_T88 x13 x15).f0) then (if ((rd_T88 x13 x15).f0) < (x6.length : Int) then (if rdOf false x6 ((rd_T88 x13 x15).f0) = true then (some (false, true)) else (if ((rd_T88 x13 x15).f0) < (x942001.length : Int) then ((slices_Contains_int_int.F (rd_L1 x942001 ((rd_T88 x13 x15).f0)) ((rd_T88 x13 x15).f1)).bind fun t954 => (if t954 = true then ((impl_Hyper_degrees.F x942000 x942001 x6).bind fun t955 => (if 0 ≤ ((rd_T88 x13 x15).f1) then (if ((rd_T88 x13 x15).f1) < (t955.length : Int) then (if (rd t955 ((rd_T88 x13 x15).f1)) = 1 then (impl_IsPeelOrder.L0 (x6.set (((rd_T88 x13 x15).f0) : Int).toNat true) x13 x14 (wrap64 (x15 + 1)) x942000 x942001) else (some (false, true))) else (none)) else (none))) else (some (false, true)))) else (none))) else (none)) else (none)) else (some (false, true)))) else (none)) else (none)) else ((impl_left.F x6).bind fun t946 => (some (((t946.length : Int) == 0), true))) := by
  refine Sup.unique (impl_IsPeelOrder.L0_sup x6 x13 x14 x15 x942000 x942001) (Sup.shift (fun k => impl_IsPeelOrder.mono_l k x6 x13 x14 x15 x942000 x942001) (Sup.congr (g' := fun k => if x15 < x14 then (if 0 ≤ x15 then (if x15 < (x13.length : Int) then ((impl_in.f ((rd_T88 x13 x15).f0) 0 (wrap64 ((x942001.length : Int) - 1))).bind fun t951 => (if t951 = true then (if 0 ≤ ((rd_T88 x13 x15).f0) then (if ((rd_T88 x13 x15).f0) < (x6.length : Int) then (if rdOf false x6 ((rd_T88 x13 x15).f0) = true then (some (false, true)) else (if ((rd_T88 x13 x15).f0) < (x942001.length : Int) then ((slices_Contains_int_int.f k (rd_L1 x942001 ((rd_T88 x13 x15).f0)) ((rd_T88 x13 x15).f1)).bind fun t954 => (if t954 = true then ((impl_Hyper_degrees.f k x942000 x942001 x6).bind fun t955 => (if 0 ≤ ((rd_T88 x13 x15).f1) then (if ((rd_T88 x13 x15).f1) < (t955.length : Int) then (if (rd t955 ((rd_T88 x13 x15).f1)) = 1 then (impl_IsPeelOrder.l0 k (x6.set (((rd_T88 x13 x15).f0) : Int).toNat true) x13 x14 (wrap64 (x15 + 1)) x942000 x942001) else (some (false, true))) else (none)) else (none))) else (some (false, true)))) else (none))) else (none)) else (none)) else (some (false, true)))) else (none)) else (none)) else ((impl_left.f k x6).bind fun t946 => (some (((t946.length : Int) == 0), true)))) (fun k => by first | rfl | simp only [impl_IsPeelOrder.l0]) ?_))
  repeat' first
    | (with_reducible exact impl_IsPeelOrder.L0_sup _ _ _ _ _ _)
    | (with_reducible exact impl_IsHyper.F_sup _ _)
    | (with_reducible exact impl_Hyper_degrees.F_sup _ _ _)
    | (with_reducible exact slices_Contains_int_int.F_sup _ _)
    | (with_reducible exact impl_left.F_sup _)
    | (with_reducible refine Sup.ite ?_ ?_)
    | (with_reducible refine Sup.bind ?_ (fun _ => ?_))
    | (with_reducible exact Sup.const _)
    | exact impl_IsPeelOrder.L0_sup _ _ _ _ _ _
    | exact impl_IsHyper.F_sup _ _
    | exact impl_Hyper_degrees.F_sup _ _ _
    | exact slices_Contains_int_int.F_sup _ _
    | exact impl_left.F_sup _
    | exact Sup.const _
theorem impl_IsPeelOrder.F_eq (a0_0 : Int) (l0_1 : List (List Int)) (l1 : List (S88)) : impl_IsPeelOrder.F a0_0 l0_1 l1 = (impl_IsHyper.F a0_0 l0_1).bind fun t942 => (if t942 = true then ((impl_Hyper_none.f a0_0 l0_1).bind fun t943 => (impl_IsPeelOrder.L0 t943 l1 (l1.length : Int) 0 a0_0 l0_1)) else (some (false, false))) := by
  refine Sup.unique (impl_IsPeelOrder.F_sup a0_0 l0_1 l1) (Sup.congr (g' := fun k => (impl_IsHyper.f k a0_0 l0_1).bind fun t942 => (if t942 = true then ((impl_Hyper_none.f a0_0 l0_1).bind fun t943 => (impl_IsPeelOrder.l0 k t943 l1 (l1.length : Int) 0 a0_0 l0_1)) else (some (false, false)))) (fun k => by first | rfl | simp only [impl_IsPeelOrder.f]) ?_)
  repeat' first
    | (with_reducible exact impl_IsPeelOrder.L0_sup _ _ _ _ _ _)
    | (with_reducible exact impl_IsHyper.F_sup _ _)
    | (with_reducible exact impl_Hyper_degrees.F_sup _ _ _)
    | (with_reducible exact slices_Contains_int_int.F_sup _ _)
    | (with_reducible exact impl_left.F_sup _)
    | (with_reducible refine Sup.ite ?_ ?_)
    | (with_reducible refine Sup.bind ?_ (fun _ => ?_))
    | (with_reducible exact Sup.const _)
    | exact impl_IsPeelOrder.L0_sup _ _ _ _ _ _
    | exact impl_IsHyper.F_sup _ _
    | exact impl_Hyper_degrees.F_sup _ _ _
    | exact slices_Contains_int_int.F_sup _ _
    | exact impl_left.F_sup _
    | exact Sup.const _
def impl_IsPeelOrder.T7 : Bool × List (List Nat × List Nat) := (true, [([], []), ([0], [0]), ([], []), ([2], [2]), ([3], [3]), ([4], [4]), ([1, 5], [1, 5]), ([6], [6]), ([7, 6], [7]), ([8], [8]), ([8], [8]), ([10, 8], [8, 10]), ([9, 11, 8], [8, 9, 11]), ([12, 8], [8, 12]), ([8, 13], [8, 13]), ([14, 8], [14]), ([15], [15]), ([16, 15], [15, 16]), ([15], [15]), ([18, 15], [15, 18]), ([17, 19, 15], [15, 17, 19]), ([20, 15], [15, 20]), ([15], [15]), ([22, 15], [15, 22]), ([21, 23, 15, 15], [15, 21, 23]), ([24, 15], [15, 24]), ([15, 25], [15, 25]), ([26, 24], [26]), ([27], [27]), ([28, 27, 27], [27, 28]), ([27], [27]), ([30, 27], [27, 30]), ([29, 31, 27], [27, 29, 31]), ([32, 27], [27, 32]), ([33, 27], [27, 33]), ([27, 34], [27, 34])])
def impl_IsPeelOrder.B7 : List Nat := [0, 1, 0, 4, 12, 28, 63, 127, 255, 511, 511, 1535, 4095, 8191, 16383, 32767, 65535, 131071, 65535, 327679, 1048575, 2097151, 65535, 4259839, 16777215, 33554431, 67108863, 134217727, 268435455, 536870911, 268435455, 1342177279, 4294967295, 8589934591, 17179869183, 34359738367]
theorem impl_IsPeelOrder.tab7 : rtab .any (opsOf Try.f54 7) = impl_IsPeelOrder.T7 := by kernel_rfl
theorem impl_IsPeelOrder.bits7 : waitsOk impl_IsPeelOrder.T7.2 impl_IsPeelOrder.B7 = true := by kernel_rfl
set_option maxHeartbeats 8000000 in
set_option maxRecDepth 100000 in
theorem impl_IsPeelOrder.calls (k : Nat) (a0_0 : Int) (A0_1 : Option Addr) (c0_1 : Nat) (l0_1 : List (List Int)) (A1 : Option Addr) (c1 : Nat) (l1 : List (S88)) (r1 : Bool) (r2 : Bool) (w : World) (hr0_1 : Kd.C (Kd.slice 3 (Kd.int .i64)) w A0_1 l0_1.length l0_1) (hc0_1 : l0_1.length ≤ c0_1) (hr1 : Kd.C k88 w A1 l1.length l1) (hc1 : l1.length ≤ c1) (h : impl_IsPeelOrder.f k a0_0 l0_1 l1 = some (r1, r2)) :
    Calls Try.prog 54 #[.agg #[.int .i64 a0_0, .slice A0_1 l0_1.length c0_1], .slice A1 l1.length c1] w fun e w' => e = .returned (.tuple #[.bool r1, .bool r2]) ∧ Below w.heap.size w w' := by
  have hu29 := Try.underlying29
  have hu88 := Try.underlying88
  have hu22 := Try.underlying22
  have hu26 := Try.underlying26
  have HR0_1 := Aside0.mk hr0_1
  have HC0_1 := Aside0.mk hc0_1
  clear hr0_1 hc0_1
  have HR1 := Aside0.mk hr1
  have HC1 := Aside0.mk hc1
  clear hr1 hc1
  have HB := Aside0.mk (Below.refl w.heap.size w)
  have H : ((impl_IsHyper.f k a0_0 l0_1).bind fun t942 => (if t942 = true then ((impl_Hyper_none.f a0_0 l0_1).bind fun t943 => (impl_IsPeelOrder.l0 k t943 l1 (l1.length : Int) 0 a0_0 l0_1)) else (some (false, false)))) = some (r1, r2) := h
  clear h
  replace H := Option.bind_eq_some_iff.mp H
  obtain ⟨t942, A30, H⟩ := H
  replace H : (if t942 = true then ((impl_Hyper_none.f a0_0 l0_1).bind fun t943 => (impl_IsPeelOrder.l0 k t943 l1 (l1.length : Int) 0 a0_0 l0_1)) else (some (false, false))) = some (r1, r2) := H
  have A3 := Aside0.mk A30
  clear A30
  by_cases c4 : t942 = true
  ·subst c4
   have H1 : ((impl_Hyper_none.f a0_0 l0_1).bind fun t943 => (impl_IsPeelOrder.l0 k t943 l1 (l1.length : Int) 0 a0_0 l0_1)) = some (r1, r2) := by rw [if_pos rfl] at H; exact H
   clear H
   have H := H1
   clear H1
   replace H := Option.bind_eq_some_iff.mp H
   obtain ⟨t943, A50, H⟩ := H
   replace H : (impl_IsPeelOrder.l0 k t943 l1 (l1.length : Int) 0 a0_0 l0_1) = some (r1, r2) := H
   have A5 := Aside0.mk A50
   clear A50
   have H' := Aside0.mk H
   clear H
   go_enter Try.func54, Try.ntmps54
   go_wp2_with (first | ((with_reducible refine gate_dst (N := 2) rfl ?_); refine box_event ?hg (N := 2) ?hd (cs := #[.int .i64 a0_0, .slice A0_1 l0_1.length c0_1]) (t := 29) ?hr ?_; (case hd => rfl); (case hg => rfl); (case hr => first | (go_simp; done) | (go_simp; rfl)); intro gb941 hg w6 hbox hb; have n0_ := Aside0.mk (below_step (by repeat (first | (with_reducible first | exact HB.out | apply below_alloc | apply pw_below_drewN | apply below_drew1) | exact HB.out)) hb); have n1_ := Aside0.mk (hbox); have n2_ := Aside0.mk ((by rw [hg]; exact (below_size (by repeat (first | (with_reducible first | exact HB.out | apply below_alloc | apply pw_below_drewN | apply below_drew1) | exact HB.out))) : w.heap.size ≤ gb941)); have n3_ := Aside0.mk ((by rw [hg]; exact (below_size (by repeat (first | (with_reducible first | exact HB.out | apply below_alloc | apply pw_below_drewN | apply below_drew1) | exact HB.out))) : w.heap.size ≤ gb941)); clear HB; have HB := n0_; have BK941 := n1_; have GW941 := n2_; have GE941 := n3_; clear n0_ n1_ n2_ n3_; clear hb hbox hg; have hcz7_0 : w6.cell? ⟨gb941, 0, none⟩ = some (.int .i64 a0_0) := (blk_cell BK941.out 0).trans rfl; have hcz7_1 : w6.cell? ⟨gb941, 1, none⟩ = some (.slice A0_1 l0_1.length c0_1) := (blk_cell BK941.out 1).trans rfl; have hfz7_0 := blk_frozen BK941.out 0; have hfz7_1 := blk_frozen BK941.out 1) | ((with_reducible refine gate_callee (f := 71) rfl ?_); refine goesL_ (some 10) rfl rfl Try.func71 (by kernel_rfl) rfl #[.agg #[.int .i64 a0_0, .slice A0_1 l0_1.length c0_1]] rfl (by (try simp only [List.map_toArray, List.map_cons, List.map_nil]); first | done | rfl | (simp only [List.length_drop, List.length_take]; rfl)) ?_; (with_reducible refine (impl_IsHyper.calls k a0_0 _ _ l0_1 true _ ?side1 ?side2 A3.out).mono ?_); (case side1 => repeat (first | exact (Kd.C_below HR0_1.out HB.out) | (with_reducible refine Kd.C_alloc ?_ _) | (with_reducible refine Kd.C_drewN ?_ _) | (with_reducible refine Kd.C_drew ?_))); (case side2 => exact HC0_1.out); rintro e w8 ⟨rfl, hb⟩; refine ⟨_, rfl, ?_⟩; have n0_ := Aside0.mk (blk_below (g := gb941) (o := .cells #[.int .i64 a0_0, .slice A0_1 l0_1.length c0_1] 29 (0, 0)) (by (with_reducible repeat (first | refine blk_drewN ?_ _ | refine blk_drew ?_ | refine blk_alloc ?_ _)); exact BK941.out) hb); have n1_ := Aside0.mk (below_step (by repeat (first | (with_reducible first | exact HB.out | apply below_alloc | apply pw_below_drewN | apply below_drew1 | refine below_set ?_ GE941.out) | exact HB.out)) hb); clear BK941; clear HB; have BK941 := n0_; have HB := n1_; clear n0_ n1_; (try clear hb); (try clear hb2); (try clear hk); (try clear hi)) | ((with_reducible refine gate_callee (f := 73) rfl ?_); refine goesL_ (some 12) rfl rfl Try.func73 (by kernel_rfl) rfl #[.pointer (some ⟨gb941, 0, none⟩)] rfl (by (try simp only [List.map_toArray, List.map_cons, List.map_nil]); first | done | rfl | (simp only [List.length_drop, List.length_take]; rfl)) ?_; (with_reducible refine (impl_Hyper_none.calls gb941 a0_0 A0_1 c0_1 l0_1 t943 _ ?side1 ?side2 ?side3 A5.out).mono ?_); (case side1 => repeat (first | exact (Kd.C_below HR0_1.out HB.out) | (with_reducible refine Kd.C_alloc ?_ _) | (with_reducible refine Kd.C_drewN ?_ _) | (with_reducible refine Kd.C_drew ?_))); (case side2 => exact HC0_1.out); (case side3 => exact (by (with_reducible repeat (first | refine blk_drewN ?_ _ | refine blk_drew ?_ | refine blk_alloc ?_ _)); exact BK941.out)); rintro e w9 ⟨v944, rfl, ho0, hb⟩; refine ⟨_, rfl, ?_⟩; have n0_ := Aside0.mk (Kd.R_lower ho0 (below_size (by repeat (first | (with_reducible first | exact HB.out | apply below_alloc | apply pw_below_drewN | apply below_drew1 | refine below_set ?_ GE941.out) | exact HB.out)))); have n1_ := Aside0.mk (blk_below (g := gb941) (o := .cells #[.int .i64 a0_0, .slice A0_1 l0_1.length c0_1] 29 (0, 0)) (by (with_reducible repeat (first | refine blk_drewN ?_ _ | refine blk_drew ?_ | refine blk_alloc ?_ _)); exact BK941.out) hb); have n2_ := Aside0.mk (below_step (by repeat (first | (with_reducible first | exact HB.out | apply below_alloc | apply pw_below_drewN | apply below_drew1 | refine below_set ?_ GE941.out) | exact HB.out)) hb); clear BK941; clear HB; have HO945 := n0_; have BK941 := n1_; have HB := n2_; clear n0_ n1_ n2_; (try clear hb); (try clear hb2); (try clear hk); (try clear hi); (try clear ho0)))
   go_loopg [15] k (fun kq v15 w' => ∃ (x6_1 : List Bool) (x15_1 : Int), v15 = .int .i64 x15_1 ∧ Aside0 (impl_IsPeelOrder.l0 kq x6_1 l1 (l1.length : Int) x15_1 a0_0 l0_1 = some (r1, r2)) ∧ Aside0 (kq ≤ k) ∧ Aside0 (Kd.R Kd.bool 4 w' w.heap.size (fun _ => True) v944 x6_1) ∧ Aside0 (w'.heap[gb941]? = some (.cells #[.int .i64 a0_0, (.slice A0_1 l0_1.length c0_1)] 29 (0, 0))) ∧ Aside0 (Below w.heap.size w w'))
   case atStart => exact ⟨(t943), (0), (by first | rfl | (simp; done) | (simp [*]; done)), H', ⟨Nat.le_refl _⟩, ⟨by (with_reducible repeat (first | apply Kd.R_alloc | apply Kd.R_drewN | apply Kd.R_drew)); exact HO945.out⟩, ⟨by (with_reducible repeat (first | refine blk_drewN ?_ _ | refine blk_drew ?_ | refine blk_alloc ?_ _)); exact BK941.out⟩, ⟨by repeat (first | (with_reducible first | exact HB.out | apply below_alloc | apply pw_below_drewN | apply below_drew1 | refine below_set ?_ GE941.out) | exact HB.out)⟩⟩
   case round =>
    clear H'
    try clear c1
    try clear p2
    try clear c4
    try clear c5
    try clear c7
    try clear hcz7_0
    try clear hcz7_1
    try clear hfz7_0
    try clear hfz7_1
    obtain ⟨x6_1, x15_1, rfl, HA, HK1, HO_6, BK941, HB⟩ := hrel
    cases gk with
    | zero => exact absurd HA.out (by simp [impl_IsPeelOrder.l0])
    | succ k1 =>
     have H := HA.out
     clear HA
     simp only [impl_IsPeelOrder.l0] at H
     by_cases c10 : x15_1 < (l1.length : Int)
     ·rw [if_pos c10] at H
      have c10b0 : decide (x15_1 < (l1.length : Int)) = true := decide_eq_true c10
      clear c10
      by_cases c11 : 0 ≤ x15_1
      ·rw [if_pos c11] at H
       have c11b0 : decide (0 ≤ x15_1) = true := decide_eq_true c11
       clear c11
       by_cases c12 : x15_1 < (l1.length : Int)
       ·rw [if_pos c12] at H
        have c12b0 : decide (x15_1 < (l1.length : Int)) = true := decide_eq_true c12
        clear c12
        replace H := Option.bind_eq_some_iff.mp H
        obtain ⟨t951, A130, H⟩ := H
        replace H : (if t951 = true then (if 0 ≤ ((rd_T88 l1 x15_1).f0) then (if ((rd_T88 l1 x15_1).f0) < (x6_1.length : Int) then (if rdOf false x6_1 ((rd_T88 l1 x15_1).f0) = true then (some (false, true)) else (if ((rd_T88 l1 x15_1).f0) < (l0_1.length : Int) then ((slices_Contains_int_int.f k1 (rd_L1 l0_1 ((rd_T88 l1 x15_1).f0)) ((rd_T88 l1 x15_1).f1)).bind fun t954 => (if t954 = true then ((impl_Hyper_degrees.f k1 a0_0 l0_1 x6_1).bind fun t955 => (if 0 ≤ ((rd_T88 l1 x15_1).f1) then (if ((rd_T88 l1 x15_1).f1) < (t955.length : Int) then (if (rd t955 ((rd_T88 l1 x15_1).f1)) = 1 then (impl_IsPeelOrder.l0 k1 (x6_1.set (((rd_T88 l1 x15_1).f0) : Int).toNat true) l1 (l1.length : Int) (wrap64 (x15_1 + 1)) a0_0 l0_1) else (some (false, true))) else (none)) else (none))) else (some (false, true)))) else (none))) else (none)) else (none)) else (some (false, true))) = some (r1, r2) := H
        have A13 := Aside0.mk A130
        clear A130
        by_cases c14 : t951 = true
        ·subst c14
         have H1 : (if 0 ≤ ((rd_T88 l1 x15_1).f0) then (if ((rd_T88 l1 x15_1).f0) < (x6_1.length : Int) then (if rdOf false x6_1 ((rd_T88 l1 x15_1).f0) = true then (some (false, true)) else (if ((rd_T88 l1 x15_1).f0) < (l0_1.length : Int) then ((slices_Contains_int_int.f k1 (rd_L1 l0_1 ((rd_T88 l1 x15_1).f0)) ((rd_T88 l1 x15_1).f1)).bind fun t954 => (if t954 = true then ((impl_Hyper_degrees.f k1 a0_0 l0_1 x6_1).bind fun t955 => (if 0 ≤ ((rd_T88 l1 x15_1).f1) then (if ((rd_T88 l1 x15_1).f1) < (t955.length : Int) then (if (rd t955 ((rd_T88 l1 x15_1).f1)) = 1 then (impl_IsPeelOrder.l0 k1 (x6_1.set (((rd_T88 l1 x15_1).f0) : Int).toNat true) l1 (l1.length : Int) (wrap64 (x15_1 + 1)) a0_0 l0_1) else (some (false, true))) else (none)) else (none))) else (some (false, true)))) else (none))) else (none)) else (none)) = some (r1, r2) := by rw [if_pos rfl] at H; exact H
         clear H
         have H := H1
         clear H1
         by_cases c15 : 0 ≤ ((rd_T88 l1 x15_1).f0)
         ·rw [if_pos c15] at H
          have c15b0 : decide (0 ≤ ((rd_T88 l1 x15_1).f0)) = true := decide_eq_true c15
          clear c15
          by_cases c16 : ((rd_T88 l1 x15_1).f0) < (x6_1.length : Int)
          ·rw [if_pos c16] at H
           have c16b0 : decide (((rd_T88 l1 x15_1).f0) < (x6_1.length : Int)) = true := decide_eq_true c16
           clear c16
           obtain ⟨bq17, hbq17⟩ : ∃ b_ : Bool, b_ = (rdOf false x6_1 ((rd_T88 l1 x15_1).f0)) := ⟨_, rfl⟩
           replace H : (if bq17 = true then (some (false, true)) else (if ((rd_T88 l1 x15_1).f0) < (l0_1.length : Int) then ((slices_Contains_int_int.f k1 (rd_L1 l0_1 ((rd_T88 l1 x15_1).f0)) ((rd_T88 l1 x15_1).f1)).bind fun t954 => (if t954 = true then ((impl_Hyper_degrees.f k1 a0_0 l0_1 x6_1).bind fun t955 => (if 0 ≤ ((rd_T88 l1 x15_1).f1) then (if ((rd_T88 l1 x15_1).f1) < (t955.length : Int) then (if (rd t955 ((rd_T88 l1 x15_1).f1)) = 1 then (impl_IsPeelOrder.l0 k1 (x6_1.set (((rd_T88 l1 x15_1).f0) : Int).toNat true) l1 (l1.length : Int) (wrap64 (x15_1 + 1)) a0_0 l0_1) else (some (false, true))) else (none)) else (none))) else (some (false, true)))) else (none))) = some (r1, r2) := by rw [← hbq17] at H; exact H
           have Nbq17 := Aside0.mk hbq17
           clear hbq17
           by_cases c18 : bq17 = true
           ·subst c18
            have H1 : (some (false, true)) = some (r1, r2) := by rw [if_pos rfl] at H; exact H
            clear H
            have H := H1
            clear H1
            simp only [Option.some.injEq, Prod.mk.injEq] at H
            obtain ⟨rfl, rfl⟩ := H
            have p949 : 0 ≤ (x15_1 : Int) := of_decide_eq_true (by first | (with_reducible assumption) | assumption)
            have q949 : x15_1 < (l1.length : Int) := of_decide_eq_true (by first | (with_reducible assumption) | assumption)
            obtain ⟨ad949, e949, hx949_0, hx949_1⟩ := at_T88 HR1.out x15_1 p949 q949
            cases e949
            replace hx949_0 := (HB.out.cell (World.block_lt_of_cell? w _ hx949_0)).trans hx949_0
            replace hx949_1 := (HB.out.cell (World.block_lt_of_cell? w _ hx949_1)).trans hx949_1
            replace p949 := eq_true p949
            replace q949 := eq_true q949
            try go_wp2_with (first | ((with_reducible refine gate_dst (N := 8) rfl ?_); refine box_event ?hg (N := 8) ?hd (cs := #[.int .i64 0, .int .i64 0]) (t := 88) ?hr ?_; (case hd => rfl); (case hg => rfl); (case hr => first | (go_simp; done) | (go_simp; rfl)); intro gb950 hg w19 hbox hb; have n0_ := Aside0.mk (Kd.R_below (by (with_reducible repeat (first | apply Kd.R_alloc | apply Kd.R_drewN | apply Kd.R_drew)); exact HO_6.out) hb); have n1_ := Aside0.mk (blk_below (g := gb941) (o := .cells #[.int .i64 a0_0, .slice A0_1 l0_1.length c0_1] 29 (0, 0)) (by (with_reducible repeat (first | refine blk_drewN ?_ _ | refine blk_drew ?_ | refine blk_alloc ?_ _)); exact BK941.out) hb); have n2_ := Aside0.mk (below_step (by repeat (first | (with_reducible first | exact HB.out | apply below_alloc | apply pw_below_drewN | apply below_drew1 | refine below_set ?_ GE941.out) | exact HB.out)) hb); have n3_ := Aside0.mk (hbox); have n4_ := Aside0.mk ((by rw [hg]; exact (below_size (by repeat (first | (with_reducible first | exact HB.out | apply below_alloc | apply pw_below_drewN | apply below_drew1 | refine below_set ?_ GE941.out) | exact HB.out))) : w.heap.size ≤ gb950)); have n5_ := Aside0.mk ((by rw [hg]; exact (below_size (by repeat (first | (with_reducible first | exact HB.out | apply below_alloc | apply pw_below_drewN | apply below_drew1 | refine below_set ?_ GE941.out) | exact HB.out))) : w.heap.size ≤ gb950)); have n6_ := Aside0.mk ((by rw [hg]; exact Nat.ne_of_lt (blk_lt (g := gb941) (o := .cells #[.int .i64 a0_0, .slice A0_1 l0_1.length c0_1] 29 (0, 0)) (by (with_reducible repeat (first | refine blk_drewN ?_ _ | refine blk_drew ?_ | refine blk_alloc ?_ _)); exact BK941.out)) : gb941 ≠ gb950)); have n7_ := Aside0.mk ((by rw [hg]; exact Nat.ne_of_gt (blk_lt (g := gb941) (o := .cells #[.int .i64 a0_0, .slice A0_1 l0_1.length c0_1] 29 (0, 0)) (by (with_reducible repeat (first | refine blk_drewN ?_ _ | refine blk_drew ?_ | refine blk_alloc ?_ _)); exact BK941.out)) : gb950 ≠ gb941)); clear HO_6; clear BK941; clear HB; have HO_6 := n0_; have BK941 := n1_; have HB := n2_; have BK950 := n3_; have GW950 := n4_; have GE950 := n5_; have NB941_950 := n6_; have NB950_941 := n7_; clear n0_ n1_ n2_ n3_ n4_ n5_ n6_ n7_; clear hb hbox hg; have hnb20 := NB950_941.out; have hnc20 := NB941_950.out; have hcz21_0 : w19.cell? ⟨gb950, 0, none⟩ = some (.int .i64 0) := (blk_cell BK950.out 0).trans rfl; have hcz21_1 : w19.cell? ⟨gb950, 1, none⟩ = some (.int .i64 0) := (blk_cell BK950.out 1).trans rfl; have hfz21_0 := blk_frozen BK950.out 0; have hfz21_1 := blk_frozen BK950.out 1))
            have n0_ : Aside0 (Kd.R Kd.bool 4 ((w19.setCell ⟨gb950, 0, none⟩ (.int .i64 ((rd_T88 l1 x15_1).f0))).setCell ⟨gb950, 1, none⟩ (.int .i64 ((rd_T88 l1 x15_1).f1))) w.heap.size (fun _ => True) v944 x6_1) := ⟨by (with_reducible repeat (first | apply Kd.R_alloc | apply Kd.R_drewN | apply Kd.R_drew)); exact Kd.R_mono (Kd.R_far (p := ⟨gb950, 1, none⟩) (Kd.R_far (p := ⟨gb950, 0, none⟩) (Kd.R_types HO_6.out BK950.out (by decide)) (fun _ hk => hk.2) (.int .i64 ((rd_T88 l1 x15_1).f0))) (fun _ hk => hk.2) (.int .i64 ((rd_T88 l1 x15_1).f1))) (fun _ hk => trivial)⟩
            have n1_ : Aside0 (((w19.setCell ⟨gb950, 0, none⟩ (.int .i64 ((rd_T88 l1 x15_1).f0))).setCell ⟨gb950, 1, none⟩ (.int .i64 ((rd_T88 l1 x15_1).f1))).heap[gb941]? = some (.cells #[.int .i64 a0_0, .slice A0_1 l0_1.length c0_1] 29 (0, 0))) := ⟨by (with_reducible repeat (first | refine blk_drewN ?_ _ | refine blk_drew ?_ | refine blk_alloc ?_ _)); refine blk_far ?_ NB941_950.out _; (with_reducible repeat (first | refine blk_drewN ?_ _ | refine blk_drew ?_ | refine blk_alloc ?_ _)); refine blk_far ?_ NB941_950.out _; (with_reducible repeat (first | refine blk_drewN ?_ _ | refine blk_drew ?_ | refine blk_alloc ?_ _)); exact BK941.out⟩
            have n2_ : Aside0 (((w19.setCell ⟨gb950, 0, none⟩ (.int .i64 ((rd_T88 l1 x15_1).f0))).setCell ⟨gb950, 1, none⟩ (.int .i64 ((rd_T88 l1 x15_1).f1))).heap[gb950]? = some (.cells #[.int .i64 ((rd_T88 l1 x15_1).f0), .int .i64 ((rd_T88 l1 x15_1).f1)] 88 (0, 0))) := ⟨by (with_reducible repeat (first | refine blk_drewN ?_ _ | refine blk_drew ?_ | refine blk_alloc ?_ _)); refine blk_put (cs := #[.int .i64 ((rd_T88 l1 x15_1).f0), .int .i64 0]) ?_ 1 _ rfl; (with_reducible repeat (first | refine blk_drewN ?_ _ | refine blk_drew ?_ | refine blk_alloc ?_ _)); refine blk_put (cs := #[.int .i64 0, .int .i64 0]) ?_ 0 _ rfl; (with_reducible repeat (first | refine blk_drewN ?_ _ | refine blk_drew ?_ | refine blk_alloc ?_ _)); exact BK950.out⟩
            have n3_ : Aside0 (Below w.heap.size w ((w19.setCell ⟨gb950, 0, none⟩ (.int .i64 ((rd_T88 l1 x15_1).f0))).setCell ⟨gb950, 1, none⟩ (.int .i64 ((rd_T88 l1 x15_1).f1)))) := ⟨by repeat (first | (with_reducible first | exact HB.out | apply below_alloc | apply pw_below_drewN | apply below_drew1 | refine below_set ?_ GE941.out | refine below_set ?_ GE950.out) | exact HB.out)⟩
            (try clear HO_6)
            (try clear BK941)
            (try clear BK950)
            (try clear HB)
            generalize ((w19.setCell ⟨gb950, 0, none⟩ (.int .i64 ((rd_T88 l1 x15_1).f0))).setCell ⟨gb950, 1, none⟩ (.int .i64 ((rd_T88 l1 x15_1).f1))) = w22 at n0_ n1_ n2_ n3_ ⊢
            have HO_6 := n0_
            have BK941 := n1_
            have BK950 := n2_
            have HB := n3_
            clear n0_ n1_ n2_ n3_
            have n0_ := Aside0.mk (Kd.R_drew HO_6.out)
            have n1_ := Aside0.mk (blk_drew BK941.out)
            have n2_ := Aside0.mk (blk_drew BK950.out)
            have n3_ := Aside0.mk (below_drew1 HB.out)
            clear HO_6
            clear BK941
            clear BK950
            clear HB
            have HO_6 := n0_
            have BK941 := n1_
            have BK950 := n2_
            have HB := n3_
            clear n0_ n1_ n2_ n3_
            obtain ⟨Ao24, co24, eo24⟩ := Kd.R_slice HO_6.out
            (first | subst eo24 | (injection eo24 with f1_ f2_ f3_; have f4_ := f1_.symm; have f5_ := f3_.symm; clear f1_ f2_ f3_; subst f4_; subst f5_))
            have p952 : 0 ≤ (((rd_T88 l1 x15_1).f0) : Int) := of_decide_eq_true (by first | (with_reducible assumption) | assumption)
            have q952 : ((rd_T88 l1 x15_1).f0) < (x6_1.length : Int) := of_decide_eq_true (by first | (with_reducible assumption) | assumption)
            obtain ⟨ad952, e952, hx952_0⟩ := Kd.at_bool (Kd.R_reads' HO_6.out).2.2 ((rd_T88 l1 x15_1).f0) p952 q952
            (try rw [← Nbq17.out] at hx952_0)
            cases e952
            replace p952 := eq_true p952
            replace q952 := eq_true q952
            refine start_ (n := 36) (S := fun w' => w'.cell? ⟨gb950, 0, none⟩ = some (.int .i64 ((rd_T88 l1 x15_1).f0)) ∧ w'.cell? ⟨gb950, 1, none⟩ = some (.int .i64 ((rd_T88 l1 x15_1).f1)) ∧ w'.cell? ⟨gb941, 0, none⟩ = some (.int .i64 a0_0) ∧ w'.cell? ⟨gb941, 1, none⟩ = some (.slice A0_1 l0_1.length c0_1) ∧ w'.cell? (ad952.add (((rd_T88 l1 x15_1).f0)).toNat) = some (.bool true)) (ds := []) #[false, false, false, false, false, false, false, false, false, false, false, false, false, false, false, false, false, false, false, false, false, false, false, false, false, false, false, false, false, false, false, false, false, false, false, false] (by kernel_rfl) rfl rfl ⟨(blk_cell BK950.out 0).trans rfl, (blk_cell BK950.out 1).trans rfl, (blk_cell BK941.out 0).trans rfl, (blk_cell BK941.out 1).trans rfl, hx952_0⟩ (fun hHeld => ?_); refine with_tabW impl_IsPeelOrder.tab7 impl_IsPeelOrder.bits7 (fun HT_ HW_ => ?_)
            generalize w22.drew = w23 at HO_6 BK941 BK950 HB hx952_0 hHeld ⊢
            refine pq_ 0 19 36 1 HT_.out (by kernel_rfl) ?_
            refine pq_ 2 21 36 5 HT_.out (by kernel_rfl) ?_
            refine tq_ 1 20 36 7 HT_.out HW_.out (by kernel_rfl) hHeld ?_ rfl (by rintro w' ⟨s0, s1, s2, s3, s4⟩; go_simp; with_reducible rfl)
            refine tq_ 3 22 36 15 HT_.out HW_.out (by kernel_rfl) hHeld ?_ rfl (by rintro w' ⟨s0, s1, s2, s3, s4⟩; go_simp; with_reducible rfl)
            refine pq_ 4 23 36 31 HT_.out (by kernel_rfl) ?_
            refine pq_ 5 24 36 63 HT_.out (by kernel_rfl) ?_
            refine one_ (i := 6) (N := some 25) (bsA 36 127) rfl rfl (one_of HT_.out (by kernel_rfl)) (by decide) (fun K hK => ?_)
            refine goes_ Try.func76 (by kernel_rfl) rfl #[.int .i64 ((rd_T88 l1 x15_1).f0), .int .i64 0, .int .i64 (wrap64 ((l0_1.length : Int) - 1))] (by rfl) rfl rfl (by (try simp only [List.map_toArray, List.map_cons, List.map_nil]); first | done | rfl | (simp only [List.length_drop, List.length_take]; rfl)) ?_
            with_reducible refine (impl_in.calls ((rd_T88 l1 x15_1).f0) 0 (wrap64 ((l0_1.length : Int) - 1)) true _ A13.out).mono ?_
            rintro e w' ⟨rfl, ⟨nd, rfl⟩⟩
            refine ⟨_, rfl, ?_⟩
            refine hK.out _ _ ⟨(blk_cell BK950.out 0).trans rfl, (blk_cell BK950.out 1).trans rfl, (blk_cell BK941.out 0).trans rfl, (blk_cell BK941.out 1).trans rfl, hHeld.2.2.2.2⟩ (fun hHeld => ?_)
            clear hK K
            refine norm_ (a' := ?_) ?_ ?_
            rotate_left
            ·show Act.put _ (some 25) _ = _
             simp only [Act.put, List.setIfInBounds_toArray, List.set_cons_zero, List.set_cons_succ, i64_w]
             rfl
            refine pq_ 7 26 36 255 HT_.out (by kernel_rfl) ?_
            refine pq_ 8 27 36 511 HT_.out (by kernel_rfl) ?_
            refine pq_ 9 28 36 1023 HT_.out (by kernel_rfl) ?_
            refine pq_ 10 29 36 2047 HT_.out (by kernel_rfl) ?_
            refine tq_ 11 30 36 4095 HT_.out HW_.out (by kernel_rfl) hHeld ?_ rfl (by rintro w' ⟨s0, s1, s2, s3, s4⟩; go_simp; with_reducible rfl)
            refine pq_ 12 31 36 8191 HT_.out (by kernel_rfl) ?_
            refine tq_ 13 32 36 16383 HT_.out HW_.out (by kernel_rfl) hHeld ?_ rfl (by rintro w' ⟨s0, s1, s2, s3, s4⟩; go_simp; with_reducible rfl)
            refine pq_ 14 33 36 32767 HT_.out (by kernel_rfl) ?_
            refine pq_ 15 34 36 65535 HT_.out (by kernel_rfl) ?_
            refine uq_ 16 35 36 131071 HT_.out (by kernel_rfl) ?_
            refine uq_ 17 36 36 262143 HT_.out (by kernel_rfl) ?_
            refine uq_ 18 37 36 524287 HT_.out (by kernel_rfl) ?_
            refine uq_ 19 38 36 1048575 HT_.out (by kernel_rfl) ?_
            refine uq_ 20 39 36 2097151 HT_.out (by kernel_rfl) ?_
            refine uq_ 21 40 36 4194303 HT_.out (by kernel_rfl) ?_
            refine uq_ 22 41 36 8388607 HT_.out (by kernel_rfl) ?_
            refine uq_ 23 42 36 16777215 HT_.out (by kernel_rfl) ?_
            refine uq_ 24 43 36 33554431 HT_.out (by kernel_rfl) ?_
            refine uq_ 25 44 36 67108863 HT_.out (by kernel_rfl) ?_
            refine pq_ 26 45 36 134217727 HT_.out (by kernel_rfl) ?_
            refine pq_ 27 46 36 268435455 HT_.out (by kernel_rfl) ?_
            refine uq_ 28 47 36 536870911 HT_.out (by kernel_rfl) ?_
            refine uq_ 29 48 36 1073741823 HT_.out (by kernel_rfl) ?_
            refine uq_ 30 49 36 2147483647 HT_.out (by kernel_rfl) ?_
            refine uq_ 31 50 36 4294967295 HT_.out (by kernel_rfl) ?_
            refine uq_ 32 51 36 8589934591 HT_.out (by kernel_rfl) ?_
            refine uq_ 33 52 36 17179869183 HT_.out (by kernel_rfl) ?_
            refine uq_ 34 53 36 34359738367 HT_.out (by kernel_rfl) ?_
            refine pq_ 35 54 36 68719476735 HT_.out (by kernel_rfl) ?_
            refine done_ (done_of HT_.out (by kernel_rfl)) ?_
            try go_wp2
            go_ret2
            exact ⟨by first | rfl | (simp [errW_none, errW_some] <;> rfl) | (simp [*, errW_none, errW_some] <;> rfl), by repeat (first | (with_reducible first | exact HB.out | apply below_alloc | apply pw_below_drewN | apply below_drew1 | refine below_set ?_ GE941.out | refine below_set ?_ GE950.out) | exact HB.out)⟩
           ·replace c18 := Bool.eq_false_iff.mpr c18
            subst c18
            have H1 : (if ((rd_T88 l1 x15_1).f0) < (l0_1.length : Int) then ((slices_Contains_int_int.f k1 (rd_L1 l0_1 ((rd_T88 l1 x15_1).f0)) ((rd_T88 l1 x15_1).f1)).bind fun t954 => (if t954 = true then ((impl_Hyper_degrees.f k1 a0_0 l0_1 x6_1).bind fun t955 => (if 0 ≤ ((rd_T88 l1 x15_1).f1) then (if ((rd_T88 l1 x15_1).f1) < (t955.length : Int) then (if (rd t955 ((rd_T88 l1 x15_1).f1)) = 1 then (impl_IsPeelOrder.l0 k1 (x6_1.set (((rd_T88 l1 x15_1).f0) : Int).toNat true) l1 (l1.length : Int) (wrap64 (x15_1 + 1)) a0_0 l0_1) else (some (false, true))) else (none)) else (none))) else (some (false, true)))) else (none)) = some (r1, r2) := by rw [if_neg (show ¬ (false = true) by decide)] at H; exact H
            clear H
            have H := H1
            clear H1
            by_cases c25 : ((rd_T88 l1 x15_1).f0) < (l0_1.length : Int)
            ·rw [if_pos c25] at H
             have c25b0 : decide (((rd_T88 l1 x15_1).f0) < (l0_1.length : Int)) = true := decide_eq_true c25
             clear c25
             replace H := Option.bind_eq_some_iff.mp H
             obtain ⟨t954, A260, H⟩ := H
             replace H : (if t954 = true then ((impl_Hyper_degrees.f k1 a0_0 l0_1 x6_1).bind fun t955 => (if 0 ≤ ((rd_T88 l1 x15_1).f1) then (if ((rd_T88 l1 x15_1).f1) < (t955.length : Int) then (if (rd t955 ((rd_T88 l1 x15_1).f1)) = 1 then (impl_IsPeelOrder.l0 k1 (x6_1.set (((rd_T88 l1 x15_1).f0) : Int).toNat true) l1 (l1.length : Int) (wrap64 (x15_1 + 1)) a0_0 l0_1) else (some (false, true))) else (none)) else (none))) else (some (false, true))) = some (r1, r2) := H
             have A26 := Aside0.mk A260
             clear A260
             by_cases c27 : t954 = true
             ·subst c27
              have H1 : ((impl_Hyper_degrees.f k1 a0_0 l0_1 x6_1).bind fun t955 => (if 0 ≤ ((rd_T88 l1 x15_1).f1) then (if ((rd_T88 l1 x15_1).f1) < (t955.length : Int) then (if (rd t955 ((rd_T88 l1 x15_1).f1)) = 1 then (impl_IsPeelOrder.l0 k1 (x6_1.set (((rd_T88 l1 x15_1).f0) : Int).toNat true) l1 (l1.length : Int) (wrap64 (x15_1 + 1)) a0_0 l0_1) else (some (false, true))) else (none)) else (none))) = some (r1, r2) := by rw [if_pos rfl] at H; exact H
              clear H
              have H := H1
              clear H1
              replace H := Option.bind_eq_some_iff.mp H
              obtain ⟨t955, A280, H⟩ := H
              replace H : (if 0 ≤ ((rd_T88 l1 x15_1).f1) then (if ((rd_T88 l1 x15_1).f1) < (t955.length : Int) then (if (rd t955 ((rd_T88 l1 x15_1).f1)) = 1 then (impl_IsPeelOrder.l0 k1 (x6_1.set (((rd_T88 l1 x15_1).f0) : Int).toNat true) l1 (l1.length : Int) (wrap64 (x15_1 + 1)) a0_0 l0_1) else (some (false, true))) else (none)) else (none)) = some (r1, r2) := H
              have A28 := Aside0.mk A280
              clear A280
              by_cases c29 : 0 ≤ ((rd_T88 l1 x15_1).f1)
              ·rw [if_pos c29] at H
               have c29b0 : decide (0 ≤ ((rd_T88 l1 x15_1).f1)) = true := decide_eq_true c29
               clear c29
               by_cases c30 : ((rd_T88 l1 x15_1).f1) < (t955.length : Int)
               ·rw [if_pos c30] at H
                have c30b0 : decide (((rd_T88 l1 x15_1).f1) < (t955.length : Int)) = true := decide_eq_true c30
                clear c30
                by_cases c31 : (rd t955 ((rd_T88 l1 x15_1).f1)) = 1
                ·rw [if_pos c31] at H
                 have c31b0 : ((rd t955 ((rd_T88 l1 x15_1).f1)) == 1) = true := beq_iff_eq.mpr c31
                 have c31b1 : ((rd t955 ((rd_T88 l1 x15_1).f1)) != 1) = false := bne_eq_false_iff_eq.mpr c31
                 clear c31
                 obtain ⟨y959, hy959⟩ : ∃ y_ : List Bool, y_ = (x6_1.set (((rd_T88 l1 x15_1).f0) : Int).toNat true) := ⟨_, rfl⟩
                 replace H : (impl_IsPeelOrder.l0 k1 y959 l1 (l1.length : Int) (wrap64 (x15_1 + 1)) a0_0 l0_1) = some (r1, r2) := by first | (rw [hy959]; with_reducible exact H) | (have H2_ := (Option.bind_some _ _).symm.trans H; rw [hy959]; with_reducible exact H2_) | (have H2_ := (Option.bind_some _ _).symm.trans H; with_reducible exact H2_) | with_reducible exact H | (rw [hy959]; exact H) | exact H
                 have Ny959 := Aside0.mk hy959
                 clear hy959
                 have H' := Aside0.mk H
                 clear H
                 have p949 : 0 ≤ (x15_1 : Int) := of_decide_eq_true (by first | (with_reducible assumption) | assumption)
                 have q949 : x15_1 < (l1.length : Int) := of_decide_eq_true (by first | (with_reducible assumption) | assumption)
                 obtain ⟨ad949, e949, hx949_0, hx949_1⟩ := at_T88 HR1.out x15_1 p949 q949
                 cases e949
                 replace hx949_0 := (HB.out.cell (World.block_lt_of_cell? w _ hx949_0)).trans hx949_0
                 replace hx949_1 := (HB.out.cell (World.block_lt_of_cell? w _ hx949_1)).trans hx949_1
                 replace p949 := eq_true p949
                 replace q949 := eq_true q949
                 try go_wp2_with (first | ((with_reducible refine gate_dst (N := 8) rfl ?_); refine box_event ?hg (N := 8) ?hd (cs := #[.int .i64 0, .int .i64 0]) (t := 88) ?hr ?_; (case hd => rfl); (case hg => rfl); (case hr => first | (go_simp; done) | (go_simp; rfl)); intro gb950 hg w33 hbox hb; have n0_ := Aside0.mk (Kd.R_below (by (with_reducible repeat (first | apply Kd.R_alloc | apply Kd.R_drewN | apply Kd.R_drew)); exact HO_6.out) hb); have n1_ := Aside0.mk (blk_below (g := gb941) (o := .cells #[.int .i64 a0_0, .slice A0_1 l0_1.length c0_1] 29 (0, 0)) (by (with_reducible repeat (first | refine blk_drewN ?_ _ | refine blk_drew ?_ | refine blk_alloc ?_ _)); exact BK941.out) hb); have n2_ := Aside0.mk (below_step (by repeat (first | (with_reducible first | exact HB.out | apply below_alloc | apply pw_below_drewN | apply below_drew1 | refine below_set ?_ GE941.out) | exact HB.out)) hb); have n3_ := Aside0.mk (hbox); have n4_ := Aside0.mk ((by rw [hg]; exact (below_size (by repeat (first | (with_reducible first | exact HB.out | apply below_alloc | apply pw_below_drewN | apply below_drew1 | refine below_set ?_ GE941.out) | exact HB.out))) : w.heap.size ≤ gb950)); have n5_ := Aside0.mk ((by rw [hg]; exact (below_size (by repeat (first | (with_reducible first | exact HB.out | apply below_alloc | apply pw_below_drewN | apply below_drew1 | refine below_set ?_ GE941.out) | exact HB.out))) : w.heap.size ≤ gb950)); have n6_ := Aside0.mk ((by rw [hg]; exact Nat.ne_of_lt (blk_lt (g := gb941) (o := .cells #[.int .i64 a0_0, .slice A0_1 l0_1.length c0_1] 29 (0, 0)) (by (with_reducible repeat (first | refine blk_drewN ?_ _ | refine blk_drew ?_ | refine blk_alloc ?_ _)); exact BK941.out)) : gb941 ≠ gb950)); have n7_ := Aside0.mk ((by rw [hg]; exact Nat.ne_of_gt (blk_lt (g := gb941) (o := .cells #[.int .i64 a0_0, .slice A0_1 l0_1.length c0_1] 29 (0, 0)) (by (with_reducible repeat (first | refine blk_drewN ?_ _ | refine blk_drew ?_ | refine blk_alloc ?_ _)); exact BK941.out)) : gb950 ≠ gb941)); clear HO_6; clear BK941; clear HB; have HO_6 := n0_; have BK941 := n1_; have HB := n2_; have BK950 := n3_; have GW950 := n4_; have GE950 := n5_; have NB941_950 := n6_; have NB950_941 := n7_; clear n0_ n1_ n2_ n3_ n4_ n5_ n6_ n7_; clear hb hbox hg; have hnb34 := NB950_941.out; have hnc34 := NB941_950.out; have hcz35_0 : w33.cell? ⟨gb950, 0, none⟩ = some (.int .i64 0) := (blk_cell BK950.out 0).trans rfl; have hcz35_1 : w33.cell? ⟨gb950, 1, none⟩ = some (.int .i64 0) := (blk_cell BK950.out 1).trans rfl; have hfz35_0 := blk_frozen BK950.out 0; have hfz35_1 := blk_frozen BK950.out 1))
                 have n0_ : Aside0 (Kd.R Kd.bool 4 ((w33.setCell ⟨gb950, 0, none⟩ (.int .i64 ((rd_T88 l1 x15_1).f0))).setCell ⟨gb950, 1, none⟩ (.int .i64 ((rd_T88 l1 x15_1).f1))) w.heap.size (fun _ => True) v944 x6_1) := ⟨by (with_reducible repeat (first | apply Kd.R_alloc | apply Kd.R_drewN | apply Kd.R_drew)); exact Kd.R_mono (Kd.R_far (p := ⟨gb950, 1, none⟩) (Kd.R_far (p := ⟨gb950, 0, none⟩) (Kd.R_types HO_6.out BK950.out (by decide)) (fun _ hk => hk.2) (.int .i64 ((rd_T88 l1 x15_1).f0))) (fun _ hk => hk.2) (.int .i64 ((rd_T88 l1 x15_1).f1))) (fun _ hk => trivial)⟩
                 have n1_ : Aside0 (((w33.setCell ⟨gb950, 0, none⟩ (.int .i64 ((rd_T88 l1 x15_1).f0))).setCell ⟨gb950, 1, none⟩ (.int .i64 ((rd_T88 l1 x15_1).f1))).heap[gb941]? = some (.cells #[.int .i64 a0_0, .slice A0_1 l0_1.length c0_1] 29 (0, 0))) := ⟨by (with_reducible repeat (first | refine blk_drewN ?_ _ | refine blk_drew ?_ | refine blk_alloc ?_ _)); refine blk_far ?_ NB941_950.out _; (with_reducible repeat (first | refine blk_drewN ?_ _ | refine blk_drew ?_ | refine blk_alloc ?_ _)); refine blk_far ?_ NB941_950.out _; (with_reducible repeat (first | refine blk_drewN ?_ _ | refine blk_drew ?_ | refine blk_alloc ?_ _)); exact BK941.out⟩
                 have n2_ : Aside0 (((w33.setCell ⟨gb950, 0, none⟩ (.int .i64 ((rd_T88 l1 x15_1).f0))).setCell ⟨gb950, 1, none⟩ (.int .i64 ((rd_T88 l1 x15_1).f1))).heap[gb950]? = some (.cells #[.int .i64 ((rd_T88 l1 x15_1).f0), .int .i64 ((rd_T88 l1 x15_1).f1)] 88 (0, 0))) := ⟨by (with_reducible repeat (first | refine blk_drewN ?_ _ | refine blk_drew ?_ | refine blk_alloc ?_ _)); refine blk_put (cs := #[.int .i64 ((rd_T88 l1 x15_1).f0), .int .i64 0]) ?_ 1 _ rfl; (with_reducible repeat (first | refine blk_drewN ?_ _ | refine blk_drew ?_ | refine blk_alloc ?_ _)); refine blk_put (cs := #[.int .i64 0, .int .i64 0]) ?_ 0 _ rfl; (with_reducible repeat (first | refine blk_drewN ?_ _ | refine blk_drew ?_ | refine blk_alloc ?_ _)); exact BK950.out⟩
                 have n3_ : Aside0 (Below w.heap.size w ((w33.setCell ⟨gb950, 0, none⟩ (.int .i64 ((rd_T88 l1 x15_1).f0))).setCell ⟨gb950, 1, none⟩ (.int .i64 ((rd_T88 l1 x15_1).f1)))) := ⟨by repeat (first | (with_reducible first | exact HB.out | apply below_alloc | apply pw_below_drewN | apply below_drew1 | refine below_set ?_ GE941.out | refine below_set ?_ GE950.out) | exact HB.out)⟩
                 (try clear HO_6)
                 (try clear BK941)
                 (try clear BK950)
                 (try clear HB)
                 generalize ((w33.setCell ⟨gb950, 0, none⟩ (.int .i64 ((rd_T88 l1 x15_1).f0))).setCell ⟨gb950, 1, none⟩ (.int .i64 ((rd_T88 l1 x15_1).f1))) = w36 at n0_ n1_ n2_ n3_ ⊢
                 have HO_6 := n0_
                 have BK941 := n1_
                 have BK950 := n2_
                 have HB := n3_
                 clear n0_ n1_ n2_ n3_
                 have n0_ := Aside0.mk (Kd.R_drew HO_6.out)
                 have n1_ := Aside0.mk (blk_drew BK941.out)
                 have n2_ := Aside0.mk (blk_drew BK950.out)
                 have n3_ := Aside0.mk (below_drew1 HB.out)
                 clear HO_6
                 clear BK941
                 clear BK950
                 clear HB
                 have HO_6 := n0_
                 have BK941 := n1_
                 have BK950 := n2_
                 have HB := n3_
                 clear n0_ n1_ n2_ n3_
                 obtain ⟨Ao38, co38, eo38⟩ := Kd.R_slice HO_6.out
                 (first | subst eo38 | (injection eo38 with f1_ f2_ f3_; have f4_ := f1_.symm; have f5_ := f3_.symm; clear f1_ f2_ f3_; subst f4_; subst f5_))
                 have p952 : 0 ≤ (((rd_T88 l1 x15_1).f0) : Int) := of_decide_eq_true (by first | (with_reducible assumption) | assumption)
                 have q952 : ((rd_T88 l1 x15_1).f0) < (x6_1.length : Int) := of_decide_eq_true (by first | (with_reducible assumption) | assumption)
                 obtain ⟨ad952, e952, hx952_0⟩ := Kd.at_bool (Kd.R_reads' HO_6.out).2.2 ((rd_T88 l1 x15_1).f0) p952 q952
                 (try rw [← Nbq17.out] at hx952_0)
                 cases e952
                 replace p952 := eq_true p952
                 replace q952 := eq_true q952
                 have p953 : 0 ≤ (((rd_T88 l1 x15_1).f0) : Int) := of_decide_eq_true (by first | (with_reducible assumption) | assumption)
                 have q953 : ((rd_T88 l1 x15_1).f0) < (l0_1.length : Int) := of_decide_eq_true (by first | (with_reducible assumption) | assumption)
                 obtain ⟨ad953, A953_0, c953_0, e953, hx953_0, hl953_0, hi953_0⟩ := at_L1 HR0_1.out ((rd_T88 l1 x15_1).f0) p953 q953
                 have hw953_0 := hx953_0
                 cases e953
                 replace hx953_0 := (HB.out.cell (World.block_lt_of_cell? w _ hx953_0)).trans hx953_0
                 have HR953_0 := Aside0.mk hi953_0
                 have HC953_0 := Aside0.mk hl953_0
                 clear hi953_0 hl953_0
                 replace p953 := eq_true p953
                 replace q953 := eq_true q953
                 refine start_ (n := 36) (S := fun w' => w'.cell? ⟨gb950, 0, none⟩ = some (.int .i64 ((rd_T88 l1 x15_1).f0)) ∧ w'.cell? ⟨gb950, 1, none⟩ = some (.int .i64 ((rd_T88 l1 x15_1).f1)) ∧ w'.cell? ⟨gb941, 0, none⟩ = some (.int .i64 a0_0) ∧ w'.cell? ⟨gb941, 1, none⟩ = some (.slice (some ad953) l0_1.length c0_1) ∧ w'.cell? (ad952.add (((rd_T88 l1 x15_1).f0)).toNat) = some (.bool false) ∧ w'.cell? (ad953.add (((rd_T88 l1 x15_1).f0)).toNat) = some (.slice A953_0 (rd_L1 l0_1 ((rd_T88 l1 x15_1).f0)).length c953_0)) (ds := []) #[false, false, false, false, false, false, false, false, false, false, false, false, false, false, false, false, false, false, false, false, false, false, false, false, false, false, false, false, false, false, false, false, false, false, false, false] (by kernel_rfl) rfl rfl ⟨(blk_cell BK950.out 0).trans rfl, (blk_cell BK950.out 1).trans rfl, (blk_cell BK941.out 0).trans rfl, (blk_cell BK941.out 1).trans rfl, hx952_0, ((HB.out.cell (World.block_lt_of_cell? w _ hw953_0)).trans hw953_0)⟩ (fun hHeld => ?_); refine with_tabW impl_IsPeelOrder.tab7 impl_IsPeelOrder.bits7 (fun HT_ HW_ => ?_)
                 generalize w36.drew = w37 at HO_6 BK941 BK950 HB HR953_0 hx952_0 hx953_0 hHeld ⊢
                 refine pq_ 0 19 36 1 HT_.out (by kernel_rfl) ?_
                 refine pq_ 2 21 36 5 HT_.out (by kernel_rfl) ?_
                 refine tq_ 1 20 36 7 HT_.out HW_.out (by kernel_rfl) hHeld ?_ rfl (by rintro w' ⟨s0, s1, s2, s3, s4, s5⟩; go_simp; with_reducible rfl)
                 refine tq_ 3 22 36 15 HT_.out HW_.out (by kernel_rfl) hHeld ?_ rfl (by rintro w' ⟨s0, s1, s2, s3, s4, s5⟩; go_simp; with_reducible rfl)
                 refine pq_ 4 23 36 31 HT_.out (by kernel_rfl) ?_
                 refine pq_ 5 24 36 63 HT_.out (by kernel_rfl) ?_
                 refine one_ (i := 6) (N := some 25) (bsA 36 127) rfl rfl (one_of HT_.out (by kernel_rfl)) (by decide) (fun K hK => ?_)
                 refine goes_ Try.func76 (by kernel_rfl) rfl #[.int .i64 ((rd_T88 l1 x15_1).f0), .int .i64 0, .int .i64 (wrap64 ((l0_1.length : Int) - 1))] (by rfl) rfl rfl (by (try simp only [List.map_toArray, List.map_cons, List.map_nil]); first | done | rfl | (simp only [List.length_drop, List.length_take]; rfl)) ?_
                 with_reducible refine (impl_in.calls ((rd_T88 l1 x15_1).f0) 0 (wrap64 ((l0_1.length : Int) - 1)) true _ A13.out).mono ?_
                 rintro e w' ⟨rfl, ⟨nd, rfl⟩⟩
                 refine ⟨_, rfl, ?_⟩
                 refine hK.out _ _ ⟨(blk_cell BK950.out 0).trans rfl, (blk_cell BK950.out 1).trans rfl, (blk_cell BK941.out 0).trans rfl, (blk_cell BK941.out 1).trans rfl, hHeld.2.2.2.2.1, ((HB.out.cell (World.block_lt_of_cell? w _ hw953_0)).trans hw953_0)⟩ (fun hHeld => ?_)
                 clear hK K
                 refine norm_ (a' := ?_) ?_ ?_
                 rotate_left
                 ·show Act.put _ (some 25) _ = _
                  simp only [Act.put, List.setIfInBounds_toArray, List.set_cons_zero, List.set_cons_succ, i64_w]
                  rfl
                 refine pq_ 7 26 36 255 HT_.out (by kernel_rfl) ?_
                 refine pq_ 8 27 36 511 HT_.out (by kernel_rfl) ?_
                 refine pq_ 9 28 36 1023 HT_.out (by kernel_rfl) ?_
                 refine pq_ 10 29 36 2047 HT_.out (by kernel_rfl) ?_
                 refine tq_ 11 30 36 4095 HT_.out HW_.out (by kernel_rfl) hHeld ?_ rfl (by rintro w' ⟨s0, s1, s2, s3, s4, s5⟩; go_simp; with_reducible rfl)
                 refine pq_ 12 31 36 8191 HT_.out (by kernel_rfl) ?_
                 refine tq_ 13 32 36 16383 HT_.out HW_.out (by kernel_rfl) hHeld ?_ rfl (by rintro w' ⟨s0, s1, s2, s3, s4, s5⟩; go_simp; with_reducible rfl)
                 refine pq_ 14 33 36 32767 HT_.out (by kernel_rfl) ?_
                 refine pq_ 15 34 36 65535 HT_.out (by kernel_rfl) ?_
                 refine pq_ 16 35 36 131071 HT_.out (by kernel_rfl) ?_
                 refine pq_ 18 37 36 393215 HT_.out (by kernel_rfl) ?_
                 refine pq_ 22 41 36 4587519 HT_.out (by kernel_rfl) ?_
                 refine tq_ 17 36 36 4718591 HT_.out HW_.out (by kernel_rfl) hHeld ?_ rfl (by rintro w' ⟨s0, s1, s2, s3, s4, s5⟩; go_simp; with_reducible rfl)
                 refine tq_ 19 38 36 5242879 HT_.out HW_.out (by kernel_rfl) hHeld ?_ rfl (by rintro w' ⟨s0, s1, s2, s3, s4, s5⟩; go_simp; with_reducible rfl)
                 refine pq_ 20 39 36 6291455 HT_.out (by kernel_rfl) ?_
                 refine tq_ 21 40 36 8388607 HT_.out HW_.out (by kernel_rfl) hHeld ?_ rfl (by rintro w' ⟨s0, s1, s2, s3, s4, s5⟩; go_simp; with_reducible rfl)
                 refine tq_ 23 42 36 16777215 HT_.out HW_.out (by kernel_rfl) hHeld ?_ rfl (by rintro w' ⟨s0, s1, s2, s3, s4, s5⟩; go_simp; with_reducible rfl)
                 refine one_ (i := 24) (N := some 43) (bsA 36 33554431) rfl rfl (one_of HT_.out (by kernel_rfl)) (by decide) (fun K hK => ?_)
                 refine goes_ Try.func77 (by kernel_rfl) rfl #[.slice A953_0 (rd_L1 l0_1 ((rd_T88 l1 x15_1).f0)).length c953_0, .int .i64 ((rd_T88 l1 x15_1).f1)] (by rfl) rfl rfl (by (try simp only [List.map_toArray, List.map_cons, List.map_nil]); first | done | rfl | (simp only [List.length_drop, List.length_take]; rfl)) ?_
                 with_reducible refine (slices_Contains_int_int.calls k1 _ _ (rd_L1 l0_1 ((rd_T88 l1 x15_1).f0)) ((rd_T88 l1 x15_1).f1) true _ ?side1 ?side2 A26.out).mono ?_
                 (case side1 => repeat (first | exact (Kd.C_below HR953_0.out (by repeat (first | (with_reducible first | exact HB.out | apply below_alloc | apply pw_below_drewN | apply below_drew1 | refine below_set ?_ GE941.out | refine below_set ?_ GE950.out) | exact HB.out))) | (with_reducible refine Kd.C_alloc ?_ _) | (with_reducible refine Kd.C_drewN ?_ _) | (with_reducible refine Kd.C_drew ?_)))
                 (case side2 => exact HC953_0.out)
                 rintro e w' ⟨rfl, ⟨nd, rfl⟩⟩
                 refine ⟨_, rfl, ?_⟩
                 refine hK.out _ _ ⟨(blk_cell BK950.out 0).trans rfl, (blk_cell BK950.out 1).trans rfl, (blk_cell BK941.out 0).trans rfl, (blk_cell BK941.out 1).trans rfl, hHeld.2.2.2.2.1, ((HB.out.cell (World.block_lt_of_cell? w _ hw953_0)).trans hw953_0)⟩ (fun hHeld => ?_)
                 clear hK K
                 refine norm_ (a' := ?_) ?_ ?_
                 rotate_left
                 ·show Act.put _ (some 43) _ = _
                  simp only [Act.put, List.setIfInBounds_toArray, List.set_cons_zero, List.set_cons_succ, i64_w]
                  rfl
                 refine pq_ 25 44 36 67108863 HT_.out (by kernel_rfl) ?_
                 refine pq_ 26 45 36 134217727 HT_.out (by kernel_rfl) ?_
                 refine pq_ 27 46 36 268435455 HT_.out (by kernel_rfl) ?_
                 refine pq_ 28 47 36 536870911 HT_.out (by kernel_rfl) ?_
                 refine pq_ 30 49 36 1610612735 HT_.out (by kernel_rfl) ?_
                 refine tq_ 31 50 36 3758096383 HT_.out HW_.out (by kernel_rfl) hHeld ?_ rfl (by rintro w' ⟨s0, s1, s2, s3, s4, s5⟩; go_simp; with_reducible rfl)
                 refine one_ (i := 29) (N := some 48) (bsA 36 4294967295) rfl rfl (one_of HT_.out (by kernel_rfl)) (by decide) (fun K hK => ?_)
                 refine goes_ Try.func72 (by kernel_rfl) rfl #[.pointer (some ⟨gb941, 0, none⟩), .slice (some ad952) x6_1.length co38] (by rfl) rfl rfl (by (try simp only [List.map_toArray, List.map_cons, List.map_nil]); first | done | rfl | (simp only [List.length_drop, List.length_take]; rfl)) ?_
                 with_reducible refine (impl_Hyper_degrees.calls k1 gb941 a0_0 (some ad953) c0_1 l0_1 _ _ x6_1 t955 _ ?side1 ?side2 ?side3 ?side4 ?side5 A28.out).mono ?_
                 (case side1 => repeat (first | exact (Kd.C_below HR0_1.out (by repeat (first | (with_reducible first | exact HB.out | apply below_alloc | apply pw_below_drewN | apply below_drew1 | refine below_set ?_ GE941.out | refine below_set ?_ GE950.out) | exact HB.out))) | (with_reducible refine Kd.C_alloc ?_ _) | (with_reducible refine Kd.C_drewN ?_ _) | (with_reducible refine Kd.C_drew ?_)))
                 (case side2 => exact HC0_1.out)
                 (case side3 => repeat (first | exact (Kd.R_reads' HO_6.out).2.2 | (with_reducible refine Kd.C_alloc ?_ _) | (with_reducible refine Kd.C_drewN ?_ _) | (with_reducible refine Kd.C_drew ?_)))
                 (case side4 => exact (Kd.R_reads' HO_6.out).2.1)
                 (case side5 => exact (by (with_reducible repeat (first | refine blk_drewN ?_ _ | refine blk_drew ?_ | refine blk_alloc ?_ _)); exact BK941.out))
                 rintro e w39 ⟨v956, rfl, ho0, hb⟩
                 have HS4_ := (hb.cell (World.block_lt_of_cell? _ _ (hHeld.2.2.2.2.1))).trans (hHeld.2.2.2.2.1)
                 refine ⟨_, rfl, ?_⟩
                 have n0_ := Aside0.mk (Kd.R_below (by (with_reducible repeat (first | apply Kd.R_alloc | apply Kd.R_drewN | apply Kd.R_drew)); exact HO_6.out) hb)
                 have n1_ := Aside0.mk (Kd.R_lower ho0 (below_size (by repeat (first | (with_reducible first | exact HB.out | apply below_alloc | apply pw_below_drewN | apply below_drew1 | refine below_set ?_ GE941.out | refine below_set ?_ GE950.out) | exact HB.out))))
                 have n2_ := Aside0.mk (blk_below (g := gb941) (o := .cells #[.int .i64 a0_0, .slice (some ad953) l0_1.length c0_1] 29 (0, 0)) (by (with_reducible repeat (first | refine blk_drewN ?_ _ | refine blk_drew ?_ | refine blk_alloc ?_ _)); exact BK941.out) hb)
                 have n3_ := Aside0.mk (blk_below (g := gb950) (o := .cells #[.int .i64 ((rd_T88 l1 x15_1).f0), .int .i64 ((rd_T88 l1 x15_1).f1)] 88 (0, 0)) (by (with_reducible repeat (first | refine blk_drewN ?_ _ | refine blk_drew ?_ | refine blk_alloc ?_ _)); exact BK950.out) hb)
                 have n4_ := Aside0.mk (below_step (by repeat (first | (with_reducible first | exact HB.out | apply below_alloc | apply pw_below_drewN | apply below_drew1 | refine below_set ?_ GE941.out | refine below_set ?_ GE950.out) | exact HB.out)) hb)
                 clear HO_6
                 clear BK941
                 clear BK950
                 clear HB
                 have HO_6 := n0_
                 have HO957 := n1_
                 have BK941 := n2_
                 have BK950 := n3_
                 have HB := n4_
                 clear n0_ n1_ n2_ n3_ n4_
                 (try clear hb)
                 (try clear hb2)
                 (try clear hk)
                 (try clear hi)
                 (try clear ho0)
                 obtain ⟨Ao40, co40, eo40⟩ := Kd.R_slice HO957.out
                 (first | subst eo40 | (injection eo40 with f1_ f2_ f3_; have f4_ := f1_.symm; have f5_ := f3_.symm; clear f1_ f2_ f3_; subst f4_; subst f5_))
                 have p958 : 0 ≤ (((rd_T88 l1 x15_1).f1) : Int) := of_decide_eq_true (by first | (with_reducible assumption) | assumption)
                 have q958 : ((rd_T88 l1 x15_1).f1) < (t955.length : Int) := of_decide_eq_true (by first | (with_reducible assumption) | assumption)
                 obtain ⟨ad958, e958, hx958_0⟩ := Kd.at_int (Kd.R_reads' HO957.out).2.2 ((rd_T88 l1 x15_1).f1) p958 q958
                 cases e958
                 replace p958 := eq_true p958
                 replace q958 := eq_true q958
                 refine hK.out _ _ ⟨(blk_cell BK950.out 0).trans rfl, (blk_cell BK950.out 1).trans rfl, (blk_cell BK941.out 0).trans rfl, (blk_cell BK941.out 1).trans rfl, HS4_, ((HB.out.cell (World.block_lt_of_cell? w _ hw953_0)).trans hw953_0)⟩ (fun hHeld => ?_)
                 clear hK K
                 refine norm_ (a' := ?_) ?_ ?_
                 rotate_left
                 ·show Act.put _ (some 48) _ = _
                  simp only [Act.put, List.setIfInBounds_toArray, List.set_cons_zero, List.set_cons_succ, i64_w]
                  rfl
                 refine pq_ 32 51 36 8589934591 HT_.out (by kernel_rfl) ?_
                 refine one_ (i := 33) (N := some 52) (bsA 36 17179869183) rfl rfl (one_of HT_.out (by kernel_rfl)) (by decide) (fun K hK => ?_)
                 have s6 := hx958_0
                 refine value_ (by rfl) rfl (by go_simp; exact ⟨rfl, rfl⟩) ?_
                 refine hK.out _ _ hHeld (fun hHeld => ?_)
                 clear hK K
                 refine norm_ (a' := ?_) ?_ ?_
                 rotate_left
                 ·show Act.put _ (some 52) _ = _
                  simp only [Act.put, List.setIfInBounds_toArray, List.set_cons_zero, List.set_cons_succ, i64_w]
                  rfl
                 refine pq_ 34 53 36 34359738367 HT_.out (by kernel_rfl) ?_
                 refine pq_ 35 54 36 68719476735 HT_.out (by kernel_rfl) ?_
                 refine done_ (done_of HT_.out (by kernel_rfl)) ?_
                 have hcz41_0 : w39.cell? ⟨gb950, 0, none⟩ = some (.int .i64 ((rd_T88 l1 x15_1).f0)) := (blk_cell BK950.out 0).trans rfl
                 have hcz41_1 : w39.cell? ⟨gb950, 1, none⟩ = some (.int .i64 ((rd_T88 l1 x15_1).f1)) := (blk_cell BK950.out 1).trans rfl
                 have hfz41_0 := blk_frozen BK950.out 0
                 have hfz41_1 := blk_frozen BK950.out 1
                 have p32 : 0 ≤ (((rd_T88 l1 x15_1).f0) : Int) := of_decide_eq_true (by first | (with_reducible assumption) | assumption)
                 have q32 : (((rd_T88 l1 x15_1).f0) : Int) < ((x6_1.length : Int) : Int) := of_decide_eq_true (by first | (with_reducible assumption) | assumption)
                 obtain ⟨go32, co32, eo32, gb32, gl32, cl32, HG32⟩ := Kd.R_form HO_6.out (by omega)
                 (first | cases eo32 | (injection eo32 with ea_ en_ ec_; (first | subst ea_ | (injection ea_ with ea_; subst ea_)); subst ec_; clear en_))
                 have GB32 := Aside0.mk gb32
                 have GG32 := Aside0.mk HG32
                 clear gb32 gl32 HG32
                 (first | simp only [add_plain] at hx952_0 | skip)
                 obtain ⟨hx32_0, hf32_0⟩ := Kd.R_celln false HO_6.out (((rd_T88 l1 x15_1).f0) : Int) p32 q32
                 replace p32 := eq_true p32
                 replace q32 := eq_true q32
                 obtain ⟨hy42_, hz42_⟩ := Kd.R_celln false HO_6.out (((rd_T88 l1 x15_1).f0) : Int) (of_decide_eq_true (by first | (with_reducible assumption) | assumption)) (of_decide_eq_true (by first | (with_reducible assumption) | assumption))
                 have HP42 := Kd.R_putg HO_6.out (((rd_T88 l1 x15_1).f0) : Int) true
                 try go_wp2_with (first | ((with_reducible refine gate_store (t := 4) (p := 58) rfl ?_); refine store_event (t := 4) (p := 58) (v := ?vo_w43) (w1 := (w39.setCell ⟨go32, (((rd_T88 l1 x15_1).f0) : Int).toNat, none⟩ (.bool true))) ?hg ?ho ?hn ?hr ?_; (case ho => rfl); (case hg => rfl); (case hn => rfl); (case hr => first | (go_simp; done) | (go_simp; rfl)); intro w43 hw; have hg : w39.grownBy w43 (some go32) := (by rw [hw]; exact HP42.2); have hp_ : Kd.R Kd.bool 4 w43 w.heap.size (fun _ => True) (.slice (some ⟨go32, 0, none⟩) x6_1.length co38) y959 := (by rw [hw, Ny959.out]; exact HP42.1); clear HP42; have n0_ := Aside0.mk (hp_); have n1_ := Aside0.mk (blk_grown (g := gb941) (o := .cells #[.int .i64 a0_0, .slice (some ad953) l0_1.length c0_1] 29 (0, 0)) (by (with_reducible repeat (first | refine blk_drewN ?_ _ | refine blk_drew ?_ | refine blk_alloc ?_ _)); exact BK941.out) hg (Kd.R_ne HO_6.out BK941.out (by decide))); have n2_ := Aside0.mk (blk_grown (g := gb950) (o := .cells #[.int .i64 ((rd_T88 l1 x15_1).f0), .int .i64 ((rd_T88 l1 x15_1).f1)] 88 (0, 0)) (by (with_reducible repeat (first | refine blk_drewN ?_ _ | refine blk_drew ?_ | refine blk_alloc ?_ _)); exact BK950.out) hg (Kd.R_ne HO_6.out BK950.out (by decide))); have n3_ := Aside0.mk (Kd.R_over' (v := (.slice (some ⟨go32, 0, none⟩) x6_1.length co38)) (by (with_reducible repeat (first | apply Kd.R_alloc | apply Kd.R_drewN | apply Kd.R_drew)); exact HO957.out) (Kd.R_typed HO_6.out) (by decide) hg); have n4_ := Aside0.mk ((by rw [hw]; exact below_set (HB.out) GB32.out : Below w.heap.size w w43)); clear HO_6; clear BK941; clear BK950; clear HO957; clear HB; have HO_6 := n0_; have BK941 := n1_; have BK950 := n2_; have HO957 := n3_; have HB := n4_; clear n0_ n1_ n2_ n3_ n4_; clear hg hw hp_))
                 go_roundg k1
                 case measure => have := HK1.out; omega
                 case rel => exact ⟨(y959), (wrap64 (x15_1 + 1)), (by first | rfl | (simp; done) | (simp [*]; done)), H', ⟨by have := HK1.out; omega⟩, ⟨by (with_reducible repeat (first | apply Kd.R_alloc | apply Kd.R_drewN | apply Kd.R_drew)); exact HO_6.out⟩, ⟨by (with_reducible repeat (first | refine blk_drewN ?_ _ | refine blk_drew ?_ | refine blk_alloc ?_ _)); exact BK941.out⟩, ⟨by repeat (first | (with_reducible first | exact HB.out | apply below_alloc | apply pw_below_drewN | apply below_drew1 | refine below_set ?_ GE941.out | refine below_set ?_ GE950.out) | exact HB.out)⟩⟩
                ·rw [if_neg c31] at H
                 have c31b0 : ((rd t955 ((rd_T88 l1 x15_1).f1)) == 1) = false := beq_eq_false_iff_ne.mpr c31
                 have c31b1 : ((rd t955 ((rd_T88 l1 x15_1).f1)) != 1) = true := bne_iff_ne.mpr c31
                 simp only [Option.some.injEq, Prod.mk.injEq] at H
                 obtain ⟨rfl, rfl⟩ := H
                 have p949 : 0 ≤ (x15_1 : Int) := of_decide_eq_true (by first | (with_reducible assumption) | assumption)
                 have q949 : x15_1 < (l1.length : Int) := of_decide_eq_true (by first | (with_reducible assumption) | assumption)
                 obtain ⟨ad949, e949, hx949_0, hx949_1⟩ := at_T88 HR1.out x15_1 p949 q949
                 cases e949
                 replace hx949_0 := (HB.out.cell (World.block_lt_of_cell? w _ hx949_0)).trans hx949_0
                 replace hx949_1 := (HB.out.cell (World.block_lt_of_cell? w _ hx949_1)).trans hx949_1
                 replace p949 := eq_true p949
                 replace q949 := eq_true q949
                 try go_wp2_with (first | ((with_reducible refine gate_dst (N := 8) rfl ?_); refine box_event ?hg (N := 8) ?hd (cs := #[.int .i64 0, .int .i64 0]) (t := 88) ?hr ?_; (case hd => rfl); (case hg => rfl); (case hr => first | (go_simp; done) | (go_simp; rfl)); intro gb950 hg w44 hbox hb; have n0_ := Aside0.mk (Kd.R_below (by (with_reducible repeat (first | apply Kd.R_alloc | apply Kd.R_drewN | apply Kd.R_drew)); exact HO_6.out) hb); have n1_ := Aside0.mk (blk_below (g := gb941) (o := .cells #[.int .i64 a0_0, .slice A0_1 l0_1.length c0_1] 29 (0, 0)) (by (with_reducible repeat (first | refine blk_drewN ?_ _ | refine blk_drew ?_ | refine blk_alloc ?_ _)); exact BK941.out) hb); have n2_ := Aside0.mk (below_step (by repeat (first | (with_reducible first | exact HB.out | apply below_alloc | apply pw_below_drewN | apply below_drew1 | refine below_set ?_ GE941.out) | exact HB.out)) hb); have n3_ := Aside0.mk (hbox); have n4_ := Aside0.mk ((by rw [hg]; exact (below_size (by repeat (first | (with_reducible first | exact HB.out | apply below_alloc | apply pw_below_drewN | apply below_drew1 | refine below_set ?_ GE941.out) | exact HB.out))) : w.heap.size ≤ gb950)); have n5_ := Aside0.mk ((by rw [hg]; exact (below_size (by repeat (first | (with_reducible first | exact HB.out | apply below_alloc | apply pw_below_drewN | apply below_drew1 | refine below_set ?_ GE941.out) | exact HB.out))) : w.heap.size ≤ gb950)); have n6_ := Aside0.mk ((by rw [hg]; exact Nat.ne_of_lt (blk_lt (g := gb941) (o := .cells #[.int .i64 a0_0, .slice A0_1 l0_1.length c0_1] 29 (0, 0)) (by (with_reducible repeat (first | refine blk_drewN ?_ _ | refine blk_drew ?_ | refine blk_alloc ?_ _)); exact BK941.out)) : gb941 ≠ gb950)); have n7_ := Aside0.mk ((by rw [hg]; exact Nat.ne_of_gt (blk_lt (g := gb941) (o := .cells #[.int .i64 a0_0, .slice A0_1 l0_1.length c0_1] 29 (0, 0)) (by (with_reducible repeat (first | refine blk_drewN ?_ _ | refine blk_drew ?_ | refine blk_alloc ?_ _)); exact BK941.out)) : gb950 ≠ gb941)); clear HO_6; clear BK941; clear HB; have HO_6 := n0_; have BK941 := n1_; have HB := n2_; have BK950 := n3_; have GW950 := n4_; have GE950 := n5_; have NB941_950 := n6_; have NB950_941 := n7_; clear n0_ n1_ n2_ n3_ n4_ n5_ n6_ n7_; clear hb hbox hg; have hnb45 := NB950_941.out; have hnc45 := NB941_950.out; have hcz46_0 : w44.cell? ⟨gb950, 0, none⟩ = some (.int .i64 0) := (blk_cell BK950.out 0).trans rfl; have hcz46_1 : w44.cell? ⟨gb950, 1, none⟩ = some (.int .i64 0) := (blk_cell BK950.out 1).trans rfl; have hfz46_0 := blk_frozen BK950.out 0; have hfz46_1 := blk_frozen BK950.out 1))
                 have n0_ : Aside0 (Kd.R Kd.bool 4 ((w44.setCell ⟨gb950, 0, none⟩ (.int .i64 ((rd_T88 l1 x15_1).f0))).setCell ⟨gb950, 1, none⟩ (.int .i64 ((rd_T88 l1 x15_1).f1))) w.heap.size (fun _ => True) v944 x6_1) := ⟨by (with_reducible repeat (first | apply Kd.R_alloc | apply Kd.R_drewN | apply Kd.R_drew)); exact Kd.R_mono (Kd.R_far (p := ⟨gb950, 1, none⟩) (Kd.R_far (p := ⟨gb950, 0, none⟩) (Kd.R_types HO_6.out BK950.out (by decide)) (fun _ hk => hk.2) (.int .i64 ((rd_T88 l1 x15_1).f0))) (fun _ hk => hk.2) (.int .i64 ((rd_T88 l1 x15_1).f1))) (fun _ hk => trivial)⟩
                 have n1_ : Aside0 (((w44.setCell ⟨gb950, 0, none⟩ (.int .i64 ((rd_T88 l1 x15_1).f0))).setCell ⟨gb950, 1, none⟩ (.int .i64 ((rd_T88 l1 x15_1).f1))).heap[gb941]? = some (.cells #[.int .i64 a0_0, .slice A0_1 l0_1.length c0_1] 29 (0, 0))) := ⟨by (with_reducible repeat (first | refine blk_drewN ?_ _ | refine blk_drew ?_ | refine blk_alloc ?_ _)); refine blk_far ?_ NB941_950.out _; (with_reducible repeat (first | refine blk_drewN ?_ _ | refine blk_drew ?_ | refine blk_alloc ?_ _)); refine blk_far ?_ NB941_950.out _; (with_reducible repeat (first | refine blk_drewN ?_ _ | refine blk_drew ?_ | refine blk_alloc ?_ _)); exact BK941.out⟩
                 have n2_ : Aside0 (((w44.setCell ⟨gb950, 0, none⟩ (.int .i64 ((rd_T88 l1 x15_1).f0))).setCell ⟨gb950, 1, none⟩ (.int .i64 ((rd_T88 l1 x15_1).f1))).heap[gb950]? = some (.cells #[.int .i64 ((rd_T88 l1 x15_1).f0), .int .i64 ((rd_T88 l1 x15_1).f1)] 88 (0, 0))) := ⟨by (with_reducible repeat (first | refine blk_drewN ?_ _ | refine blk_drew ?_ | refine blk_alloc ?_ _)); refine blk_put (cs := #[.int .i64 ((rd_T88 l1 x15_1).f0), .int .i64 0]) ?_ 1 _ rfl; (with_reducible repeat (first | refine blk_drewN ?_ _ | refine blk_drew ?_ | refine blk_alloc ?_ _)); refine blk_put (cs := #[.int .i64 0, .int .i64 0]) ?_ 0 _ rfl; (with_reducible repeat (first | refine blk_drewN ?_ _ | refine blk_drew ?_ | refine blk_alloc ?_ _)); exact BK950.out⟩
                 have n3_ : Aside0 (Below w.heap.size w ((w44.setCell ⟨gb950, 0, none⟩ (.int .i64 ((rd_T88 l1 x15_1).f0))).setCell ⟨gb950, 1, none⟩ (.int .i64 ((rd_T88 l1 x15_1).f1)))) := ⟨by repeat (first | (with_reducible first | exact HB.out | apply below_alloc | apply pw_below_drewN | apply below_drew1 | refine below_set ?_ GE941.out | refine below_set ?_ GE950.out) | exact HB.out)⟩
                 (try clear HO_6)
                 (try clear BK941)
                 (try clear BK950)
                 (try clear HB)
                 generalize ((w44.setCell ⟨gb950, 0, none⟩ (.int .i64 ((rd_T88 l1 x15_1).f0))).setCell ⟨gb950, 1, none⟩ (.int .i64 ((rd_T88 l1 x15_1).f1))) = w47 at n0_ n1_ n2_ n3_ ⊢
                 have HO_6 := n0_
                 have BK941 := n1_
                 have BK950 := n2_
                 have HB := n3_
                 clear n0_ n1_ n2_ n3_
                 have n0_ := Aside0.mk (Kd.R_drew HO_6.out)
                 have n1_ := Aside0.mk (blk_drew BK941.out)
                 have n2_ := Aside0.mk (blk_drew BK950.out)
                 have n3_ := Aside0.mk (below_drew1 HB.out)
                 clear HO_6
                 clear BK941
                 clear BK950
                 clear HB
                 have HO_6 := n0_
                 have BK941 := n1_
                 have BK950 := n2_
                 have HB := n3_
                 clear n0_ n1_ n2_ n3_
                 obtain ⟨Ao49, co49, eo49⟩ := Kd.R_slice HO_6.out
                 (first | subst eo49 | (injection eo49 with f1_ f2_ f3_; have f4_ := f1_.symm; have f5_ := f3_.symm; clear f1_ f2_ f3_; subst f4_; subst f5_))
                 have p952 : 0 ≤ (((rd_T88 l1 x15_1).f0) : Int) := of_decide_eq_true (by first | (with_reducible assumption) | assumption)
                 have q952 : ((rd_T88 l1 x15_1).f0) < (x6_1.length : Int) := of_decide_eq_true (by first | (with_reducible assumption) | assumption)
                 obtain ⟨ad952, e952, hx952_0⟩ := Kd.at_bool (Kd.R_reads' HO_6.out).2.2 ((rd_T88 l1 x15_1).f0) p952 q952
                 (try rw [← Nbq17.out] at hx952_0)
                 cases e952
                 replace p952 := eq_true p952
                 replace q952 := eq_true q952
                 have p953 : 0 ≤ (((rd_T88 l1 x15_1).f0) : Int) := of_decide_eq_true (by first | (with_reducible assumption) | assumption)
                 have q953 : ((rd_T88 l1 x15_1).f0) < (l0_1.length : Int) := of_decide_eq_true (by first | (with_reducible assumption) | assumption)
                 obtain ⟨ad953, A953_0, c953_0, e953, hx953_0, hl953_0, hi953_0⟩ := at_L1 HR0_1.out ((rd_T88 l1 x15_1).f0) p953 q953
                 have hw953_0 := hx953_0
                 cases e953
                 replace hx953_0 := (HB.out.cell (World.block_lt_of_cell? w _ hx953_0)).trans hx953_0
                 have HR953_0 := Aside0.mk hi953_0
                 have HC953_0 := Aside0.mk hl953_0
                 clear hi953_0 hl953_0
                 replace p953 := eq_true p953
                 replace q953 := eq_true q953
                 refine start_ (n := 36) (S := fun w' => w'.cell? ⟨gb950, 0, none⟩ = some (.int .i64 ((rd_T88 l1 x15_1).f0)) ∧ w'.cell? ⟨gb950, 1, none⟩ = some (.int .i64 ((rd_T88 l1 x15_1).f1)) ∧ w'.cell? ⟨gb941, 0, none⟩ = some (.int .i64 a0_0) ∧ w'.cell? ⟨gb941, 1, none⟩ = some (.slice (some ad953) l0_1.length c0_1) ∧ w'.cell? (ad952.add (((rd_T88 l1 x15_1).f0)).toNat) = some (.bool false) ∧ w'.cell? (ad953.add (((rd_T88 l1 x15_1).f0)).toNat) = some (.slice A953_0 (rd_L1 l0_1 ((rd_T88 l1 x15_1).f0)).length c953_0)) (ds := []) #[false, false, false, false, false, false, false, false, false, false, false, false, false, false, false, false, false, false, false, false, false, false, false, false, false, false, false, false, false, false, false, false, false, false, false, false] (by kernel_rfl) rfl rfl ⟨(blk_cell BK950.out 0).trans rfl, (blk_cell BK950.out 1).trans rfl, (blk_cell BK941.out 0).trans rfl, (blk_cell BK941.out 1).trans rfl, hx952_0, ((HB.out.cell (World.block_lt_of_cell? w _ hw953_0)).trans hw953_0)⟩ (fun hHeld => ?_); refine with_tabW impl_IsPeelOrder.tab7 impl_IsPeelOrder.bits7 (fun HT_ HW_ => ?_)
                 generalize w47.drew = w48 at HO_6 BK941 BK950 HB HR953_0 hx952_0 hx953_0 hHeld ⊢
                 refine pq_ 0 19 36 1 HT_.out (by kernel_rfl) ?_
                 refine pq_ 2 21 36 5 HT_.out (by kernel_rfl) ?_
                 refine tq_ 1 20 36 7 HT_.out HW_.out (by kernel_rfl) hHeld ?_ rfl (by rintro w' ⟨s0, s1, s2, s3, s4, s5⟩; go_simp; with_reducible rfl)
                 refine tq_ 3 22 36 15 HT_.out HW_.out (by kernel_rfl) hHeld ?_ rfl (by rintro w' ⟨s0, s1, s2, s3, s4, s5⟩; go_simp; with_reducible rfl)
                 refine pq_ 4 23 36 31 HT_.out (by kernel_rfl) ?_
                 refine pq_ 5 24 36 63 HT_.out (by kernel_rfl) ?_
                 refine one_ (i := 6) (N := some 25) (bsA 36 127) rfl rfl (one_of HT_.out (by kernel_rfl)) (by decide) (fun K hK => ?_)
                 refine goes_ Try.func76 (by kernel_rfl) rfl #[.int .i64 ((rd_T88 l1 x15_1).f0), .int .i64 0, .int .i64 (wrap64 ((l0_1.length : Int) - 1))] (by rfl) rfl rfl (by (try simp only [List.map_toArray, List.map_cons, List.map_nil]); first | done | rfl | (simp only [List.length_drop, List.length_take]; rfl)) ?_
                 with_reducible refine (impl_in.calls ((rd_T88 l1 x15_1).f0) 0 (wrap64 ((l0_1.length : Int) - 1)) true _ A13.out).mono ?_
                 rintro e w' ⟨rfl, ⟨nd, rfl⟩⟩
                 refine ⟨_, rfl, ?_⟩
                 refine hK.out _ _ ⟨(blk_cell BK950.out 0).trans rfl, (blk_cell BK950.out 1).trans rfl, (blk_cell BK941.out 0).trans rfl, (blk_cell BK941.out 1).trans rfl, hHeld.2.2.2.2.1, ((HB.out.cell (World.block_lt_of_cell? w _ hw953_0)).trans hw953_0)⟩ (fun hHeld => ?_)
                 clear hK K
                 refine norm_ (a' := ?_) ?_ ?_
                 rotate_left
                 ·show Act.put _ (some 25) _ = _
                  simp only [Act.put, List.setIfInBounds_toArray, List.set_cons_zero, List.set_cons_succ, i64_w]
                  rfl
                 refine pq_ 7 26 36 255 HT_.out (by kernel_rfl) ?_
                 refine pq_ 8 27 36 511 HT_.out (by kernel_rfl) ?_
                 refine pq_ 9 28 36 1023 HT_.out (by kernel_rfl) ?_
                 refine pq_ 10 29 36 2047 HT_.out (by kernel_rfl) ?_
                 refine tq_ 11 30 36 4095 HT_.out HW_.out (by kernel_rfl) hHeld ?_ rfl (by rintro w' ⟨s0, s1, s2, s3, s4, s5⟩; go_simp; with_reducible rfl)
                 refine pq_ 12 31 36 8191 HT_.out (by kernel_rfl) ?_
                 refine tq_ 13 32 36 16383 HT_.out HW_.out (by kernel_rfl) hHeld ?_ rfl (by rintro w' ⟨s0, s1, s2, s3, s4, s5⟩; go_simp; with_reducible rfl)
                 refine pq_ 14 33 36 32767 HT_.out (by kernel_rfl) ?_
                 refine pq_ 15 34 36 65535 HT_.out (by kernel_rfl) ?_
                 refine pq_ 16 35 36 131071 HT_.out (by kernel_rfl) ?_
                 refine pq_ 18 37 36 393215 HT_.out (by kernel_rfl) ?_
                 refine pq_ 22 41 36 4587519 HT_.out (by kernel_rfl) ?_
                 refine tq_ 17 36 36 4718591 HT_.out HW_.out (by kernel_rfl) hHeld ?_ rfl (by rintro w' ⟨s0, s1, s2, s3, s4, s5⟩; go_simp; with_reducible rfl)
                 refine tq_ 19 38 36 5242879 HT_.out HW_.out (by kernel_rfl) hHeld ?_ rfl (by rintro w' ⟨s0, s1, s2, s3, s4, s5⟩; go_simp; with_reducible rfl)
                 refine pq_ 20 39 36 6291455 HT_.out (by kernel_rfl) ?_
                 refine tq_ 21 40 36 8388607 HT_.out HW_.out (by kernel_rfl) hHeld ?_ rfl (by rintro w' ⟨s0, s1, s2, s3, s4, s5⟩; go_simp; with_reducible rfl)
                 refine tq_ 23 42 36 16777215 HT_.out HW_.out (by kernel_rfl) hHeld ?_ rfl (by rintro w' ⟨s0, s1, s2, s3, s4, s5⟩; go_simp; with_reducible rfl)
                 refine one_ (i := 24) (N := some 43) (bsA 36 33554431) rfl rfl (one_of HT_.out (by kernel_rfl)) (by decide) (fun K hK => ?_)
                 refine goes_ Try.func77 (by kernel_rfl) rfl #[.slice A953_0 (rd_L1 l0_1 ((rd_T88 l1 x15_1).f0)).length c953_0, .int .i64 ((rd_T88 l1 x15_1).f1)] (by rfl) rfl rfl (by (try simp only [List.map_toArray, List.map_cons, List.map_nil]); first | done | rfl | (simp only [List.length_drop, List.length_take]; rfl)) ?_
                 with_reducible refine (slices_Contains_int_int.calls k1 _ _ (rd_L1 l0_1 ((rd_T88 l1 x15_1).f0)) ((rd_T88 l1 x15_1).f1) true _ ?side1 ?side2 A26.out).mono ?_
                 (case side1 => repeat (first | exact (Kd.C_below HR953_0.out (by repeat (first | (with_reducible first | exact HB.out | apply below_alloc | apply pw_below_drewN | apply below_drew1 | refine below_set ?_ GE941.out | refine below_set ?_ GE950.out) | exact HB.out))) | (with_reducible refine Kd.C_alloc ?_ _) | (with_reducible refine Kd.C_drewN ?_ _) | (with_reducible refine Kd.C_drew ?_)))
                 (case side2 => exact HC953_0.out)
                 rintro e w' ⟨rfl, ⟨nd, rfl⟩⟩
                 refine ⟨_, rfl, ?_⟩
                 refine hK.out _ _ ⟨(blk_cell BK950.out 0).trans rfl, (blk_cell BK950.out 1).trans rfl, (blk_cell BK941.out 0).trans rfl, (blk_cell BK941.out 1).trans rfl, hHeld.2.2.2.2.1, ((HB.out.cell (World.block_lt_of_cell? w _ hw953_0)).trans hw953_0)⟩ (fun hHeld => ?_)
                 clear hK K
                 refine norm_ (a' := ?_) ?_ ?_
                 rotate_left
                 ·show Act.put _ (some 43) _ = _
                  simp only [Act.put, List.setIfInBounds_toArray, List.set_cons_zero, List.set_cons_succ, i64_w]
                  rfl
                 refine pq_ 25 44 36 67108863 HT_.out (by kernel_rfl) ?_
                 refine pq_ 26 45 36 134217727 HT_.out (by kernel_rfl) ?_
                 refine pq_ 27 46 36 268435455 HT_.out (by kernel_rfl) ?_
                 refine pq_ 28 47 36 536870911 HT_.out (by kernel_rfl) ?_
                 refine pq_ 30 49 36 1610612735 HT_.out (by kernel_rfl) ?_
                 refine tq_ 31 50 36 3758096383 HT_.out HW_.out (by kernel_rfl) hHeld ?_ rfl (by rintro w' ⟨s0, s1, s2, s3, s4, s5⟩; go_simp; with_reducible rfl)
                 refine one_ (i := 29) (N := some 48) (bsA 36 4294967295) rfl rfl (one_of HT_.out (by kernel_rfl)) (by decide) (fun K hK => ?_)
                 refine goes_ Try.func72 (by kernel_rfl) rfl #[.pointer (some ⟨gb941, 0, none⟩), .slice (some ad952) x6_1.length co49] (by rfl) rfl rfl (by (try simp only [List.map_toArray, List.map_cons, List.map_nil]); first | done | rfl | (simp only [List.length_drop, List.length_take]; rfl)) ?_
                 with_reducible refine (impl_Hyper_degrees.calls k1 gb941 a0_0 (some ad953) c0_1 l0_1 _ _ x6_1 t955 _ ?side1 ?side2 ?side3 ?side4 ?side5 A28.out).mono ?_
                 (case side1 => repeat (first | exact (Kd.C_below HR0_1.out (by repeat (first | (with_reducible first | exact HB.out | apply below_alloc | apply pw_below_drewN | apply below_drew1 | refine below_set ?_ GE941.out | refine below_set ?_ GE950.out) | exact HB.out))) | (with_reducible refine Kd.C_alloc ?_ _) | (with_reducible refine Kd.C_drewN ?_ _) | (with_reducible refine Kd.C_drew ?_)))
                 (case side2 => exact HC0_1.out)
                 (case side3 => repeat (first | exact (Kd.R_reads' HO_6.out).2.2 | (with_reducible refine Kd.C_alloc ?_ _) | (with_reducible refine Kd.C_drewN ?_ _) | (with_reducible refine Kd.C_drew ?_)))
                 (case side4 => exact (Kd.R_reads' HO_6.out).2.1)
                 (case side5 => exact (by (with_reducible repeat (first | refine blk_drewN ?_ _ | refine blk_drew ?_ | refine blk_alloc ?_ _)); exact BK941.out))
                 rintro e w50 ⟨v956, rfl, ho0, hb⟩
                 have HS4_ := (hb.cell (World.block_lt_of_cell? _ _ (hHeld.2.2.2.2.1))).trans (hHeld.2.2.2.2.1)
                 refine ⟨_, rfl, ?_⟩
                 have n0_ := Aside0.mk (Kd.R_below (by (with_reducible repeat (first | apply Kd.R_alloc | apply Kd.R_drewN | apply Kd.R_drew)); exact HO_6.out) hb)
                 have n1_ := Aside0.mk (Kd.R_lower ho0 (below_size (by repeat (first | (with_reducible first | exact HB.out | apply below_alloc | apply pw_below_drewN | apply below_drew1 | refine below_set ?_ GE941.out | refine below_set ?_ GE950.out) | exact HB.out))))
                 have n2_ := Aside0.mk (blk_below (g := gb941) (o := .cells #[.int .i64 a0_0, .slice (some ad953) l0_1.length c0_1] 29 (0, 0)) (by (with_reducible repeat (first | refine blk_drewN ?_ _ | refine blk_drew ?_ | refine blk_alloc ?_ _)); exact BK941.out) hb)
                 have n3_ := Aside0.mk (blk_below (g := gb950) (o := .cells #[.int .i64 ((rd_T88 l1 x15_1).f0), .int .i64 ((rd_T88 l1 x15_1).f1)] 88 (0, 0)) (by (with_reducible repeat (first | refine blk_drewN ?_ _ | refine blk_drew ?_ | refine blk_alloc ?_ _)); exact BK950.out) hb)
                 have n4_ := Aside0.mk (below_step (by repeat (first | (with_reducible first | exact HB.out | apply below_alloc | apply pw_below_drewN | apply below_drew1 | refine below_set ?_ GE941.out | refine below_set ?_ GE950.out) | exact HB.out)) hb)
                 clear HO_6
                 clear BK941
                 clear BK950
                 clear HB
                 have HO_6 := n0_
                 have HO957 := n1_
                 have BK941 := n2_
                 have BK950 := n3_
                 have HB := n4_
                 clear n0_ n1_ n2_ n3_ n4_
                 (try clear hb)
                 (try clear hb2)
                 (try clear hk)
                 (try clear hi)
                 (try clear ho0)
                 obtain ⟨Ao51, co51, eo51⟩ := Kd.R_slice HO957.out
                 (first | subst eo51 | (injection eo51 with f1_ f2_ f3_; have f4_ := f1_.symm; have f5_ := f3_.symm; clear f1_ f2_ f3_; subst f4_; subst f5_))
                 have p958 : 0 ≤ (((rd_T88 l1 x15_1).f1) : Int) := of_decide_eq_true (by first | (with_reducible assumption) | assumption)
                 have q958 : ((rd_T88 l1 x15_1).f1) < (t955.length : Int) := of_decide_eq_true (by first | (with_reducible assumption) | assumption)
                 obtain ⟨ad958, e958, hx958_0⟩ := Kd.at_int (Kd.R_reads' HO957.out).2.2 ((rd_T88 l1 x15_1).f1) p958 q958
                 cases e958
                 replace p958 := eq_true p958
                 replace q958 := eq_true q958
                 refine hK.out _ _ ⟨(blk_cell BK950.out 0).trans rfl, (blk_cell BK950.out 1).trans rfl, (blk_cell BK941.out 0).trans rfl, (blk_cell BK941.out 1).trans rfl, HS4_, ((HB.out.cell (World.block_lt_of_cell? w _ hw953_0)).trans hw953_0)⟩ (fun hHeld => ?_)
                 clear hK K
                 refine norm_ (a' := ?_) ?_ ?_
                 rotate_left
                 ·show Act.put _ (some 48) _ = _
                  simp only [Act.put, List.setIfInBounds_toArray, List.set_cons_zero, List.set_cons_succ, i64_w]
                  rfl
                 refine pq_ 32 51 36 8589934591 HT_.out (by kernel_rfl) ?_
                 refine one_ (i := 33) (N := some 52) (bsA 36 17179869183) rfl rfl (one_of HT_.out (by kernel_rfl)) (by decide) (fun K hK => ?_)
                 have s6 := hx958_0
                 refine value_ (by rfl) rfl (by go_simp; exact ⟨rfl, rfl⟩) ?_
                 refine hK.out _ _ hHeld (fun hHeld => ?_)
                 clear hK K
                 refine norm_ (a' := ?_) ?_ ?_
                 rotate_left
                 ·show Act.put _ (some 52) _ = _
                  simp only [Act.put, List.setIfInBounds_toArray, List.set_cons_zero, List.set_cons_succ, i64_w]
                  rfl
                 refine pq_ 34 53 36 34359738367 HT_.out (by kernel_rfl) ?_
                 refine pq_ 35 54 36 68719476735 HT_.out (by kernel_rfl) ?_
                 refine done_ (done_of HT_.out (by kernel_rfl)) ?_
                 try go_wp2
                 go_ret2
                 exact ⟨by first | rfl | (simp [errW_none, errW_some] <;> rfl) | (simp [*, errW_none, errW_some] <;> rfl), by repeat (first | (with_reducible first | exact HB.out | apply below_alloc | apply pw_below_drewN | apply below_drew1 | refine below_set ?_ GE941.out | refine below_set ?_ GE950.out) | exact HB.out)⟩
               ·rw [if_neg c30] at H
                exact absurd H (by simp)
              ·rw [if_neg c29] at H
               exact absurd H (by simp)
             ·replace c27 := Bool.eq_false_iff.mpr c27
              subst c27
              have H1 : (some (false, true)) = some (r1, r2) := by rw [if_neg (show ¬ (false = true) by decide)] at H; exact H
              clear H
              have H := H1
              clear H1
              simp only [Option.some.injEq, Prod.mk.injEq] at H
              obtain ⟨rfl, rfl⟩ := H
              have p949 : 0 ≤ (x15_1 : Int) := of_decide_eq_true (by first | (with_reducible assumption) | assumption)
              have q949 : x15_1 < (l1.length : Int) := of_decide_eq_true (by first | (with_reducible assumption) | assumption)
              obtain ⟨ad949, e949, hx949_0, hx949_1⟩ := at_T88 HR1.out x15_1 p949 q949
              cases e949
              replace hx949_0 := (HB.out.cell (World.block_lt_of_cell? w _ hx949_0)).trans hx949_0
              replace hx949_1 := (HB.out.cell (World.block_lt_of_cell? w _ hx949_1)).trans hx949_1
              replace p949 := eq_true p949
              replace q949 := eq_true q949
              try go_wp2_with (first | ((with_reducible refine gate_dst (N := 8) rfl ?_); refine box_event ?hg (N := 8) ?hd (cs := #[.int .i64 0, .int .i64 0]) (t := 88) ?hr ?_; (case hd => rfl); (case hg => rfl); (case hr => first | (go_simp; done) | (go_simp; rfl)); intro gb950 hg w52 hbox hb; have n0_ := Aside0.mk (Kd.R_below (by (with_reducible repeat (first | apply Kd.R_alloc | apply Kd.R_drewN | apply Kd.R_drew)); exact HO_6.out) hb); have n1_ := Aside0.mk (blk_below (g := gb941) (o := .cells #[.int .i64 a0_0, .slice A0_1 l0_1.length c0_1] 29 (0, 0)) (by (with_reducible repeat (first | refine blk_drewN ?_ _ | refine blk_drew ?_ | refine blk_alloc ?_ _)); exact BK941.out) hb); have n2_ := Aside0.mk (below_step (by repeat (first | (with_reducible first | exact HB.out | apply below_alloc | apply pw_below_drewN | apply below_drew1 | refine below_set ?_ GE941.out) | exact HB.out)) hb); have n3_ := Aside0.mk (hbox); have n4_ := Aside0.mk ((by rw [hg]; exact (below_size (by repeat (first | (with_reducible first | exact HB.out | apply below_alloc | apply pw_below_drewN | apply below_drew1 | refine below_set ?_ GE941.out) | exact HB.out))) : w.heap.size ≤ gb950)); have n5_ := Aside0.mk ((by rw [hg]; exact (below_size (by repeat (first | (with_reducible first | exact HB.out | apply below_alloc | apply pw_below_drewN | apply below_drew1 | refine below_set ?_ GE941.out) | exact HB.out))) : w.heap.size ≤ gb950)); have n6_ := Aside0.mk ((by rw [hg]; exact Nat.ne_of_lt (blk_lt (g := gb941) (o := .cells #[.int .i64 a0_0, .slice A0_1 l0_1.length c0_1] 29 (0, 0)) (by (with_reducible repeat (first | refine blk_drewN ?_ _ | refine blk_drew ?_ | refine blk_alloc ?_ _)); exact BK941.out)) : gb941 ≠ gb950)); have n7_ := Aside0.mk ((by rw [hg]; exact Nat.ne_of_gt (blk_lt (g := gb941) (o := .cells #[.int .i64 a0_0, .slice A0_1 l0_1.length c0_1] 29 (0, 0)) (by (with_reducible repeat (first | refine blk_drewN ?_ _ | refine blk_drew ?_ | refine blk_alloc ?_ _)); exact BK941.out)) : gb950 ≠ gb941)); clear HO_6; clear BK941; clear HB; have HO_6 := n0_; have BK941 := n1_; have HB := n2_; have BK950 := n3_; have GW950 := n4_; have GE950 := n5_; have NB941_950 := n6_; have NB950_941 := n7_; clear n0_ n1_ n2_ n3_ n4_ n5_ n6_ n7_; clear hb hbox hg; have hnb53 := NB950_941.out; have hnc53 := NB941_950.out; have hcz54_0 : w52.cell? ⟨gb950, 0, none⟩ = some (.int .i64 0) := (blk_cell BK950.out 0).trans rfl; have hcz54_1 : w52.cell? ⟨gb950, 1, none⟩ = some (.int .i64 0) := (blk_cell BK950.out 1).trans rfl; have hfz54_0 := blk_frozen BK950.out 0; have hfz54_1 := blk_frozen BK950.out 1))
              have n0_ : Aside0 (Kd.R Kd.bool 4 ((w52.setCell ⟨gb950, 0, none⟩ (.int .i64 ((rd_T88 l1 x15_1).f0))).setCell ⟨gb950, 1, none⟩ (.int .i64 ((rd_T88 l1 x15_1).f1))) w.heap.size (fun _ => True) v944 x6_1) := ⟨by (with_reducible repeat (first | apply Kd.R_alloc | apply Kd.R_drewN | apply Kd.R_drew)); exact Kd.R_mono (Kd.R_far (p := ⟨gb950, 1, none⟩) (Kd.R_far (p := ⟨gb950, 0, none⟩) (Kd.R_types HO_6.out BK950.out (by decide)) (fun _ hk => hk.2) (.int .i64 ((rd_T88 l1 x15_1).f0))) (fun _ hk => hk.2) (.int .i64 ((rd_T88 l1 x15_1).f1))) (fun _ hk => trivial)⟩
              have n1_ : Aside0 (((w52.setCell ⟨gb950, 0, none⟩ (.int .i64 ((rd_T88 l1 x15_1).f0))).setCell ⟨gb950, 1, none⟩ (.int .i64 ((rd_T88 l1 x15_1).f1))).heap[gb941]? = some (.cells #[.int .i64 a0_0, .slice A0_1 l0_1.length c0_1] 29 (0, 0))) := ⟨by (with_reducible repeat (first | refine blk_drewN ?_ _ | refine blk_drew ?_ | refine blk_alloc ?_ _)); refine blk_far ?_ NB941_950.out _; (with_reducible repeat (first | refine blk_drewN ?_ _ | refine blk_drew ?_ | refine blk_alloc ?_ _)); refine blk_far ?_ NB941_950.out _; (with_reducible repeat (first | refine blk_drewN ?_ _ | refine blk_drew ?_ | refine blk_alloc ?_ _)); exact BK941.out⟩
              have n2_ : Aside0 (((w52.setCell ⟨gb950, 0, none⟩ (.int .i64 ((rd_T88 l1 x15_1).f0))).setCell ⟨gb950, 1, none⟩ (.int .i64 ((rd_T88 l1 x15_1).f1))).heap[gb950]? = some (.cells #[.int .i64 ((rd_T88 l1 x15_1).f0), .int .i64 ((rd_T88 l1 x15_1).f1)] 88 (0, 0))) := ⟨by (with_reducible repeat (first | refine blk_drewN ?_ _ | refine blk_drew ?_ | refine blk_alloc ?_ _)); refine blk_put (cs := #[.int .i64 ((rd_T88 l1 x15_1).f0), .int .i64 0]) ?_ 1 _ rfl; (with_reducible repeat (first | refine blk_drewN ?_ _ | refine blk_drew ?_ | refine blk_alloc ?_ _)); refine blk_put (cs := #[.int .i64 0, .int .i64 0]) ?_ 0 _ rfl; (with_reducible repeat (first | refine blk_drewN ?_ _ | refine blk_drew ?_ | refine blk_alloc ?_ _)); exact BK950.out⟩
              have n3_ : Aside0 (Below w.heap.size w ((w52.setCell ⟨gb950, 0, none⟩ (.int .i64 ((rd_T88 l1 x15_1).f0))).setCell ⟨gb950, 1, none⟩ (.int .i64 ((rd_T88 l1 x15_1).f1)))) := ⟨by repeat (first | (with_reducible first | exact HB.out | apply below_alloc | apply pw_below_drewN | apply below_drew1 | refine below_set ?_ GE941.out | refine below_set ?_ GE950.out) | exact HB.out)⟩
              (try clear HO_6)
              (try clear BK941)
              (try clear BK950)
              (try clear HB)
              generalize ((w52.setCell ⟨gb950, 0, none⟩ (.int .i64 ((rd_T88 l1 x15_1).f0))).setCell ⟨gb950, 1, none⟩ (.int .i64 ((rd_T88 l1 x15_1).f1))) = w55 at n0_ n1_ n2_ n3_ ⊢
              have HO_6 := n0_
              have BK941 := n1_
              have BK950 := n2_
              have HB := n3_
              clear n0_ n1_ n2_ n3_
              have n0_ := Aside0.mk (Kd.R_drew HO_6.out)
              have n1_ := Aside0.mk (blk_drew BK941.out)
              have n2_ := Aside0.mk (blk_drew BK950.out)
              have n3_ := Aside0.mk (below_drew1 HB.out)
              clear HO_6
              clear BK941
              clear BK950
              clear HB
              have HO_6 := n0_
              have BK941 := n1_
              have BK950 := n2_
              have HB := n3_
              clear n0_ n1_ n2_ n3_
              obtain ⟨Ao57, co57, eo57⟩ := Kd.R_slice HO_6.out
              (first | subst eo57 | (injection eo57 with f1_ f2_ f3_; have f4_ := f1_.symm; have f5_ := f3_.symm; clear f1_ f2_ f3_; subst f4_; subst f5_))
              have p952 : 0 ≤ (((rd_T88 l1 x15_1).f0) : Int) := of_decide_eq_true (by first | (with_reducible assumption) | assumption)
              have q952 : ((rd_T88 l1 x15_1).f0) < (x6_1.length : Int) := of_decide_eq_true (by first | (with_reducible assumption) | assumption)
              obtain ⟨ad952, e952, hx952_0⟩ := Kd.at_bool (Kd.R_reads' HO_6.out).2.2 ((rd_T88 l1 x15_1).f0) p952 q952
              (try rw [← Nbq17.out] at hx952_0)
              cases e952
              replace p952 := eq_true p952
              replace q952 := eq_true q952
              have p953 : 0 ≤ (((rd_T88 l1 x15_1).f0) : Int) := of_decide_eq_true (by first | (with_reducible assumption) | assumption)
              have q953 : ((rd_T88 l1 x15_1).f0) < (l0_1.length : Int) := of_decide_eq_true (by first | (with_reducible assumption) | assumption)
              obtain ⟨ad953, A953_0, c953_0, e953, hx953_0, hl953_0, hi953_0⟩ := at_L1 HR0_1.out ((rd_T88 l1 x15_1).f0) p953 q953
              have hw953_0 := hx953_0
              cases e953
              replace hx953_0 := (HB.out.cell (World.block_lt_of_cell? w _ hx953_0)).trans hx953_0
              have HR953_0 := Aside0.mk hi953_0
              have HC953_0 := Aside0.mk hl953_0
              clear hi953_0 hl953_0
              replace p953 := eq_true p953
              replace q953 := eq_true q953
              refine start_ (n := 36) (S := fun w' => w'.cell? ⟨gb950, 0, none⟩ = some (.int .i64 ((rd_T88 l1 x15_1).f0)) ∧ w'.cell? ⟨gb950, 1, none⟩ = some (.int .i64 ((rd_T88 l1 x15_1).f1)) ∧ w'.cell? ⟨gb941, 0, none⟩ = some (.int .i64 a0_0) ∧ w'.cell? ⟨gb941, 1, none⟩ = some (.slice (some ad953) l0_1.length c0_1) ∧ w'.cell? (ad952.add (((rd_T88 l1 x15_1).f0)).toNat) = some (.bool false) ∧ w'.cell? (ad953.add (((rd_T88 l1 x15_1).f0)).toNat) = some (.slice A953_0 (rd_L1 l0_1 ((rd_T88 l1 x15_1).f0)).length c953_0)) (ds := []) #[false, false, false, false, false, false, false, false, false, false, false, false, false, false, false, false, false, false, false, false, false, false, false, false, false, false, false, false, false, false, false, false, false, false, false, false] (by kernel_rfl) rfl rfl ⟨(blk_cell BK950.out 0).trans rfl, (blk_cell BK950.out 1).trans rfl, (blk_cell BK941.out 0).trans rfl, (blk_cell BK941.out 1).trans rfl, hx952_0, ((HB.out.cell (World.block_lt_of_cell? w _ hw953_0)).trans hw953_0)⟩ (fun hHeld => ?_); refine with_tabW impl_IsPeelOrder.tab7 impl_IsPeelOrder.bits7 (fun HT_ HW_ => ?_)
              generalize w55.drew = w56 at HO_6 BK941 BK950 HB HR953_0 hx952_0 hx953_0 hHeld ⊢
              refine pq_ 0 19 36 1 HT_.out (by kernel_rfl) ?_
              refine pq_ 2 21 36 5 HT_.out (by kernel_rfl) ?_
              refine tq_ 1 20 36 7 HT_.out HW_.out (by kernel_rfl) hHeld ?_ rfl (by rintro w' ⟨s0, s1, s2, s3, s4, s5⟩; go_simp; with_reducible rfl)
              refine tq_ 3 22 36 15 HT_.out HW_.out (by kernel_rfl) hHeld ?_ rfl (by rintro w' ⟨s0, s1, s2, s3, s4, s5⟩; go_simp; with_reducible rfl)
              refine pq_ 4 23 36 31 HT_.out (by kernel_rfl) ?_
              refine pq_ 5 24 36 63 HT_.out (by kernel_rfl) ?_
              refine one_ (i := 6) (N := some 25) (bsA 36 127) rfl rfl (one_of HT_.out (by kernel_rfl)) (by decide) (fun K hK => ?_)
              refine goes_ Try.func76 (by kernel_rfl) rfl #[.int .i64 ((rd_T88 l1 x15_1).f0), .int .i64 0, .int .i64 (wrap64 ((l0_1.length : Int) - 1))] (by rfl) rfl rfl (by (try simp only [List.map_toArray, List.map_cons, List.map_nil]); first | done | rfl | (simp only [List.length_drop, List.length_take]; rfl)) ?_
              with_reducible refine (impl_in.calls ((rd_T88 l1 x15_1).f0) 0 (wrap64 ((l0_1.length : Int) - 1)) true _ A13.out).mono ?_
              rintro e w' ⟨rfl, ⟨nd, rfl⟩⟩
              refine ⟨_, rfl, ?_⟩
              refine hK.out _ _ ⟨(blk_cell BK950.out 0).trans rfl, (blk_cell BK950.out 1).trans rfl, (blk_cell BK941.out 0).trans rfl, (blk_cell BK941.out 1).trans rfl, hHeld.2.2.2.2.1, ((HB.out.cell (World.block_lt_of_cell? w _ hw953_0)).trans hw953_0)⟩ (fun hHeld => ?_)
              clear hK K
              refine norm_ (a' := ?_) ?_ ?_
              rotate_left
              ·show Act.put _ (some 25) _ = _
               simp only [Act.put, List.setIfInBounds_toArray, List.set_cons_zero, List.set_cons_succ, i64_w]
               rfl
              refine pq_ 7 26 36 255 HT_.out (by kernel_rfl) ?_
              refine pq_ 8 27 36 511 HT_.out (by kernel_rfl) ?_
              refine pq_ 9 28 36 1023 HT_.out (by kernel_rfl) ?_
              refine pq_ 10 29 36 2047 HT_.out (by kernel_rfl) ?_
              refine tq_ 11 30 36 4095 HT_.out HW_.out (by kernel_rfl) hHeld ?_ rfl (by rintro w' ⟨s0, s1, s2, s3, s4, s5⟩; go_simp; with_reducible rfl)
              refine pq_ 12 31 36 8191 HT_.out (by kernel_rfl) ?_
              refine tq_ 13 32 36 16383 HT_.out HW_.out (by kernel_rfl) hHeld ?_ rfl (by rintro w' ⟨s0, s1, s2, s3, s4, s5⟩; go_simp; with_reducible rfl)
              refine pq_ 14 33 36 32767 HT_.out (by kernel_rfl) ?_
              refine pq_ 15 34 36 65535 HT_.out (by kernel_rfl) ?_
              refine pq_ 16 35 36 131071 HT_.out (by kernel_rfl) ?_
              refine pq_ 18 37 36 393215 HT_.out (by kernel_rfl) ?_
              refine pq_ 22 41 36 4587519 HT_.out (by kernel_rfl) ?_
              refine tq_ 17 36 36 4718591 HT_.out HW_.out (by kernel_rfl) hHeld ?_ rfl (by rintro w' ⟨s0, s1, s2, s3, s4, s5⟩; go_simp; with_reducible rfl)
              refine tq_ 19 38 36 5242879 HT_.out HW_.out (by kernel_rfl) hHeld ?_ rfl (by rintro w' ⟨s0, s1, s2, s3, s4, s5⟩; go_simp; with_reducible rfl)
              refine pq_ 20 39 36 6291455 HT_.out (by kernel_rfl) ?_
              refine tq_ 21 40 36 8388607 HT_.out HW_.out (by kernel_rfl) hHeld ?_ rfl (by rintro w' ⟨s0, s1, s2, s3, s4, s5⟩; go_simp; with_reducible rfl)
              refine tq_ 23 42 36 16777215 HT_.out HW_.out (by kernel_rfl) hHeld ?_ rfl (by rintro w' ⟨s0, s1, s2, s3, s4, s5⟩; go_simp; with_reducible rfl)
              refine one_ (i := 24) (N := some 43) (bsA 36 33554431) rfl rfl (one_of HT_.out (by kernel_rfl)) (by decide) (fun K hK => ?_)
              refine goes_ Try.func77 (by kernel_rfl) rfl #[.slice A953_0 (rd_L1 l0_1 ((rd_T88 l1 x15_1).f0)).length c953_0, .int .i64 ((rd_T88 l1 x15_1).f1)] (by rfl) rfl rfl (by (try simp only [List.map_toArray, List.map_cons, List.map_nil]); first | done | rfl | (simp only [List.length_drop, List.length_take]; rfl)) ?_
              with_reducible refine (slices_Contains_int_int.calls k1 _ _ (rd_L1 l0_1 ((rd_T88 l1 x15_1).f0)) ((rd_T88 l1 x15_1).f1) false _ ?side1 ?side2 A26.out).mono ?_
              (case side1 => repeat (first | exact (Kd.C_below HR953_0.out (by repeat (first | (with_reducible first | exact HB.out | apply below_alloc | apply pw_below_drewN | apply below_drew1 | refine below_set ?_ GE941.out | refine below_set ?_ GE950.out) | exact HB.out))) | (with_reducible refine Kd.C_alloc ?_ _) | (with_reducible refine Kd.C_drewN ?_ _) | (with_reducible refine Kd.C_drew ?_)))
              (case side2 => exact HC953_0.out)
              rintro e w' ⟨rfl, ⟨nd, rfl⟩⟩
              refine ⟨_, rfl, ?_⟩
              refine hK.out _ _ ⟨(blk_cell BK950.out 0).trans rfl, (blk_cell BK950.out 1).trans rfl, (blk_cell BK941.out 0).trans rfl, (blk_cell BK941.out 1).trans rfl, hHeld.2.2.2.2.1, ((HB.out.cell (World.block_lt_of_cell? w _ hw953_0)).trans hw953_0)⟩ (fun hHeld => ?_)
              clear hK K
              refine norm_ (a' := ?_) ?_ ?_
              rotate_left
              ·show Act.put _ (some 43) _ = _
               simp only [Act.put, List.setIfInBounds_toArray, List.set_cons_zero, List.set_cons_succ, i64_w]
               rfl
              refine pq_ 25 44 36 67108863 HT_.out (by kernel_rfl) ?_
              refine pq_ 26 45 36 134217727 HT_.out (by kernel_rfl) ?_
              refine pq_ 27 46 36 268435455 HT_.out (by kernel_rfl) ?_
              refine uq_ 28 47 36 536870911 HT_.out (by kernel_rfl) ?_
              refine uq_ 29 48 36 1073741823 HT_.out (by kernel_rfl) ?_
              refine uq_ 30 49 36 2147483647 HT_.out (by kernel_rfl) ?_
              refine uq_ 31 50 36 4294967295 HT_.out (by kernel_rfl) ?_
              refine uq_ 32 51 36 8589934591 HT_.out (by kernel_rfl) ?_
              refine uq_ 33 52 36 17179869183 HT_.out (by kernel_rfl) ?_
              refine uq_ 34 53 36 34359738367 HT_.out (by kernel_rfl) ?_
              refine pq_ 35 54 36 68719476735 HT_.out (by kernel_rfl) ?_
              refine done_ (done_of HT_.out (by kernel_rfl)) ?_
              try go_wp2
              go_ret2
              exact ⟨by first | rfl | (simp [errW_none, errW_some] <;> rfl) | (simp [*, errW_none, errW_some] <;> rfl), by repeat (first | (with_reducible first | exact HB.out | apply below_alloc | apply pw_below_drewN | apply below_drew1 | refine below_set ?_ GE941.out | refine below_set ?_ GE950.out) | exact HB.out)⟩
            ·rw [if_neg c25] at H
             exact absurd H (by simp)
          ·rw [if_neg c16] at H
           exact absurd H (by simp)
         ·rw [if_neg c15] at H
          exact absurd H (by simp)
        ·replace c14 := Bool.eq_false_iff.mpr c14
         subst c14
         have H1 : (some (false, true)) = some (r1, r2) := by rw [if_neg (show ¬ (false = true) by decide)] at H; exact H
         clear H
         have H := H1
         clear H1
         simp only [Option.some.injEq, Prod.mk.injEq] at H
         obtain ⟨rfl, rfl⟩ := H
         have p949 : 0 ≤ (x15_1 : Int) := of_decide_eq_true (by first | (with_reducible assumption) | assumption)
         have q949 : x15_1 < (l1.length : Int) := of_decide_eq_true (by first | (with_reducible assumption) | assumption)
         obtain ⟨ad949, e949, hx949_0, hx949_1⟩ := at_T88 HR1.out x15_1 p949 q949
         cases e949
         replace hx949_0 := (HB.out.cell (World.block_lt_of_cell? w _ hx949_0)).trans hx949_0
         replace hx949_1 := (HB.out.cell (World.block_lt_of_cell? w _ hx949_1)).trans hx949_1
         replace p949 := eq_true p949
         replace q949 := eq_true q949
         try go_wp2_with (first | ((with_reducible refine gate_dst (N := 8) rfl ?_); refine box_event ?hg (N := 8) ?hd (cs := #[.int .i64 0, .int .i64 0]) (t := 88) ?hr ?_; (case hd => rfl); (case hg => rfl); (case hr => first | (go_simp; done) | (go_simp; rfl)); intro gb950 hg w58 hbox hb; have n0_ := Aside0.mk (Kd.R_below (by (with_reducible repeat (first | apply Kd.R_alloc | apply Kd.R_drewN | apply Kd.R_drew)); exact HO_6.out) hb); have n1_ := Aside0.mk (blk_below (g := gb941) (o := .cells #[.int .i64 a0_0, .slice A0_1 l0_1.length c0_1] 29 (0, 0)) (by (with_reducible repeat (first | refine blk_drewN ?_ _ | refine blk_drew ?_ | refine blk_alloc ?_ _)); exact BK941.out) hb); have n2_ := Aside0.mk (below_step (by repeat (first | (with_reducible first | exact HB.out | apply below_alloc | apply pw_below_drewN | apply below_drew1 | refine below_set ?_ GE941.out) | exact HB.out)) hb); have n3_ := Aside0.mk (hbox); have n4_ := Aside0.mk ((by rw [hg]; exact (below_size (by repeat (first | (with_reducible first | exact HB.out | apply below_alloc | apply pw_below_drewN | apply below_drew1 | refine below_set ?_ GE941.out) | exact HB.out))) : w.heap.size ≤ gb950)); have n5_ := Aside0.mk ((by rw [hg]; exact (below_size (by repeat (first | (with_reducible first | exact HB.out | apply below_alloc | apply pw_below_drewN | apply below_drew1 | refine below_set ?_ GE941.out) | exact HB.out))) : w.heap.size ≤ gb950)); have n6_ := Aside0.mk ((by rw [hg]; exact Nat.ne_of_lt (blk_lt (g := gb941) (o := .cells #[.int .i64 a0_0, .slice A0_1 l0_1.length c0_1] 29 (0, 0)) (by (with_reducible repeat (first | refine blk_drewN ?_ _ | refine blk_drew ?_ | refine blk_alloc ?_ _)); exact BK941.out)) : gb941 ≠ gb950)); have n7_ := Aside0.mk ((by rw [hg]; exact Nat.ne_of_gt (blk_lt (g := gb941) (o := .cells #[.int .i64 a0_0, .slice A0_1 l0_1.length c0_1] 29 (0, 0)) (by (with_reducible repeat (first | refine blk_drewN ?_ _ | refine blk_drew ?_ | refine blk_alloc ?_ _)); exact BK941.out)) : gb950 ≠ gb941)); clear HO_6; clear BK941; clear HB; have HO_6 := n0_; have BK941 := n1_; have HB := n2_; have BK950 := n3_; have GW950 := n4_; have GE950 := n5_; have NB941_950 := n6_; have NB950_941 := n7_; clear n0_ n1_ n2_ n3_ n4_ n5_ n6_ n7_; clear hb hbox hg; have hnb59 := NB950_941.out; have hnc59 := NB941_950.out; have hcz60_0 : w58.cell? ⟨gb950, 0, none⟩ = some (.int .i64 0) := (blk_cell BK950.out 0).trans rfl; have hcz60_1 : w58.cell? ⟨gb950, 1, none⟩ = some (.int .i64 0) := (blk_cell BK950.out 1).trans rfl; have hfz60_0 := blk_frozen BK950.out 0; have hfz60_1 := blk_frozen BK950.out 1))
         have n0_ : Aside0 (Kd.R Kd.bool 4 ((w58.setCell ⟨gb950, 0, none⟩ (.int .i64 ((rd_T88 l1 x15_1).f0))).setCell ⟨gb950, 1, none⟩ (.int .i64 ((rd_T88 l1 x15_1).f1))) w.heap.size (fun _ => True) v944 x6_1) := ⟨by (with_reducible repeat (first | apply Kd.R_alloc | apply Kd.R_drewN | apply Kd.R_drew)); exact Kd.R_mono (Kd.R_far (p := ⟨gb950, 1, none⟩) (Kd.R_far (p := ⟨gb950, 0, none⟩) (Kd.R_types HO_6.out BK950.out (by decide)) (fun _ hk => hk.2) (.int .i64 ((rd_T88 l1 x15_1).f0))) (fun _ hk => hk.2) (.int .i64 ((rd_T88 l1 x15_1).f1))) (fun _ hk => trivial)⟩
         have n1_ : Aside0 (((w58.setCell ⟨gb950, 0, none⟩ (.int .i64 ((rd_T88 l1 x15_1).f0))).setCell ⟨gb950, 1, none⟩ (.int .i64 ((rd_T88 l1 x15_1).f1))).heap[gb941]? = some (.cells #[.int .i64 a0_0, .slice A0_1 l0_1.length c0_1] 29 (0, 0))) := ⟨by (with_reducible repeat (first | refine blk_drewN ?_ _ | refine blk_drew ?_ | refine blk_alloc ?_ _)); refine blk_far ?_ NB941_950.out _; (with_reducible repeat (first | refine blk_drewN ?_ _ | refine blk_drew ?_ | refine blk_alloc ?_ _)); refine blk_far ?_ NB941_950.out _; (with_reducible repeat (first | refine blk_drewN ?_ _ | refine blk_drew ?_ | refine blk_alloc ?_ _)); exact BK941.out⟩
         have n2_ : Aside0 (((w58.setCell ⟨gb950, 0, none⟩ (.int .i64 ((rd_T88 l1 x15_1).f0))).setCell ⟨gb950, 1, none⟩ (.int .i64 ((rd_T88 l1 x15_1).f1))).heap[gb950]? = some (.cells #[.int .i64 ((rd_T88 l1 x15_1).f0), .int .i64 ((rd_T88 l1 x15_1).f1)] 88 (0, 0))) := ⟨by (with_reducible repeat (first | refine blk_drewN ?_ _ | refine blk_drew ?_ | refine blk_alloc ?_ _)); refine blk_put (cs := #[.int .i64 ((rd_T88 l1 x15_1).f0), .int .i64 0]) ?_ 1 _ rfl; (with_reducible repeat (first | refine blk_drewN ?_ _ | refine blk_drew ?_ | refine blk_alloc ?_ _)); refine blk_put (cs := #[.int .i64 0, .int .i64 0]) ?_ 0 _ rfl; (with_reducible repeat (first | refine blk_drewN ?_ _ | refine blk_drew ?_ | refine blk_alloc ?_ _)); exact BK950.out⟩
         have n3_ : Aside0 (Below w.heap.size w ((w58.setCell ⟨gb950, 0, none⟩ (.int .i64 ((rd_T88 l1 x15_1).f0))).setCell ⟨gb950, 1, none⟩ (.int .i64 ((rd_T88 l1 x15_1).f1)))) := ⟨by repeat (first | (with_reducible first | exact HB.out | apply below_alloc | apply pw_below_drewN | apply below_drew1 | refine below_set ?_ GE941.out | refine below_set ?_ GE950.out) | exact HB.out)⟩
         (try clear HO_6)
         (try clear BK941)
         (try clear BK950)
         (try clear HB)
         generalize ((w58.setCell ⟨gb950, 0, none⟩ (.int .i64 ((rd_T88 l1 x15_1).f0))).setCell ⟨gb950, 1, none⟩ (.int .i64 ((rd_T88 l1 x15_1).f1))) = w61 at n0_ n1_ n2_ n3_ ⊢
         have HO_6 := n0_
         have BK941 := n1_
         have BK950 := n2_
         have HB := n3_
         clear n0_ n1_ n2_ n3_
         have n0_ := Aside0.mk (Kd.R_drew HO_6.out)
         have n1_ := Aside0.mk (blk_drew BK941.out)
         have n2_ := Aside0.mk (blk_drew BK950.out)
         have n3_ := Aside0.mk (below_drew1 HB.out)
         clear HO_6
         clear BK941
         clear BK950
         clear HB
         have HO_6 := n0_
         have BK941 := n1_
         have BK950 := n2_
         have HB := n3_
         clear n0_ n1_ n2_ n3_
         refine start_ (n := 36) (S := fun w' => w'.cell? ⟨gb950, 0, none⟩ = some (.int .i64 ((rd_T88 l1 x15_1).f0)) ∧ w'.cell? ⟨gb950, 1, none⟩ = some (.int .i64 ((rd_T88 l1 x15_1).f1)) ∧ w'.cell? ⟨gb941, 0, none⟩ = some (.int .i64 a0_0) ∧ w'.cell? ⟨gb941, 1, none⟩ = some (.slice A0_1 l0_1.length c0_1)) (ds := []) #[false, false, false, false, false, false, false, false, false, false, false, false, false, false, false, false, false, false, false, false, false, false, false, false, false, false, false, false, false, false, false, false, false, false, false, false] (by kernel_rfl) rfl rfl ⟨(blk_cell BK950.out 0).trans rfl, (blk_cell BK950.out 1).trans rfl, (blk_cell BK941.out 0).trans rfl, (blk_cell BK941.out 1).trans rfl⟩ (fun hHeld => ?_); refine with_tabW impl_IsPeelOrder.tab7 impl_IsPeelOrder.bits7 (fun HT_ HW_ => ?_)
         generalize w61.drew = w62 at HO_6 BK941 BK950 HB hHeld ⊢
         refine pq_ 0 19 36 1 HT_.out (by kernel_rfl) ?_
         refine pq_ 2 21 36 5 HT_.out (by kernel_rfl) ?_
         refine tq_ 1 20 36 7 HT_.out HW_.out (by kernel_rfl) hHeld ?_ rfl (by rintro w' ⟨s0, s1, s2, s3⟩; go_simp; with_reducible rfl)
         refine tq_ 3 22 36 15 HT_.out HW_.out (by kernel_rfl) hHeld ?_ rfl (by rintro w' ⟨s0, s1, s2, s3⟩; go_simp; with_reducible rfl)
         refine pq_ 4 23 36 31 HT_.out (by kernel_rfl) ?_
         refine pq_ 5 24 36 63 HT_.out (by kernel_rfl) ?_
         refine one_ (i := 6) (N := some 25) (bsA 36 127) rfl rfl (one_of HT_.out (by kernel_rfl)) (by decide) (fun K hK => ?_)
         refine goes_ Try.func76 (by kernel_rfl) rfl #[.int .i64 ((rd_T88 l1 x15_1).f0), .int .i64 0, .int .i64 (wrap64 ((l0_1.length : Int) - 1))] (by rfl) rfl rfl (by (try simp only [List.map_toArray, List.map_cons, List.map_nil]); first | done | rfl | (simp only [List.length_drop, List.length_take]; rfl)) ?_
         with_reducible refine (impl_in.calls ((rd_T88 l1 x15_1).f0) 0 (wrap64 ((l0_1.length : Int) - 1)) false _ A13.out).mono ?_
         rintro e w' ⟨rfl, ⟨nd, rfl⟩⟩
         refine ⟨_, rfl, ?_⟩
         refine hK.out _ _ ⟨(blk_cell BK950.out 0).trans rfl, (blk_cell BK950.out 1).trans rfl, (blk_cell BK941.out 0).trans rfl, (blk_cell BK941.out 1).trans rfl⟩ (fun hHeld => ?_)
         clear hK K
         refine norm_ (a' := ?_) ?_ ?_
         rotate_left
         ·show Act.put _ (some 25) _ = _
          simp only [Act.put, List.setIfInBounds_toArray, List.set_cons_zero, List.set_cons_succ, i64_w]
          rfl
         refine pq_ 7 26 36 255 HT_.out (by kernel_rfl) ?_
         refine pq_ 8 27 36 511 HT_.out (by kernel_rfl) ?_
         refine uq_ 9 28 36 1023 HT_.out (by kernel_rfl) ?_
         refine uq_ 10 29 36 2047 HT_.out (by kernel_rfl) ?_
         refine uq_ 11 30 36 4095 HT_.out (by kernel_rfl) ?_
         refine uq_ 12 31 36 8191 HT_.out (by kernel_rfl) ?_
         refine uq_ 13 32 36 16383 HT_.out (by kernel_rfl) ?_
         refine pq_ 14 33 36 32767 HT_.out (by kernel_rfl) ?_
         refine pq_ 15 34 36 65535 HT_.out (by kernel_rfl) ?_
         refine uq_ 16 35 36 131071 HT_.out (by kernel_rfl) ?_
         refine uq_ 17 36 36 262143 HT_.out (by kernel_rfl) ?_
         refine uq_ 18 37 36 524287 HT_.out (by kernel_rfl) ?_
         refine uq_ 19 38 36 1048575 HT_.out (by kernel_rfl) ?_
         refine uq_ 20 39 36 2097151 HT_.out (by kernel_rfl) ?_
         refine uq_ 21 40 36 4194303 HT_.out (by kernel_rfl) ?_
         refine uq_ 22 41 36 8388607 HT_.out (by kernel_rfl) ?_
         refine uq_ 23 42 36 16777215 HT_.out (by kernel_rfl) ?_
         refine uq_ 24 43 36 33554431 HT_.out (by kernel_rfl) ?_
         refine uq_ 25 44 36 67108863 HT_.out (by kernel_rfl) ?_
         refine pq_ 26 45 36 134217727 HT_.out (by kernel_rfl) ?_
         refine pq_ 27 46 36 268435455 HT_.out (by kernel_rfl) ?_
         refine uq_ 28 47 36 536870911 HT_.out (by kernel_rfl) ?_
         refine uq_ 29 48 36 1073741823 HT_.out (by kernel_rfl) ?_
         refine uq_ 30 49 36 2147483647 HT_.out (by kernel_rfl) ?_
         refine uq_ 31 50 36 4294967295 HT_.out (by kernel_rfl) ?_
         refine uq_ 32 51 36 8589934591 HT_.out (by kernel_rfl) ?_
         refine uq_ 33 52 36 17179869183 HT_.out (by kernel_rfl) ?_
         refine uq_ 34 53 36 34359738367 HT_.out (by kernel_rfl) ?_
         refine pq_ 35 54 36 68719476735 HT_.out (by kernel_rfl) ?_
         refine done_ (done_of HT_.out (by kernel_rfl)) ?_
         try go_wp2
         go_ret2
         exact ⟨by first | rfl | (simp [errW_none, errW_some] <;> rfl) | (simp [*, errW_none, errW_some] <;> rfl), by repeat (first | (with_reducible first | exact HB.out | apply below_alloc | apply pw_below_drewN | apply below_drew1 | refine below_set ?_ GE941.out | refine below_set ?_ GE950.out) | exact HB.out)⟩
       ·rw [if_neg c12] at H
        exact absurd H (by simp)
      ·rw [if_neg c11] at H
       exact absurd H (by simp)
     ·rw [if_neg c10] at H
      have c10b0 : decide (x15_1 < (l1.length : Int)) = false := decide_eq_false c10
      clear c10
      replace H := Option.bind_eq_some_iff.mp H
      obtain ⟨t946, A630, H⟩ := H
      replace H : (some (((t946.length : Int) == 0), true)) = some (r1, r2) := H
      have A63 := Aside0.mk A630
      clear A630
      simp only [Option.some.injEq, Prod.mk.injEq] at H
      obtain ⟨rfl, rfl⟩ := H
      obtain ⟨Ao64, co64, eo64⟩ := Kd.R_slice HO_6.out
      subst eo64
      go_wp2_with (first | ((with_reducible refine gate_callee (f := 102) rfl ?_); refine goesL_ (some 61) rfl rfl Try.func102 (by kernel_rfl) rfl #[.slice Ao64 x6_1.length co64] rfl (by (try simp only [List.map_toArray, List.map_cons, List.map_nil]); first | done | rfl | (simp only [List.length_drop, List.length_take]; rfl)) ?_; (with_reducible refine (impl_left.calls k1 _ _ x6_1 t946 _ ?side1 ?side2 A63.out).mono ?_); (case side1 => repeat (first | exact (Kd.R_reads' HO_6.out).2.2 | (with_reducible refine Kd.C_alloc ?_ _) | (with_reducible refine Kd.C_drewN ?_ _) | (with_reducible refine Kd.C_drew ?_))); (case side2 => exact (Kd.R_reads' HO_6.out).2.1); rintro e w65 ⟨v947, rfl, ho0, hb⟩; refine ⟨_, rfl, ?_⟩; have n0_ := Aside0.mk (Kd.R_below (by (with_reducible repeat (first | apply Kd.R_alloc | apply Kd.R_drewN | apply Kd.R_drew)); exact HO_6.out) hb); have n1_ := Aside0.mk (Kd.R_lower ho0 (below_size (by repeat (first | (with_reducible first | exact HB.out | apply below_alloc | apply pw_below_drewN | apply below_drew1 | refine below_set ?_ GE941.out) | exact HB.out)))); have n2_ := Aside0.mk (blk_below (g := gb941) (o := .cells #[.int .i64 a0_0, .slice A0_1 l0_1.length c0_1] 29 (0, 0)) (by (with_reducible repeat (first | refine blk_drewN ?_ _ | refine blk_drew ?_ | refine blk_alloc ?_ _)); exact BK941.out) hb); have n3_ := Aside0.mk (below_step (by repeat (first | (with_reducible first | exact HB.out | apply below_alloc | apply pw_below_drewN | apply below_drew1 | refine below_set ?_ GE941.out) | exact HB.out)) hb); clear HO_6; clear BK941; clear HB; have HO_6 := n0_; have HO948 := n1_; have BK941 := n2_; have HB := n3_; clear n0_ n1_ n2_ n3_; (try clear hb); (try clear hb2); (try clear hk); (try clear hi); (try clear ho0); obtain ⟨Ao66, co66, eo66⟩ := Kd.R_slice HO948.out; subst eo66))
      go_ret2
      exact ⟨by first | rfl | (simp [errW_none, errW_some] <;> rfl) | (simp [*, errW_none, errW_some] <;> rfl), by repeat (first | (with_reducible first | exact HB.out | apply below_alloc | apply pw_below_drewN | apply below_drew1 | refine below_set ?_ GE941.out) | exact HB.out)⟩
  ·replace c4 := Bool.eq_false_iff.mpr c4
   subst c4
   have H1 : (some (false, false)) = some (r1, r2) := by rw [if_neg (show ¬ (false = true) by decide)] at H; exact H
   clear H
   have H := H1
   clear H1
   simp only [Option.some.injEq, Prod.mk.injEq] at H
   obtain ⟨rfl, rfl⟩ := H
   go_enter Try.func54, Try.ntmps54
   go_wp2_with (first | ((with_reducible refine gate_dst (N := 2) rfl ?_); refine box_event ?hg (N := 2) ?hd (cs := #[.int .i64 a0_0, .slice A0_1 l0_1.length c0_1]) (t := 29) ?hr ?_; (case hd => rfl); (case hg => rfl); (case hr => first | (go_simp; done) | (go_simp; rfl)); intro gb941 hg w67 hbox hb; have n0_ := Aside0.mk (below_step (by repeat (first | (with_reducible first | exact HB.out | apply below_alloc | apply pw_below_drewN | apply below_drew1) | exact HB.out)) hb); have n1_ := Aside0.mk (hbox); have n2_ := Aside0.mk ((by rw [hg]; exact (below_size (by repeat (first | (with_reducible first | exact HB.out | apply below_alloc | apply pw_below_drewN | apply below_drew1) | exact HB.out))) : w.heap.size ≤ gb941)); have n3_ := Aside0.mk ((by rw [hg]; exact (below_size (by repeat (first | (with_reducible first | exact HB.out | apply below_alloc | apply pw_below_drewN | apply below_drew1) | exact HB.out))) : w.heap.size ≤ gb941)); clear HB; have HB := n0_; have BK941 := n1_; have GW941 := n2_; have GE941 := n3_; clear n0_ n1_ n2_ n3_; clear hb hbox hg; have hcz68_0 : w67.cell? ⟨gb941, 0, none⟩ = some (.int .i64 a0_0) := (blk_cell BK941.out 0).trans rfl; have hcz68_1 : w67.cell? ⟨gb941, 1, none⟩ = some (.slice A0_1 l0_1.length c0_1) := (blk_cell BK941.out 1).trans rfl; have hfz68_0 := blk_frozen BK941.out 0; have hfz68_1 := blk_frozen BK941.out 1) | ((with_reducible refine gate_callee (f := 71) rfl ?_); refine goesL_ (some 10) rfl rfl Try.func71 (by kernel_rfl) rfl #[.agg #[.int .i64 a0_0, .slice A0_1 l0_1.length c0_1]] rfl (by (try simp only [List.map_toArray, List.map_cons, List.map_nil]); first | done | rfl | (simp only [List.length_drop, List.length_take]; rfl)) ?_; (with_reducible refine (impl_IsHyper.calls k a0_0 _ _ l0_1 false _ ?side1 ?side2 A3.out).mono ?_); (case side1 => repeat (first | exact (Kd.C_below HR0_1.out HB.out) | (with_reducible refine Kd.C_alloc ?_ _) | (with_reducible refine Kd.C_drewN ?_ _) | (with_reducible refine Kd.C_drew ?_))); (case side2 => exact HC0_1.out); rintro e w69 ⟨rfl, hb⟩; refine ⟨_, rfl, ?_⟩; have n0_ := Aside0.mk (blk_below (g := gb941) (o := .cells #[.int .i64 a0_0, .slice A0_1 l0_1.length c0_1] 29 (0, 0)) (by (with_reducible repeat (first | refine blk_drewN ?_ _ | refine blk_drew ?_ | refine blk_alloc ?_ _)); exact BK941.out) hb); have n1_ := Aside0.mk (below_step (by repeat (first | (with_reducible first | exact HB.out | apply below_alloc | apply pw_below_drewN | apply below_drew1 | refine below_set ?_ GE941.out) | exact HB.out)) hb); clear BK941; clear HB; have BK941 := n0_; have HB := n1_; clear n0_ n1_; (try clear hb); (try clear hb2); (try clear hk); (try clear hi)))
   go_ret2
   exact ⟨by first | rfl | (simp [errW_none, errW_some] <;> rfl) | (simp [*, errW_none, errW_some] <;> rfl), by repeat (first | (with_reducible first | exact HB.out | apply below_alloc | apply pw_below_drewN | apply below_drew1 | refine below_set ?_ GE941.out) | exact HB.out)⟩
/-! ### laws_FnExactIsPeelOrder: function 12 -/
def wfT90 (x : S90) : Prop := wfI .i64 x.f0 ∧ wfI .i64 x.f1
set_option maxRecDepth 100000 in
theorem opens_T90 : Opens Try.prog 90 k90 wfT90 := by
  intro H enc w base spare held fuel cs x h
  obtain ⟨xs, m, _, _, hl, _, _⟩ := DataW.trod_struct Try.underlying90 h
  obtain ⟨n, g⟩ := struct_in Try.underlying90 h
  obtain ⟨y0, e0⟩ := g 0 _ rfl
  obtain ⟨y1, e1⟩ := g 1 _ rfl
  have c3 : Try.prog.cellsOf 3 = 1 := by kernel_rfl
  rw [show Try.prog.cellsOf 90 = 2 from by kernel_rfl] at hl
  match cs, hl with
  | [a, b], _ =>
    have f0 : DataW.trod enc Try.prog w base spare held n 3 (List.take (Try.prog.cellsOf 3) (List.drop 0 [a, b])) = some y0 := e0
    have f1 : DataW.trod enc Try.prog w base spare held n 3 (List.take (Try.prog.cellsOf 3) (List.drop 1 [a, b])) = some y1 := e1
    rw [c3] at f0 f1
    obtain ⟨a0, k0, w0⟩ := opens_int Try.underlying3 enc w base spare held n [a] y0 f0
    obtain ⟨a1, k1, w1⟩ := opens_int Try.underlying3 enc w base spare held n [b] y1 f1
    exact ⟨⟨a0, a1⟩, ⟨[a], [b], rfl, k0, k1⟩, w0, w1⟩
def laws_FnExactIsPeelOrder.f (k : Nat) (a0_0 : Int) (l0_1 : List (List Int)) (l1 : List (S90)) : Option (Bool) := (laws_szHyper.f k a0_0 l0_1 1048576).bind fun t966 => (if t966 < 0 then (some true) else ((laws_szPeelStepS.f l1 t966).bind fun t967 => (if t967 < 0 then (some true) else ((laws_toHyper.f k a0_0 l0_1).bind fun bt968 => ((laws_toPeelStepS.f k l1).bind fun t972 => ((spec_IsPeelOrder.f k bt968.1 bt968.2 t972).bind fun bt975 => ((laws_toHyper.f k a0_0 l0_1).bind fun bt977 => ((laws_toPeelStepS.f k l1).bind fun t982 => ((impl_IsPeelOrder.f k bt977.1 bt977.2 t982).bind fun bt985 => (if (bt985.1 != bt975.1) = true then (none) else (if (bt985.2 != bt975.2) = true then (none) else ((laws_toHyper.f k a0_0 l0_1).bind fun bt987 => ((laws_eqHyper.f k bt977.1 bt977.2 bt987.1 bt987.2).bind fun t991 => (if t991 = true then ((laws_toPeelStepS.f k l1).bind fun t992 => ((laws_eqPeelStepS.f k t982 t992).bind fun t995 => (if t995 = true then (some true) else (none)))) else (none)))))))))))))))
theorem laws_FnExactIsPeelOrder.mono : ∀ a0 a1 a2 k, LeO (laws_FnExactIsPeelOrder.f k a0 a1 a2) (laws_FnExactIsPeelOrder.f (k + 1) a0 a1 a2) := by
  intro a0 a1 a2 k
  unfold laws_FnExactIsPeelOrder.f
  repeat' first
      | (with_reducible exact impl_IsPeelOrder.mono _ _ _ _)
      | (with_reducible exact laws_eqHyper.mono _ _ _ _ _)
      | (with_reducible exact laws_eqPeelStepS.mono _ _ _)
      | (with_reducible exact laws_szHyper.mono _ _ _ _)
      | (with_reducible exact laws_toHyper.mono _ _ _)
      | (with_reducible exact laws_toPeelStepS.mono _ _)
      | (with_reducible exact spec_IsPeelOrder.mono _ _ _ _)
      | (with_reducible exact LeO.refl _)
      | (with_reducible exact LeO.none _)
      | (with_reducible refine LeO.ite ?_ ?_)
      | (with_reducible refine LeO.bind ?_ (fun _ => ?_))
      | exact impl_IsPeelOrder.mono _ _ _ _
      | exact laws_eqHyper.mono _ _ _ _ _
      | exact laws_eqPeelStepS.mono _ _ _
      | exact laws_szHyper.mono _ _ _ _
      | exact laws_toHyper.mono _ _ _
      | exact laws_toPeelStepS.mono _ _
      | exact spec_IsPeelOrder.mono _ _ _ _
      | exact LeO.none _
      | refine LeO.ite ?_ ?_
      | refine LeO.bind ?_ (fun _ => ?_)
noncomputable def laws_FnExactIsPeelOrder.F (a0_0 : Int) (l0_1 : List (List Int)) (l1 : List (S90)) : Option (Bool) := lim fun k => laws_FnExactIsPeelOrder.f k a0_0 l0_1 l1
theorem laws_FnExactIsPeelOrder.F_sup (a0_0 : Int) (l0_1 : List (List Int)) (l1 : List (S90)) : Sup (fun k => laws_FnExactIsPeelOrder.f k a0_0 l0_1 l1) (laws_FnExactIsPeelOrder.F a0_0 l0_1 l1) := Sup.of_mono fun k => laws_FnExactIsPeelOrder.mono a0_0 l0_1 l1 k
theorem laws_FnExactIsPeelOrder.F_eq (a0_0 : Int) (l0_1 : List (List Int)) (l1 : List (S90)) : laws_FnExactIsPeelOrder.F a0_0 l0_1 l1 = (laws_szHyper.F a0_0 l0_1 1048576).bind fun t966 => (if t966 < 0 then (some true) else ((laws_szPeelStepS.f l1 t966).bind fun t967 => (if t967 < 0 then (some true) else ((laws_toHyper.F a0_0 l0_1).bind fun bt968 => ((laws_toPeelStepS.F l1).bind fun t972 => ((spec_IsPeelOrder.F bt968.1 bt968.2 t972).bind fun bt975 => ((laws_toHyper.F a0_0 l0_1).bind fun bt977 => ((laws_toPeelStepS.F l1).bind fun t982 => ((impl_IsPeelOrder.F bt977.1 bt977.2 t982).bind fun bt985 => (if (bt985.1 != bt975.1) = true then (none) else (if (bt985.2 != bt975.2) = true then (none) else ((laws_toHyper.F a0_0 l0_1).bind fun bt987 => ((laws_eqHyper.F bt977.1 bt977.2 bt987.1 bt987.2).bind fun t991 => (if t991 = true then ((laws_toPeelStepS.F l1).bind fun t992 => ((laws_eqPeelStepS.F t982 t992).bind fun t995 => (if t995 = true then (some true) else (none)))) else (none))))))))))))))) := by
  refine Sup.unique (laws_FnExactIsPeelOrder.F_sup a0_0 l0_1 l1) (Sup.congr (g' := fun k => (laws_szHyper.f k a0_0 l0_1 1048576).bind fun t966 => (if t966 < 0 then (some true) else ((laws_szPeelStepS.f l1 t966).bind fun t967 => (if t967 < 0 then (some true) else ((laws_toHyper.f k a0_0 l0_1).bind fun bt968 => ((laws_toPeelStepS.f k l1).bind fun t972 => ((spec_IsPeelOrder.f k bt968.1 bt968.2 t972).bind fun bt975 => ((laws_toHyper.f k a0_0 l0_1).bind fun bt977 => ((laws_toPeelStepS.f k l1).bind fun t982 => ((impl_IsPeelOrder.f k bt977.1 bt977.2 t982).bind fun bt985 => (if (bt985.1 != bt975.1) = true then (none) else (if (bt985.2 != bt975.2) = true then (none) else ((laws_toHyper.f k a0_0 l0_1).bind fun bt987 => ((laws_eqHyper.f k bt977.1 bt977.2 bt987.1 bt987.2).bind fun t991 => (if t991 = true then ((laws_toPeelStepS.f k l1).bind fun t992 => ((laws_eqPeelStepS.f k t982 t992).bind fun t995 => (if t995 = true then (some true) else (none)))) else (none)))))))))))))))) (fun k => by first | rfl | simp only [laws_FnExactIsPeelOrder.f]) ?_)
  repeat' first
    | (with_reducible exact laws_szHyper.F_sup _ _ _)
    | (with_reducible exact laws_toHyper.F_sup _ _)
    | (with_reducible exact laws_eqHyper.F_sup _ _ _ _)
    | (with_reducible exact spec_IsPeelOrder.F_sup _ _ _)
    | (with_reducible exact laws_toPeelStepS.F_sup _)
    | (with_reducible exact impl_IsPeelOrder.F_sup _ _ _)
    | (with_reducible exact laws_eqPeelStepS.F_sup _ _)
    | (with_reducible refine Sup.ite ?_ ?_)
    | (with_reducible refine Sup.bind ?_ (fun _ => ?_))
    | (with_reducible exact Sup.const _)
    | exact laws_szHyper.F_sup _ _ _
    | exact laws_toHyper.F_sup _ _
    | exact laws_eqHyper.F_sup _ _ _ _
    | exact spec_IsPeelOrder.F_sup _ _ _
    | exact laws_toPeelStepS.F_sup _
    | exact impl_IsPeelOrder.F_sup _ _ _
    | exact laws_eqPeelStepS.F_sup _ _
    | exact Sup.const _
set_option maxHeartbeats 8000000 in
set_option maxRecDepth 100000 in
theorem laws_FnExactIsPeelOrder.calls (k : Nat) (a0_0 : Int) (A0_1 : Option Addr) (c0_1 : Nat) (l0_1 : List (List Int)) (A1 : Option Addr) (c1 : Nat) (l1 : List (S90)) (r : Bool) (w : World) (hr0_1 : Kd.C (Kd.slice 3 (Kd.int .i64)) w A0_1 l0_1.length l0_1) (hc0_1 : l0_1.length ≤ c0_1) (hr1 : Kd.C k90 w A1 l1.length l1) (hc1 : l1.length ≤ c1) (h : laws_FnExactIsPeelOrder.f k a0_0 l0_1 l1 = some r) :
    Calls Try.prog 12 #[.agg #[.int .i64 a0_0, .slice A0_1 l0_1.length c0_1], .slice A1 l1.length c1] w fun e w' => e = .returned (.bool r) ∧ Below w.heap.size w w' := by
  have hu24 := Try.underlying24
  have hu29 := Try.underlying29
  have HR0_1 := Aside0.mk hr0_1
  have HC0_1 := Aside0.mk hc0_1
  clear hr0_1 hc0_1
  have HR1 := Aside0.mk hr1
  have HC1 := Aside0.mk hc1
  clear hr1 hc1
  have HB := Aside0.mk (Below.refl w.heap.size w)
  have H : ((laws_szHyper.f k a0_0 l0_1 1048576).bind fun t966 => (if t966 < 0 then (some true) else ((laws_szPeelStepS.f l1 t966).bind fun t967 => (if t967 < 0 then (some true) else ((laws_toHyper.f k a0_0 l0_1).bind fun bt968 => ((laws_toPeelStepS.f k l1).bind fun t972 => ((spec_IsPeelOrder.f k bt968.1 bt968.2 t972).bind fun bt975 => ((laws_toHyper.f k a0_0 l0_1).bind fun bt977 => ((laws_toPeelStepS.f k l1).bind fun t982 => ((impl_IsPeelOrder.f k bt977.1 bt977.2 t982).bind fun bt985 => (if (bt985.1 != bt975.1) = true then (none) else (if (bt985.2 != bt975.2) = true then (none) else ((laws_toHyper.f k a0_0 l0_1).bind fun bt987 => ((laws_eqHyper.f k bt977.1 bt977.2 bt987.1 bt987.2).bind fun t991 => (if t991 = true then ((laws_toPeelStepS.f k l1).bind fun t992 => ((laws_eqPeelStepS.f k t982 t992).bind fun t995 => (if t995 = true then (some true) else (none)))) else (none)))))))))))))))) = some r := h
  clear h
  replace H := Option.bind_eq_some_iff.mp H
  obtain ⟨t966, A30, H⟩ := H
  replace H : (if t966 < 0 then (some true) else ((laws_szPeelStepS.f l1 t966).bind fun t967 => (if t967 < 0 then (some true) else ((laws_toHyper.f k a0_0 l0_1).bind fun bt968 => ((laws_toPeelStepS.f k l1).bind fun t972 => ((spec_IsPeelOrder.f k bt968.1 bt968.2 t972).bind fun bt975 => ((laws_toHyper.f k a0_0 l0_1).bind fun bt977 => ((laws_toPeelStepS.f k l1).bind fun t982 => ((impl_IsPeelOrder.f k bt977.1 bt977.2 t982).bind fun bt985 => (if (bt985.1 != bt975.1) = true then (none) else (if (bt985.2 != bt975.2) = true then (none) else ((laws_toHyper.f k a0_0 l0_1).bind fun bt987 => ((laws_eqHyper.f k bt977.1 bt977.2 bt987.1 bt987.2).bind fun t991 => (if t991 = true then ((laws_toPeelStepS.f k l1).bind fun t992 => ((laws_eqPeelStepS.f k t982 t992).bind fun t995 => (if t995 = true then (some true) else (none)))) else (none))))))))))))))) = some r := H
  have A3 := Aside0.mk A30
  clear A30
  by_cases c4 : t966 < 0
  ·rw [if_pos c4] at H
   have c4b0 : decide (t966 < 0) = true := decide_eq_true c4
   clear c4
   obtain rfl := Option.some.inj H
   go_enter Try.func12, Try.ntmps12
   go_wp2_with (first | ((with_reducible refine gate_dst (N := 2) rfl ?_); refine box_event ?hg (N := 2) ?hd (cs := #[.int .i64 a0_0, .slice A0_1 l0_1.length c0_1]) (t := 24) ?hr ?_; (case hd => rfl); (case hg => rfl); (case hr => first | (go_simp; done) | (go_simp; rfl)); intro gb965 hg w5 hbox hb; have n0_ := Aside0.mk (below_step (by repeat (first | (with_reducible first | exact HB.out | apply below_alloc | apply pw_below_drewN | apply below_drew1) | exact HB.out)) hb); have n1_ := Aside0.mk (hbox); have n2_ := Aside0.mk ((by rw [hg]; exact (below_size (by repeat (first | (with_reducible first | exact HB.out | apply below_alloc | apply pw_below_drewN | apply below_drew1) | exact HB.out))) : w.heap.size ≤ gb965)); have n3_ := Aside0.mk ((by rw [hg]; exact (below_size (by repeat (first | (with_reducible first | exact HB.out | apply below_alloc | apply pw_below_drewN | apply below_drew1) | exact HB.out))) : w.heap.size ≤ gb965)); clear HB; have HB := n0_; have BK965 := n1_; have GW965 := n2_; have GE965 := n3_; clear n0_ n1_ n2_ n3_; clear hb hbox hg; have hcz6_0 : w5.cell? ⟨gb965, 0, none⟩ = some (.int .i64 a0_0) := (blk_cell BK965.out 0).trans rfl; have hcz6_1 : w5.cell? ⟨gb965, 1, none⟩ = some (.slice A0_1 l0_1.length c0_1) := (blk_cell BK965.out 1).trans rfl; have hfz6_0 := blk_frozen BK965.out 0; have hfz6_1 := blk_frozen BK965.out 1) | ((with_reducible refine gate_callee (f := 17) rfl ?_); refine goesL_ (some 14) rfl rfl Try.func17 (by kernel_rfl) rfl #[.agg #[.int .i64 a0_0, .slice A0_1 l0_1.length c0_1], .int .i64 1048576] rfl (by (try simp only [List.map_toArray, List.map_cons, List.map_nil]); first | done | rfl | (simp only [List.length_drop, List.length_take]; rfl)) ?_; (with_reducible refine (laws_szHyper.calls k a0_0 _ _ l0_1 1048576 t966 _ ?side1 ?side2 A3.out).mono ?_); (case side1 => repeat (first | exact (Kd.C_below HR0_1.out HB.out) | (with_reducible refine Kd.C_alloc ?_ _) | (with_reducible refine Kd.C_drewN ?_ _) | (with_reducible refine Kd.C_drew ?_))); (case side2 => exact HC0_1.out); rintro e w7 ⟨rfl, hb⟩; refine ⟨_, rfl, ?_⟩; have n0_ := Aside0.mk (blk_below (g := gb965) (o := .cells #[.int .i64 a0_0, .slice A0_1 l0_1.length c0_1] 24 (0, 0)) (by (with_reducible repeat (first | refine blk_drewN ?_ _ | refine blk_drew ?_ | refine blk_alloc ?_ _)); exact BK965.out) hb); have n1_ := Aside0.mk (below_step (by repeat (first | (with_reducible first | exact HB.out | apply below_alloc | apply pw_below_drewN | apply below_drew1 | refine below_set ?_ GE965.out) | exact HB.out)) hb); clear BK965; clear HB; have BK965 := n0_; have HB := n1_; clear n0_ n1_; (try clear hb); (try clear hb2); (try clear hk); (try clear hi)))
   go_ret
   exact ⟨by first | rfl | (simp [errW_none, errW_some] <;> rfl) | (simp [*, errW_none, errW_some] <;> rfl), by repeat (first | (with_reducible first | exact HB.out | apply below_alloc | apply pw_below_drewN | apply below_drew1 | refine below_set ?_ GE965.out) | exact HB.out)⟩
  ·rw [if_neg c4] at H
   have c4b0 : decide (t966 < 0) = false := decide_eq_false c4
   clear c4
   replace H := Option.bind_eq_some_iff.mp H
   obtain ⟨t967, A80, H⟩ := H
   replace H : (if t967 < 0 then (some true) else ((laws_toHyper.f k a0_0 l0_1).bind fun bt968 => ((laws_toPeelStepS.f k l1).bind fun t972 => ((spec_IsPeelOrder.f k bt968.1 bt968.2 t972).bind fun bt975 => ((laws_toHyper.f k a0_0 l0_1).bind fun bt977 => ((laws_toPeelStepS.f k l1).bind fun t982 => ((impl_IsPeelOrder.f k bt977.1 bt977.2 t982).bind fun bt985 => (if (bt985.1 != bt975.1) = true then (none) else (if (bt985.2 != bt975.2) = true then (none) else ((laws_toHyper.f k a0_0 l0_1).bind fun bt987 => ((laws_eqHyper.f k bt977.1 bt977.2 bt987.1 bt987.2).bind fun t991 => (if t991 = true then ((laws_toPeelStepS.f k l1).bind fun t992 => ((laws_eqPeelStepS.f k t982 t992).bind fun t995 => (if t995 = true then (some true) else (none)))) else (none))))))))))))) = some r := H
   have A8 := Aside0.mk A80
   clear A80
   by_cases c9 : t967 < 0
   ·rw [if_pos c9] at H
    have c9b0 : decide (t967 < 0) = true := decide_eq_true c9
    clear c9
    obtain rfl := Option.some.inj H
    go_enter Try.func12, Try.ntmps12
    go_wp2_with (first | ((with_reducible refine gate_dst (N := 2) rfl ?_); refine box_event ?hg (N := 2) ?hd (cs := #[.int .i64 a0_0, .slice A0_1 l0_1.length c0_1]) (t := 24) ?hr ?_; (case hd => rfl); (case hg => rfl); (case hr => first | (go_simp; done) | (go_simp; rfl)); intro gb965 hg w10 hbox hb; have n0_ := Aside0.mk (below_step (by repeat (first | (with_reducible first | exact HB.out | apply below_alloc | apply pw_below_drewN | apply below_drew1) | exact HB.out)) hb); have n1_ := Aside0.mk (hbox); have n2_ := Aside0.mk ((by rw [hg]; exact (below_size (by repeat (first | (with_reducible first | exact HB.out | apply below_alloc | apply pw_below_drewN | apply below_drew1) | exact HB.out))) : w.heap.size ≤ gb965)); have n3_ := Aside0.mk ((by rw [hg]; exact (below_size (by repeat (first | (with_reducible first | exact HB.out | apply below_alloc | apply pw_below_drewN | apply below_drew1) | exact HB.out))) : w.heap.size ≤ gb965)); clear HB; have HB := n0_; have BK965 := n1_; have GW965 := n2_; have GE965 := n3_; clear n0_ n1_ n2_ n3_; clear hb hbox hg; have hcz11_0 : w10.cell? ⟨gb965, 0, none⟩ = some (.int .i64 a0_0) := (blk_cell BK965.out 0).trans rfl; have hcz11_1 : w10.cell? ⟨gb965, 1, none⟩ = some (.slice A0_1 l0_1.length c0_1) := (blk_cell BK965.out 1).trans rfl; have hfz11_0 := blk_frozen BK965.out 0; have hfz11_1 := blk_frozen BK965.out 1) | ((with_reducible refine gate_callee (f := 17) rfl ?_); refine goesL_ (some 14) rfl rfl Try.func17 (by kernel_rfl) rfl #[.agg #[.int .i64 a0_0, .slice A0_1 l0_1.length c0_1], .int .i64 1048576] rfl (by (try simp only [List.map_toArray, List.map_cons, List.map_nil]); first | done | rfl | (simp only [List.length_drop, List.length_take]; rfl)) ?_; (with_reducible refine (laws_szHyper.calls k a0_0 _ _ l0_1 1048576 t966 _ ?side1 ?side2 A3.out).mono ?_); (case side1 => repeat (first | exact (Kd.C_below HR0_1.out HB.out) | (with_reducible refine Kd.C_alloc ?_ _) | (with_reducible refine Kd.C_drewN ?_ _) | (with_reducible refine Kd.C_drew ?_))); (case side2 => exact HC0_1.out); rintro e w12 ⟨rfl, hb⟩; refine ⟨_, rfl, ?_⟩; have n0_ := Aside0.mk (blk_below (g := gb965) (o := .cells #[.int .i64 a0_0, .slice A0_1 l0_1.length c0_1] 24 (0, 0)) (by (with_reducible repeat (first | refine blk_drewN ?_ _ | refine blk_drew ?_ | refine blk_alloc ?_ _)); exact BK965.out) hb); have n1_ := Aside0.mk (below_step (by repeat (first | (with_reducible first | exact HB.out | apply below_alloc | apply pw_below_drewN | apply below_drew1 | refine below_set ?_ GE965.out) | exact HB.out)) hb); clear BK965; clear HB; have BK965 := n0_; have HB := n1_; clear n0_ n1_; (try clear hb); (try clear hb2); (try clear hk); (try clear hi)) | ((with_reducible refine gate_callee (f := 51) rfl ?_); refine goesL_ (some 19) rfl rfl Try.func51 (by kernel_rfl) rfl #[.slice A1 l1.length c1, .int .i64 t966] rfl (by (try simp only [List.map_toArray, List.map_cons, List.map_nil]); first | done | rfl | (simp only [List.length_drop, List.length_take]; rfl)) ?_; (with_reducible refine (laws_szPeelStepS.calls _ _ l1 t966 t967 _ ?side1 ?side2 A8.out).mono ?_); (case side1 => repeat (first | exact (Kd.C_below HR1.out HB.out) | (with_reducible refine Kd.C_alloc ?_ _) | (with_reducible refine Kd.C_drewN ?_ _) | (with_reducible refine Kd.C_drew ?_))); (case side2 => exact HC1.out); rintro e w' ⟨rfl, ⟨nd, rfl⟩⟩; refine ⟨_, rfl, ?_⟩))
    go_ret
    exact ⟨by first | rfl | (simp [errW_none, errW_some] <;> rfl) | (simp [*, errW_none, errW_some] <;> rfl), by repeat (first | (with_reducible first | exact HB.out | apply below_alloc | apply pw_below_drewN | apply below_drew1 | refine below_set ?_ GE965.out) | exact HB.out)⟩
   ·rw [if_neg c9] at H
    have c9b0 : decide (t967 < 0) = false := decide_eq_false c9
    clear c9
    replace H := Option.bind_eq_some_iff.mp H
    obtain ⟨⟨t968, t969⟩, A130, H⟩ := H
    replace H : ((laws_toPeelStepS.f k l1).bind fun t972 => ((spec_IsPeelOrder.f k t968 t969 t972).bind fun bt975 => ((laws_toHyper.f k a0_0 l0_1).bind fun bt977 => ((laws_toPeelStepS.f k l1).bind fun t982 => ((impl_IsPeelOrder.f k bt977.1 bt977.2 t982).bind fun bt985 => (if (bt985.1 != bt975.1) = true then (none) else (if (bt985.2 != bt975.2) = true then (none) else ((laws_toHyper.f k a0_0 l0_1).bind fun bt987 => ((laws_eqHyper.f k bt977.1 bt977.2 bt987.1 bt987.2).bind fun t991 => (if t991 = true then ((laws_toPeelStepS.f k l1).bind fun t992 => ((laws_eqPeelStepS.f k t982 t992).bind fun t995 => (if t995 = true then (some true) else (none)))) else (none))))))))))) = some r := H
    have A13 := Aside0.mk A130
    clear A130
    replace H := Option.bind_eq_some_iff.mp H
    obtain ⟨t972, A140, H⟩ := H
    replace H : ((spec_IsPeelOrder.f k t968 t969 t972).bind fun bt975 => ((laws_toHyper.f k a0_0 l0_1).bind fun bt977 => ((laws_toPeelStepS.f k l1).bind fun t982 => ((impl_IsPeelOrder.f k bt977.1 bt977.2 t982).bind fun bt985 => (if (bt985.1 != bt975.1) = true then (none) else (if (bt985.2 != bt975.2) = true then (none) else ((laws_toHyper.f k a0_0 l0_1).bind fun bt987 => ((laws_eqHyper.f k bt977.1 bt977.2 bt987.1 bt987.2).bind fun t991 => (if t991 = true then ((laws_toPeelStepS.f k l1).bind fun t992 => ((laws_eqPeelStepS.f k t982 t992).bind fun t995 => (if t995 = true then (some true) else (none)))) else (none)))))))))) = some r := H
    have A14 := Aside0.mk A140
    clear A140
    replace H := Option.bind_eq_some_iff.mp H
    obtain ⟨⟨t975, t976⟩, A150, H⟩ := H
    replace H : ((laws_toHyper.f k a0_0 l0_1).bind fun bt977 => ((laws_toPeelStepS.f k l1).bind fun t982 => ((impl_IsPeelOrder.f k bt977.1 bt977.2 t982).bind fun bt985 => (if (bt985.1 != t975) = true then (none) else (if (bt985.2 != t976) = true then (none) else ((laws_toHyper.f k a0_0 l0_1).bind fun bt987 => ((laws_eqHyper.f k bt977.1 bt977.2 bt987.1 bt987.2).bind fun t991 => (if t991 = true then ((laws_toPeelStepS.f k l1).bind fun t992 => ((laws_eqPeelStepS.f k t982 t992).bind fun t995 => (if t995 = true then (some true) else (none)))) else (none))))))))) = some r := H
    have A15 := Aside0.mk A150
    clear A150
    replace H := Option.bind_eq_some_iff.mp H
    obtain ⟨⟨t977, t978⟩, A160, H⟩ := H
    replace H : ((laws_toPeelStepS.f k l1).bind fun t982 => ((impl_IsPeelOrder.f k t977 t978 t982).bind fun bt985 => (if (bt985.1 != t975) = true then (none) else (if (bt985.2 != t976) = true then (none) else ((laws_toHyper.f k a0_0 l0_1).bind fun bt987 => ((laws_eqHyper.f k t977 t978 bt987.1 bt987.2).bind fun t991 => (if t991 = true then ((laws_toPeelStepS.f k l1).bind fun t992 => ((laws_eqPeelStepS.f k t982 t992).bind fun t995 => (if t995 = true then (some true) else (none)))) else (none)))))))) = some r := H
    have A16 := Aside0.mk A160
    clear A160
    replace H := Option.bind_eq_some_iff.mp H
    obtain ⟨t982, A170, H⟩ := H
    replace H : ((impl_IsPeelOrder.f k t977 t978 t982).bind fun bt985 => (if (bt985.1 != t975) = true then (none) else (if (bt985.2 != t976) = true then (none) else ((laws_toHyper.f k a0_0 l0_1).bind fun bt987 => ((laws_eqHyper.f k t977 t978 bt987.1 bt987.2).bind fun t991 => (if t991 = true then ((laws_toPeelStepS.f k l1).bind fun t992 => ((laws_eqPeelStepS.f k t982 t992).bind fun t995 => (if t995 = true then (some true) else (none)))) else (none))))))) = some r := H
    have A17 := Aside0.mk A170
    clear A170
    replace H := Option.bind_eq_some_iff.mp H
    obtain ⟨⟨t985, t986⟩, A180, H⟩ := H
    replace H : (if (t985 != t975) = true then (none) else (if (t986 != t976) = true then (none) else ((laws_toHyper.f k a0_0 l0_1).bind fun bt987 => ((laws_eqHyper.f k t977 t978 bt987.1 bt987.2).bind fun t991 => (if t991 = true then ((laws_toPeelStepS.f k l1).bind fun t992 => ((laws_eqPeelStepS.f k t982 t992).bind fun t995 => (if t995 = true then (some true) else (none)))) else (none)))))) = some r := H
    have A18 := Aside0.mk A180
    clear A180
    by_cases c19 : (t985 != t975) = true
    ·rw [if_pos c19] at H
     exact absurd H (by simp)
    ·rw [if_neg c19] at H
     have c19b0 : (t985 != t975) = false := by simpa using c19
     (try (have c19b1 : decide (t985 = t975) = true := by simpa using c19))
     (try (have c19b2 : (t985 == t975) = true := by simpa using c19))
     clear c19
     by_cases c20 : (t986 != t976) = true
     ·rw [if_pos c20] at H
      exact absurd H (by simp)
     ·rw [if_neg c20] at H
      have c20b0 : (t986 != t976) = false := by simpa using c20
      (try (have c20b1 : decide (t986 = t976) = true := by simpa using c20))
      (try (have c20b2 : (t986 == t976) = true := by simpa using c20))
      clear c20
      replace H := Option.bind_eq_some_iff.mp H
      obtain ⟨⟨t987, t988⟩, A210, H⟩ := H
      replace H : ((laws_eqHyper.f k t977 t978 t987 t988).bind fun t991 => (if t991 = true then ((laws_toPeelStepS.f k l1).bind fun t992 => ((laws_eqPeelStepS.f k t982 t992).bind fun t995 => (if t995 = true then (some true) else (none)))) else (none))) = some r := H
      have A21 := Aside0.mk A210
      clear A210
      replace H := Option.bind_eq_some_iff.mp H
      obtain ⟨t991, A220, H⟩ := H
      replace H : (if t991 = true then ((laws_toPeelStepS.f k l1).bind fun t992 => ((laws_eqPeelStepS.f k t982 t992).bind fun t995 => (if t995 = true then (some true) else (none)))) else (none)) = some r := H
      have A22 := Aside0.mk A220
      clear A220
      by_cases c23 : t991 = true
      ·subst c23
       have H1 : ((laws_toPeelStepS.f k l1).bind fun t992 => ((laws_eqPeelStepS.f k t982 t992).bind fun t995 => (if t995 = true then (some true) else (none)))) = some r := by rw [if_pos rfl] at H; exact H
       clear H
       have H := H1
       clear H1
       replace H := Option.bind_eq_some_iff.mp H
       obtain ⟨t992, A240, H⟩ := H
       replace H : ((laws_eqPeelStepS.f k t982 t992).bind fun t995 => (if t995 = true then (some true) else (none))) = some r := H
       have A24 := Aside0.mk A240
       clear A240
       replace H := Option.bind_eq_some_iff.mp H
       obtain ⟨t995, A250, H⟩ := H
       replace H : (if t995 = true then (some true) else (none)) = some r := H
       have A25 := Aside0.mk A250
       clear A250
       by_cases c26 : t995 = true
       ·subst c26
        have H1 : (some true) = some r := by rw [if_pos rfl] at H; exact H
        clear H
        have H := H1
        clear H1
        obtain rfl := Option.some.inj H
        go_enter Try.func12, Try.ntmps12
        try go_wp2_with (first | ((with_reducible refine gate_dst (N := 2) rfl ?_); refine box_event ?hg (N := 2) ?hd (cs := #[.int .i64 a0_0, .slice A0_1 l0_1.length c0_1]) (t := 24) ?hr ?_; (case hd => rfl); (case hg => rfl); (case hr => first | (go_simp; done) | (go_simp; rfl)); intro gb965 hg w27 hbox hb; have n0_ := Aside0.mk (below_step (by repeat (first | (with_reducible first | exact HB.out | apply below_alloc | apply pw_below_drewN | apply below_drew1) | exact HB.out)) hb); have n1_ := Aside0.mk (hbox); have n2_ := Aside0.mk ((by rw [hg]; exact (below_size (by repeat (first | (with_reducible first | exact HB.out | apply below_alloc | apply pw_below_drewN | apply below_drew1) | exact HB.out))) : w.heap.size ≤ gb965)); have n3_ := Aside0.mk ((by rw [hg]; exact (below_size (by repeat (first | (with_reducible first | exact HB.out | apply below_alloc | apply pw_below_drewN | apply below_drew1) | exact HB.out))) : w.heap.size ≤ gb965)); clear HB; have HB := n0_; have BK965 := n1_; have GW965 := n2_; have GE965 := n3_; clear n0_ n1_ n2_ n3_; clear hb hbox hg; have hcz28_0 : w27.cell? ⟨gb965, 0, none⟩ = some (.int .i64 a0_0) := (blk_cell BK965.out 0).trans rfl; have hcz28_1 : w27.cell? ⟨gb965, 1, none⟩ = some (.slice A0_1 l0_1.length c0_1) := (blk_cell BK965.out 1).trans rfl; have hfz28_0 := blk_frozen BK965.out 0; have hfz28_1 := blk_frozen BK965.out 1) | ((with_reducible refine gate_callee (f := 17) rfl ?_); refine goesL_ (some 14) rfl rfl Try.func17 (by kernel_rfl) rfl #[.agg #[.int .i64 a0_0, .slice A0_1 l0_1.length c0_1], .int .i64 1048576] rfl (by (try simp only [List.map_toArray, List.map_cons, List.map_nil]); first | done | rfl | (simp only [List.length_drop, List.length_take]; rfl)) ?_; (with_reducible refine (laws_szHyper.calls k a0_0 _ _ l0_1 1048576 t966 _ ?side1 ?side2 A3.out).mono ?_); (case side1 => repeat (first | exact (Kd.C_below HR0_1.out HB.out) | (with_reducible refine Kd.C_alloc ?_ _) | (with_reducible refine Kd.C_drewN ?_ _) | (with_reducible refine Kd.C_drew ?_))); (case side2 => exact HC0_1.out); rintro e w29 ⟨rfl, hb⟩; refine ⟨_, rfl, ?_⟩; have n0_ := Aside0.mk (blk_below (g := gb965) (o := .cells #[.int .i64 a0_0, .slice A0_1 l0_1.length c0_1] 24 (0, 0)) (by (with_reducible repeat (first | refine blk_drewN ?_ _ | refine blk_drew ?_ | refine blk_alloc ?_ _)); exact BK965.out) hb); have n1_ := Aside0.mk (below_step (by repeat (first | (with_reducible first | exact HB.out | apply below_alloc | apply pw_below_drewN | apply below_drew1 | refine below_set ?_ GE965.out) | exact HB.out)) hb); clear BK965; clear HB; have BK965 := n0_; have HB := n1_; clear n0_ n1_; (try clear hb); (try clear hb2); (try clear hk); (try clear hi)) | ((with_reducible refine gate_callee (f := 51) rfl ?_); refine goesL_ (some 19) rfl rfl Try.func51 (by kernel_rfl) rfl #[.slice A1 l1.length c1, .int .i64 t966] rfl (by (try simp only [List.map_toArray, List.map_cons, List.map_nil]); first | done | rfl | (simp only [List.length_drop, List.length_take]; rfl)) ?_; (with_reducible refine (laws_szPeelStepS.calls _ _ l1 t966 t967 _ ?side1 ?side2 A8.out).mono ?_); (case side1 => repeat (first | exact (Kd.C_below HR1.out HB.out) | (with_reducible refine Kd.C_alloc ?_ _) | (with_reducible refine Kd.C_drewN ?_ _) | (with_reducible refine Kd.C_drew ?_))); (case side2 => exact HC1.out); rintro e w' ⟨rfl, ⟨nd, rfl⟩⟩; refine ⟨_, rfl, ?_⟩; (try (rw [drewN_self w29]; generalize hq_ : World.drewN w29 _ = w29; have n0_ : Aside0 (w29.heap[gb965]? = some (.cells #[.int .i64 a0_0, .slice A0_1 l0_1.length c0_1] 24 (0, 0))) := ⟨by rw [← hq_]; exact (by (with_reducible repeat (first | refine blk_drewN ?_ _ | refine blk_drew ?_ | refine blk_alloc ?_ _)); exact BK965.out)⟩; have n1_ : Aside0 (Below w.heap.size w w29) := ⟨by rw [← hq_]; exact (by repeat (first | (with_reducible first | exact HB.out | apply below_alloc | apply pw_below_drewN | apply below_drew1 | refine below_set ?_ GE965.out) | exact HB.out))⟩; clear BK965 HB hq_; have BK965 := n0_; have HB := n1_; clear n0_ n1_)); have hcz30_0 : w29.cell? ⟨gb965, 0, none⟩ = some (.int .i64 a0_0) := (blk_cell BK965.out 0).trans rfl; have hcz30_1 : w29.cell? ⟨gb965, 1, none⟩ = some (.slice A0_1 l0_1.length c0_1) := (blk_cell BK965.out 1).trans rfl; have hfz30_0 := blk_frozen BK965.out 0; have hfz30_1 := blk_frozen BK965.out 1) | ((with_reducible refine gate_callee (f := 19) rfl ?_); refine goesL_ (some 24) rfl rfl Try.func19 (by kernel_rfl) rfl #[.agg #[.int .i64 a0_0, .slice A0_1 l0_1.length c0_1]] rfl (by (try simp only [List.map_toArray, List.map_cons, List.map_nil]); first | done | rfl | (simp only [List.length_drop, List.length_take]; rfl)) ?_; (with_reducible refine (laws_toHyper.calls k a0_0 _ _ l0_1 t968 t969 _ ?side1 ?side2 A13.out).mono ?_); (case side1 => repeat (first | exact (Kd.C_below HR0_1.out HB.out) | (with_reducible refine Kd.C_alloc ?_ _) | (with_reducible refine Kd.C_drewN ?_ _) | (with_reducible refine Kd.C_drew ?_))); (case side2 => exact HC0_1.out); rintro e w31 ⟨v970, rfl, ho0, hb⟩; refine ⟨_, rfl, ?_⟩; have n0_ := Aside0.mk (Kd.S_lower ho0 (below_size (by repeat (first | (with_reducible first | exact HB.out | apply below_alloc | apply pw_below_drewN | apply below_drew1 | refine below_set ?_ GE965.out) | exact HB.out)))); have n1_ := Aside0.mk (blk_below (g := gb965) (o := .cells #[.int .i64 a0_0, .slice A0_1 l0_1.length c0_1] 24 (0, 0)) (by (with_reducible repeat (first | refine blk_drewN ?_ _ | refine blk_drew ?_ | refine blk_alloc ?_ _)); exact BK965.out) hb); have n2_ := Aside0.mk (below_step (by repeat (first | (with_reducible first | exact HB.out | apply below_alloc | apply pw_below_drewN | apply below_drew1 | refine below_set ?_ GE965.out) | exact HB.out)) hb); clear BK965; clear HB; have HO971 := n0_; have BK965 := n1_; have HB := n2_; clear n0_ n1_ n2_; (try clear hb); (try clear hb2); (try clear hk); (try clear hi); (try clear ho0)) | ((with_reducible refine gate_callee (f := 53) rfl ?_); refine goesL_ (some 26) rfl rfl Try.func53 (by kernel_rfl) rfl #[.slice A1 l1.length c1] rfl (by (try simp only [List.map_toArray, List.map_cons, List.map_nil]); first | done | rfl | (simp only [List.length_drop, List.length_take]; rfl)) ?_; (with_reducible refine (laws_toPeelStepS.calls k _ _ l1 t972 _ ?side1 ?side2 A14.out).mono ?_); (case side1 => repeat (first | exact (Kd.C_below HR1.out HB.out) | (with_reducible refine Kd.C_alloc ?_ _) | (with_reducible refine Kd.C_drewN ?_ _) | (with_reducible refine Kd.C_drew ?_))); (case side2 => exact HC1.out); rintro e w32 ⟨v973, rfl, ho0, hb⟩; refine ⟨_, rfl, ?_⟩; have n0_ := Aside0.mk (Kd.S_below (by (with_reducible repeat (first | apply Kd.S_alloc | apply Kd.S_drewN | apply Kd.S_drew)); exact HO971.out) hb); have n1_ := Aside0.mk (Kd.R_lower ho0 (below_size (by repeat (first | (with_reducible first | exact HB.out | apply below_alloc | apply pw_below_drewN | apply below_drew1 | refine below_set ?_ GE965.out) | exact HB.out)))); have n2_ := Aside0.mk (blk_below (g := gb965) (o := .cells #[.int .i64 a0_0, .slice A0_1 l0_1.length c0_1] 24 (0, 0)) (by (with_reducible repeat (first | refine blk_drewN ?_ _ | refine blk_drew ?_ | refine blk_alloc ?_ _)); exact BK965.out) hb); have n3_ := Aside0.mk (below_step (by repeat (first | (with_reducible first | exact HB.out | apply below_alloc | apply pw_below_drewN | apply below_drew1 | refine below_set ?_ GE965.out) | exact HB.out)) hb); clear HO971; clear BK965; clear HB; have HO971 := n0_; have HO974 := n1_; have BK965 := n2_; have HB := n3_; clear n0_ n1_ n2_ n3_; (try clear hb); (try clear hb2); (try clear hk); (try clear hi); (try clear ho0); obtain ⟨Ao33, co33, eo33⟩ := Kd.S_slice HO971.out; subst eo33; obtain ⟨Ao34, co34, eo34⟩ := Kd.R_slice HO974.out; subst eo34) | ((with_reducible refine gate_callee (f := 52) rfl ?_); refine goesL_ (some 27) rfl rfl Try.func52 (by kernel_rfl) rfl #[.agg #[.int .i64 t968, .slice Ao33 t969.length co33], .slice Ao34 t972.length co34] rfl (by (try simp only [List.map_toArray, List.map_cons, List.map_nil]); first | done | rfl | (simp only [List.length_drop, List.length_take]; rfl)) ?_; (with_reducible refine (spec_IsPeelOrder.calls k t968 _ _ t969 _ _ t972 t975 t976 _ ?side1 ?side2 ?side3 ?side4 A15.out).mono ?_); (case side1 => repeat (first | exact (Kd.S_reads' HO971.out).2.2 | (with_reducible refine Kd.C_alloc ?_ _) | (with_reducible refine Kd.C_drewN ?_ _) | (with_reducible refine Kd.C_drew ?_))); (case side2 => exact (Kd.S_reads' HO971.out).2.1); (case side3 => repeat (first | exact (Kd.R_reads' HO974.out).2.2 | (with_reducible refine Kd.C_alloc ?_ _) | (with_reducible refine Kd.C_drewN ?_ _) | (with_reducible refine Kd.C_drew ?_))); (case side4 => exact (Kd.R_reads' HO974.out).2.1); rintro e w35 ⟨rfl, hb⟩; refine ⟨_, rfl, ?_⟩; have n0_ := Aside0.mk (Kd.S_below (by (with_reducible repeat (first | apply Kd.S_alloc | apply Kd.S_drewN | apply Kd.S_drew)); exact HO971.out) hb); have n1_ := Aside0.mk (Kd.R_below (by (with_reducible repeat (first | apply Kd.R_alloc | apply Kd.R_drewN | apply Kd.R_drew)); exact HO974.out) hb); have n2_ := Aside0.mk (blk_below (g := gb965) (o := .cells #[.int .i64 a0_0, .slice A0_1 l0_1.length c0_1] 24 (0, 0)) (by (with_reducible repeat (first | refine blk_drewN ?_ _ | refine blk_drew ?_ | refine blk_alloc ?_ _)); exact BK965.out) hb); have n3_ := Aside0.mk (below_step (by repeat (first | (with_reducible first | exact HB.out | apply below_alloc | apply pw_below_drewN | apply below_drew1 | refine below_set ?_ GE965.out) | exact HB.out)) hb); clear HO971; clear HO974; clear BK965; clear HB; have HO971 := n0_; have HO974 := n1_; have BK965 := n2_; have HB := n3_; clear n0_ n1_ n2_ n3_; (try clear hb); (try clear hb2); (try clear hk); (try clear hi); have hcz36_0 : w35.cell? ⟨gb965, 0, none⟩ = some (.int .i64 a0_0) := (blk_cell BK965.out 0).trans rfl; have hcz36_1 : w35.cell? ⟨gb965, 1, none⟩ = some (.slice A0_1 l0_1.length c0_1) := (blk_cell BK965.out 1).trans rfl; have hfz36_0 := blk_frozen BK965.out 0; have hfz36_1 := blk_frozen BK965.out 1) | ((with_reducible refine gate_callee (f := 19) rfl ?_); refine goesL_ (some 31) rfl rfl Try.func19 (by kernel_rfl) rfl #[.agg #[.int .i64 a0_0, .slice A0_1 l0_1.length c0_1]] rfl (by (try simp only [List.map_toArray, List.map_cons, List.map_nil]); first | done | rfl | (simp only [List.length_drop, List.length_take]; rfl)) ?_; (with_reducible refine (laws_toHyper.calls k a0_0 _ _ l0_1 t977 t978 _ ?side1 ?side2 A16.out).mono ?_); (case side1 => repeat (first | exact (Kd.C_below HR0_1.out HB.out) | (with_reducible refine Kd.C_alloc ?_ _) | (with_reducible refine Kd.C_drewN ?_ _) | (with_reducible refine Kd.C_drew ?_))); (case side2 => exact HC0_1.out); rintro e w37 ⟨v979, rfl, ho0, hb⟩; refine ⟨_, rfl, ?_⟩; have n0_ := Aside0.mk (Kd.S_elder' (by (with_reducible repeat (first | apply Kd.S_alloc | apply Kd.S_drewN | apply Kd.S_drew)); exact HO971.out) (Kd.S_base ho0) hb); have n1_ := Aside0.mk (Kd.R_below (by (with_reducible repeat (first | apply Kd.R_alloc | apply Kd.R_drewN | apply Kd.R_drew)); exact HO974.out) hb); have n2_ := Aside0.mk (Kd.S_lower (Kd.S_new' ho0 (Kd.S_lt (by (with_reducible repeat (first | apply Kd.S_alloc | apply Kd.S_drewN | apply Kd.S_drew)); exact HO971.out))) (below_size (by repeat (first | (with_reducible first | exact HB.out | apply below_alloc | apply pw_below_drewN | apply below_drew1 | refine below_set ?_ GE965.out) | exact HB.out)))); have n3_ := Aside0.mk (blk_below (g := gb965) (o := .cells #[.int .i64 a0_0, .slice A0_1 l0_1.length c0_1] 24 (0, 0)) (by (with_reducible repeat (first | refine blk_drewN ?_ _ | refine blk_drew ?_ | refine blk_alloc ?_ _)); exact BK965.out) hb); have n4_ := Aside0.mk (below_step (by repeat (first | (with_reducible first | exact HB.out | apply below_alloc | apply pw_below_drewN | apply below_drew1 | refine below_set ?_ GE965.out) | exact HB.out)) hb); clear HO971; clear HO974; clear BK965; clear HB; have HO971 := n0_; have HO974 := n1_; have HO980 := n2_; have BK965 := n3_; have HB := n4_; clear n0_ n1_ n2_ n3_ n4_; (try clear hb); (try clear hb2); (try clear hk); (try clear hi); (try clear ho0)) | ((with_reducible refine gate_dst (N := 8) rfl ?_); refine box_event ?hg (N := 8) ?hd (cs := #[.int .i64 0, .slice none 0 0]) (t := 29) ?hr ?_; (case hd => rfl); (case hg => rfl); (case hr => first | (go_simp; done) | (go_simp; rfl)); intro gb981 hg w38 hbox hb; have n0_ := Aside0.mk (Kd.S_below (by (with_reducible repeat (first | apply Kd.S_alloc | apply Kd.S_drewN | apply Kd.S_drew)); exact HO971.out) hb); have n1_ := Aside0.mk (Kd.R_below (by (with_reducible repeat (first | apply Kd.R_alloc | apply Kd.R_drewN | apply Kd.R_drew)); exact HO974.out) hb); have n2_ := Aside0.mk (Kd.S_below (by (with_reducible repeat (first | apply Kd.S_alloc | apply Kd.S_drewN | apply Kd.S_drew)); exact HO980.out) hb); have n3_ := Aside0.mk (blk_below (g := gb965) (o := .cells #[.int .i64 a0_0, .slice A0_1 l0_1.length c0_1] 24 (0, 0)) (by (with_reducible repeat (first | refine blk_drewN ?_ _ | refine blk_drew ?_ | refine blk_alloc ?_ _)); exact BK965.out) hb); have n4_ := Aside0.mk (below_step (by repeat (first | (with_reducible first | exact HB.out | apply below_alloc | apply pw_below_drewN | apply below_drew1 | refine below_set ?_ GE965.out) | exact HB.out)) hb); have n5_ := Aside0.mk (hbox); have n6_ := Aside0.mk ((by rw [hg]; exact (below_size (by repeat (first | (with_reducible first | exact HB.out | apply below_alloc | apply pw_below_drewN | apply below_drew1 | refine below_set ?_ GE965.out) | exact HB.out))) : w.heap.size ≤ gb981)); have n7_ := Aside0.mk ((by rw [hg]; exact (below_size (by repeat (first | (with_reducible first | exact HB.out | apply below_alloc | apply pw_below_drewN | apply below_drew1 | refine below_set ?_ GE965.out) | exact HB.out))) : w.heap.size ≤ gb981)); have n8_ := Aside0.mk ((by rw [hg]; exact Nat.ne_of_lt (blk_lt (g := gb965) (o := .cells #[.int .i64 a0_0, .slice A0_1 l0_1.length c0_1] 24 (0, 0)) (by (with_reducible repeat (first | refine blk_drewN ?_ _ | refine blk_drew ?_ | refine blk_alloc ?_ _)); exact BK965.out)) : gb965 ≠ gb981)); have n9_ := Aside0.mk ((by rw [hg]; exact Nat.ne_of_gt (blk_lt (g := gb965) (o := .cells #[.int .i64 a0_0, .slice A0_1 l0_1.length c0_1] 24 (0, 0)) (by (with_reducible repeat (first | refine blk_drewN ?_ _ | refine blk_drew ?_ | refine blk_alloc ?_ _)); exact BK965.out)) : gb981 ≠ gb965)); clear HO971; clear HO974; clear HO980; clear BK965; clear HB; have HO971 := n0_; have HO974 := n1_; have HO980 := n2_; have BK965 := n3_; have HB := n4_; have BK981 := n5_; have GW981 := n6_; have GE981 := n7_; have NB965_981 := n8_; have NB981_965 := n9_; clear n0_ n1_ n2_ n3_ n4_ n5_ n6_ n7_ n8_ n9_; clear hb hbox hg; have hnb39 := NB981_965.out; have hnc39 := NB965_981.out; have hcz40_0 : w38.cell? ⟨gb981, 0, none⟩ = some (.int .i64 0) := (blk_cell BK981.out 0).trans rfl; have hcz40_1 : w38.cell? ⟨gb981, 1, none⟩ = some (.slice none 0 0) := (blk_cell BK981.out 1).trans rfl; have hfz40_0 := blk_frozen BK981.out 0; have hfz40_1 := blk_frozen BK981.out 1; obtain ⟨Ao41, co41, eo41⟩ := Kd.S_slice HO980.out; subst eo41) | ((with_reducible refine gate_callee (f := 53) rfl ?_); refine goesL_ (some 33) rfl rfl Try.func53 (by kernel_rfl) rfl #[.slice A1 l1.length c1] rfl (by (try simp only [List.map_toArray, List.map_cons, List.map_nil]); first | done | rfl | (simp only [List.length_drop, List.length_take]; rfl)) ?_; (with_reducible refine (laws_toPeelStepS.calls k _ _ l1 t982 _ ?side1 ?side2 A17.out).mono ?_); (case side1 => exact Kd.C_below HR1.out (by repeat (first | (with_reducible first | exact HB.out | apply below_alloc | apply pw_below_drewN | apply below_drew1 | refine below_set ?_ GE965.out | refine below_set ?_ GE981.out) | exact HB.out))); (case side2 => exact HC1.out); rintro e w42 ⟨v983, rfl, ho0, hb⟩; refine ⟨_, rfl, ?_⟩; have n0_ := Aside0.mk (Kd.S_below (by (with_reducible repeat (first | apply Kd.S_alloc | apply Kd.S_drewN | apply Kd.S_drew)); exact (Kd.S_mono (Kd.S_far (p := ⟨gb981, 1, none⟩) (Kd.S_far (p := ⟨gb981, 0, none⟩) (Kd.S_types HO971.out BK981.out (by decide)) (fun _ hk => hk.2) (.int .i64 t977)) (fun _ hk => hk.2) (.slice Ao41 t978.length co41)) (fun _ h_ => h_.1))) hb); have n1_ := Aside0.mk (Kd.R_elder' (by (with_reducible repeat (first | apply Kd.R_alloc | apply Kd.R_drewN | apply Kd.R_drew)); exact (Kd.R_mono (Kd.R_far (p := ⟨gb981, 1, none⟩) (Kd.R_far (p := ⟨gb981, 0, none⟩) (Kd.R_types HO974.out BK981.out (by decide)) (fun _ hk => hk.2) (.int .i64 t977)) (fun _ hk => hk.2) (.slice Ao41 t978.length co41)) (fun _ h_ => h_.1))) (Kd.R_base ho0) hb); have n2_ := Aside0.mk (Kd.S_below (by (with_reducible repeat (first | apply Kd.S_alloc | apply Kd.S_drewN | apply Kd.S_drew)); exact (Kd.S_mono (Kd.S_far (p := ⟨gb981, 1, none⟩) (Kd.S_far (p := ⟨gb981, 0, none⟩) (Kd.S_types HO980.out BK981.out (by decide)) (fun _ hk => hk.2) (.int .i64 t977)) (fun _ hk => hk.2) (.slice Ao41 t978.length co41)) (fun _ h_ => h_.1))) hb); have n3_ := Aside0.mk (Kd.R_lower (Kd.R_new' ho0 (Kd.R_lt (by (with_reducible repeat (first | apply Kd.R_alloc | apply Kd.R_drewN | apply Kd.R_drew)); exact (Kd.R_mono (Kd.R_far (p := ⟨gb981, 1, none⟩) (Kd.R_far (p := ⟨gb981, 0, none⟩) (Kd.R_types HO974.out BK981.out (by decide)) (fun _ hk => hk.2) (.int .i64 t977)) (fun _ hk => hk.2) (.slice Ao41 t978.length co41)) (fun _ h_ => h_.1))))) (below_size (by repeat (first | (with_reducible first | exact HB.out | apply below_alloc | apply pw_below_drewN | apply below_drew1 | refine below_set ?_ GE965.out | refine below_set ?_ GE981.out) | exact HB.out)))); have n4_ := Aside0.mk (blk_below (g := gb965) (o := .cells #[.int .i64 a0_0, .slice A0_1 l0_1.length c0_1] 24 (0, 0)) (by (with_reducible repeat (first | refine blk_drewN ?_ _ | refine blk_drew ?_ | refine blk_alloc ?_ _)); refine blk_far ?_ NB965_981.out _; (with_reducible repeat (first | refine blk_drewN ?_ _ | refine blk_drew ?_ | refine blk_alloc ?_ _)); refine blk_far ?_ NB965_981.out _; (with_reducible repeat (first | refine blk_drewN ?_ _ | refine blk_drew ?_ | refine blk_alloc ?_ _)); exact BK965.out) hb); have n5_ := Aside0.mk (blk_below (g := gb981) (o := .cells #[.int .i64 t977, .slice Ao41 t978.length co41] 29 (0, 0)) (by (with_reducible repeat (first | refine blk_drewN ?_ _ | refine blk_drew ?_ | refine blk_alloc ?_ _)); refine blk_put (cs := #[.int .i64 t977, .slice none 0 0]) ?_ 1 _ rfl; (with_reducible repeat (first | refine blk_drewN ?_ _ | refine blk_drew ?_ | refine blk_alloc ?_ _)); refine blk_put (cs := #[.int .i64 0, .slice none 0 0]) ?_ 0 _ rfl; (with_reducible repeat (first | refine blk_drewN ?_ _ | refine blk_drew ?_ | refine blk_alloc ?_ _)); exact BK981.out) hb); have n6_ := Aside0.mk (below_step (by repeat (first | (with_reducible first | exact HB.out | apply below_alloc | apply pw_below_drewN | apply below_drew1 | refine below_set ?_ GE965.out | refine below_set ?_ GE981.out) | exact HB.out)) hb); clear HO971; clear HO974; clear HO980; clear BK965; clear BK981; clear HB; have HO971 := n0_; have HO974 := n1_; have HO980 := n2_; have HO984 := n3_; have BK965 := n4_; have BK981 := n5_; have HB := n6_; clear n0_ n1_ n2_ n3_ n4_ n5_ n6_; (try clear hb); (try clear hb2); (try clear hk); (try clear hi); (try clear ho0); have hcz43_0 : w42.cell? ⟨gb981, 0, none⟩ = some (.int .i64 t977) := (blk_cell BK981.out 0).trans rfl; have hcz43_1 : w42.cell? ⟨gb981, 1, none⟩ = some (.slice Ao41 t978.length co41) := (blk_cell BK981.out 1).trans rfl; have hfz43_0 := blk_frozen BK981.out 0; have hfz43_1 := blk_frozen BK981.out 1; obtain ⟨Ao44, co44, eo44⟩ := Kd.R_slice HO984.out; subst eo44) | ((with_reducible refine gate_callee (f := 54) rfl ?_); refine goesL_ (some 37) rfl rfl Try.func54 (by kernel_rfl) rfl #[.agg #[.int .i64 t977, .slice Ao41 t978.length co41], .slice Ao44 t982.length co44] rfl (by (try simp only [List.map_toArray, List.map_cons, List.map_nil]); first | done | rfl | (simp only [List.length_drop, List.length_take]; rfl)) ?_; (with_reducible refine (impl_IsPeelOrder.calls k t977 _ _ t978 _ _ t982 t985 t986 _ ?side1 ?side2 ?side3 ?side4 A18.out).mono ?_); (case side1 => repeat (first | exact (Kd.S_reads' HO980.out).2.2 | (with_reducible refine Kd.C_alloc ?_ _) | (with_reducible refine Kd.C_drewN ?_ _) | (with_reducible refine Kd.C_drew ?_))); (case side2 => exact (Kd.S_reads' HO980.out).2.1); (case side3 => repeat (first | exact (Kd.R_reads' HO984.out).2.2 | (with_reducible refine Kd.C_alloc ?_ _) | (with_reducible refine Kd.C_drewN ?_ _) | (with_reducible refine Kd.C_drew ?_))); (case side4 => exact (Kd.R_reads' HO984.out).2.1); rintro e w45 ⟨rfl, hb⟩; refine ⟨_, rfl, ?_⟩; have n0_ := Aside0.mk (Kd.S_below (by (with_reducible repeat (first | apply Kd.S_alloc | apply Kd.S_drewN | apply Kd.S_drew)); exact HO971.out) hb); have n1_ := Aside0.mk (Kd.R_below (by (with_reducible repeat (first | apply Kd.R_alloc | apply Kd.R_drewN | apply Kd.R_drew)); exact HO974.out) hb); have n2_ := Aside0.mk (Kd.S_below (by (with_reducible repeat (first | apply Kd.S_alloc | apply Kd.S_drewN | apply Kd.S_drew)); exact HO980.out) hb); have n3_ := Aside0.mk (Kd.R_below (by (with_reducible repeat (first | apply Kd.R_alloc | apply Kd.R_drewN | apply Kd.R_drew)); exact HO984.out) hb); have n4_ := Aside0.mk (blk_below (g := gb965) (o := .cells #[.int .i64 a0_0, .slice A0_1 l0_1.length c0_1] 24 (0, 0)) (by (with_reducible repeat (first | refine blk_drewN ?_ _ | refine blk_drew ?_ | refine blk_alloc ?_ _)); exact BK965.out) hb); have n5_ := Aside0.mk (blk_below (g := gb981) (o := .cells #[.int .i64 t977, .slice Ao41 t978.length co41] 29 (0, 0)) (by (with_reducible repeat (first | refine blk_drewN ?_ _ | refine blk_drew ?_ | refine blk_alloc ?_ _)); exact BK981.out) hb); have n6_ := Aside0.mk (below_step (by repeat (first | (with_reducible first | exact HB.out | apply below_alloc | apply pw_below_drewN | apply below_drew1 | refine below_set ?_ GE965.out | refine below_set ?_ GE981.out) | exact HB.out)) hb); clear HO971; clear HO974; clear HO980; clear HO984; clear BK965; clear BK981; clear HB; have HO971 := n0_; have HO974 := n1_; have HO980 := n2_; have HO984 := n3_; have BK965 := n4_; have BK981 := n5_; have HB := n6_; clear n0_ n1_ n2_ n3_ n4_ n5_ n6_; (try clear hb); (try clear hb2); (try clear hk); (try clear hi)))
        have n0_ := Aside0.mk (Kd.S_drew HO971.out)
        have n1_ := Aside0.mk (Kd.R_drew HO974.out)
        have n2_ := Aside0.mk (Kd.S_drew HO980.out)
        have n3_ := Aside0.mk (Kd.R_drew HO984.out)
        have n4_ := Aside0.mk (blk_drew BK965.out)
        have n5_ := Aside0.mk (blk_drew BK981.out)
        have n6_ := Aside0.mk (below_drew1 HB.out)
        clear HO971
        clear HO974
        clear HO980
        clear HO984
        clear BK965
        clear BK981
        clear HB
        have HO971 := n0_
        have HO974 := n1_
        have HO980 := n2_
        have HO984 := n3_
        have BK965 := n4_
        have BK981 := n5_
        have HB := n6_
        clear n0_ n1_ n2_ n3_ n4_ n5_ n6_
        refine start_ (n := 5) (S := fun w' => w'.cell? ⟨gb981, 0, none⟩ = some (.int .i64 t977) ∧ w'.cell? ⟨gb981, 1, none⟩ = some (.slice Ao41 t978.length co41) ∧ w'.cell? ⟨gb965, 0, none⟩ = some (.int .i64 a0_0) ∧ w'.cell? ⟨gb965, 1, none⟩ = some (.slice A0_1 l0_1.length c0_1)) (ds := []) #[false, false, false, false, false] (by kernel_rfl) rfl rfl ⟨(blk_cell BK981.out 0).trans rfl, (blk_cell BK981.out 1).trans rfl, (blk_cell BK965.out 0).trans rfl, (blk_cell BK965.out 1).trans rfl⟩ (fun hHeld => ?_)
        generalize w45.drew = w46 at HO971 HO974 HO980 HO984 BK965 BK981 HB hHeld ⊢
        refine take_ (i := 0) (N := some 48) (v := ?_) (a' := ?_) (bsA 5 1) rfl rfl (by kernel_rfl) (fun _ _ _ h => h) (Or.inl ⟨by rfl, ?_⟩) hHeld ?_ ?_
        rotate_left
        ·rintro w' ⟨s0, s1, s2, s3⟩
         go_simp
         with_reducible rfl
        rotate_left
        ·simp only [Act.put, List.setIfInBounds_toArray, List.set_cons_zero, List.set_cons_succ, i64_w]
         rfl
        refine take_ (i := 1) (N := some 49) (v := ?_) (a' := ?_) (bsA 5 3) rfl rfl (by kernel_rfl) (fun _ _ _ h => h) (Or.inl ⟨by rfl, ?_⟩) hHeld ?_ ?_
        rotate_left
        ·rintro w' ⟨s0, s1, s2, s3⟩
         go_simp
         with_reducible rfl
        rotate_left
        ·simp only [Act.put, List.setIfInBounds_toArray, List.set_cons_zero, List.set_cons_succ, i64_w]
         rfl
        refine one_ (i := 2) (N := some 50) (bsA 5 7) rfl rfl (by kernel_rfl) (by decide) (fun K hK => ?_)
        refine goes_ Try.func19 (by kernel_rfl) rfl #[.agg #[.int .i64 a0_0, .slice A0_1 l0_1.length c0_1]] (by rfl) rfl rfl (by (try simp only [List.map_toArray, List.map_cons, List.map_nil]); first | done | rfl | (simp only [List.length_drop, List.length_take]; rfl)) ?_
        with_reducible refine (laws_toHyper.calls k a0_0 _ _ l0_1 t987 t988 _ ?side1 ?side2 A21.out).mono ?_
        (case side1 => repeat (first | exact (Kd.C_below HR0_1.out HB.out) | (with_reducible refine Kd.C_alloc ?_ _) | (with_reducible refine Kd.C_drewN ?_ _) | (with_reducible refine Kd.C_drew ?_)))
        (case side2 => exact HC0_1.out)
        rintro e w47 ⟨v989, rfl, ho0, hb⟩
        refine ⟨_, rfl, ?_⟩
        have n0_ := Aside0.mk (Kd.S_elder' (by (with_reducible repeat (first | apply Kd.S_alloc | apply Kd.S_drewN | apply Kd.S_drew)); exact HO971.out) (Kd.S_base ho0) hb)
        have n1_ := Aside0.mk (Kd.R_below (by (with_reducible repeat (first | apply Kd.R_alloc | apply Kd.R_drewN | apply Kd.R_drew)); exact HO974.out) hb)
        have n2_ := Aside0.mk (Kd.S_elder' (by (with_reducible repeat (first | apply Kd.S_alloc | apply Kd.S_drewN | apply Kd.S_drew)); exact HO980.out) (Kd.S_base ho0) hb)
        have n3_ := Aside0.mk (Kd.R_below (by (with_reducible repeat (first | apply Kd.R_alloc | apply Kd.R_drewN | apply Kd.R_drew)); exact HO984.out) hb)
        have n4_ := Aside0.mk (Kd.S_lower (Kd.S_new' (Kd.S_new' ho0 (Kd.S_lt (by (with_reducible repeat (first | apply Kd.S_alloc | apply Kd.S_drewN | apply Kd.S_drew)); exact HO971.out))) (Kd.S_lt (by (with_reducible repeat (first | apply Kd.S_alloc | apply Kd.S_drewN | apply Kd.S_drew)); exact HO980.out))) (below_size (by repeat (first | (with_reducible first | exact HB.out | apply below_alloc | apply pw_below_drewN | apply below_drew1 | refine below_set ?_ GE965.out | refine below_set ?_ GE981.out) | exact HB.out))))
        have n5_ := Aside0.mk (blk_below (g := gb965) (o := .cells #[.int .i64 a0_0, .slice A0_1 l0_1.length c0_1] 24 (0, 0)) (by (with_reducible repeat (first | refine blk_drewN ?_ _ | refine blk_drew ?_ | refine blk_alloc ?_ _)); exact BK965.out) hb)
        have n6_ := Aside0.mk (blk_below (g := gb981) (o := .cells #[.int .i64 t977, .slice Ao41 t978.length co41] 29 (0, 0)) (by (with_reducible repeat (first | refine blk_drewN ?_ _ | refine blk_drew ?_ | refine blk_alloc ?_ _)); exact BK981.out) hb)
        have n7_ := Aside0.mk (below_step (by repeat (first | (with_reducible first | exact HB.out | apply below_alloc | apply pw_below_drewN | apply below_drew1 | refine below_set ?_ GE965.out | refine below_set ?_ GE981.out) | exact HB.out)) hb)
        clear HO971
        clear HO974
        clear HO980
        clear HO984
        clear BK965
        clear BK981
        clear HB
        have HO971 := n0_
        have HO974 := n1_
        have HO980 := n2_
        have HO984 := n3_
        have HO990 := n4_
        have BK965 := n5_
        have BK981 := n6_
        have HB := n7_
        clear n0_ n1_ n2_ n3_ n4_ n5_ n6_ n7_
        (try clear hb)
        (try clear hb2)
        (try clear hk)
        (try clear hi)
        (try clear ho0)
        obtain ⟨Ao48, co48, eo48⟩ := Kd.S_slice HO990.out
        (first | subst eo48 | (injection eo48 with f1_ f2_ f3_; have f4_ := f1_.symm; have f5_ := f3_.symm; clear f1_ f2_ f3_; subst f4_; subst f5_))
        refine hK.out _ _ ⟨(blk_cell BK981.out 0).trans rfl, (blk_cell BK981.out 1).trans rfl, (blk_cell BK965.out 0).trans rfl, (blk_cell BK965.out 1).trans rfl⟩ (fun hHeld => ?_)
        clear hK K
        refine norm_ (a' := ?_) ?_ ?_
        rotate_left
        ·show Act.put _ (some 50) _ = _
         simp only [Act.put, List.setIfInBounds_toArray, List.set_cons_zero, List.set_cons_succ, i64_w]
         rfl
        refine one_ (i := 3) (N := some 51) (bsA 5 15) rfl rfl (by kernel_rfl) (by decide) (fun K hK => ?_)
        refine goes_ Try.func22 (by kernel_rfl) rfl #[.agg #[.int .i64 t977, .slice Ao41 t978.length co41], .agg #[.int .i64 t987, .slice Ao48 t988.length co48]] (by rfl) rfl rfl (by (try simp only [List.map_toArray, List.map_cons, List.map_nil]); first | done | rfl | (simp only [List.length_drop, List.length_take]; rfl)) ?_
        with_reducible refine (laws_eqHyper.calls k t977 _ _ t978 t987 _ _ t988 true _ ?side1 ?side2 ?side3 ?side4 A22.out).mono ?_
        (case side1 => repeat (first | exact (Kd.S_reads' HO980.out).2.2 | (with_reducible refine Kd.C_alloc ?_ _) | (with_reducible refine Kd.C_drewN ?_ _) | (with_reducible refine Kd.C_drew ?_)))
        (case side2 => exact (Kd.S_reads' HO980.out).2.1)
        (case side3 => repeat (first | exact (Kd.S_reads' HO990.out).2.2 | (with_reducible refine Kd.C_alloc ?_ _) | (with_reducible refine Kd.C_drewN ?_ _) | (with_reducible refine Kd.C_drew ?_)))
        (case side4 => exact (Kd.S_reads' HO990.out).2.1)
        rintro e w49 ⟨rfl, hb⟩
        refine ⟨_, rfl, ?_⟩
        have n0_ := Aside0.mk (Kd.S_below (by (with_reducible repeat (first | apply Kd.S_alloc | apply Kd.S_drewN | apply Kd.S_drew)); exact HO971.out) hb)
        have n1_ := Aside0.mk (Kd.R_below (by (with_reducible repeat (first | apply Kd.R_alloc | apply Kd.R_drewN | apply Kd.R_drew)); exact HO974.out) hb)
        have n2_ := Aside0.mk (Kd.S_below (by (with_reducible repeat (first | apply Kd.S_alloc | apply Kd.S_drewN | apply Kd.S_drew)); exact HO980.out) hb)
        have n3_ := Aside0.mk (Kd.R_below (by (with_reducible repeat (first | apply Kd.R_alloc | apply Kd.R_drewN | apply Kd.R_drew)); exact HO984.out) hb)
        have n4_ := Aside0.mk (Kd.S_below (by (with_reducible repeat (first | apply Kd.S_alloc | apply Kd.S_drewN | apply Kd.S_drew)); exact HO990.out) hb)
        have n5_ := Aside0.mk (blk_below (g := gb965) (o := .cells #[.int .i64 a0_0, .slice A0_1 l0_1.length c0_1] 24 (0, 0)) (by (with_reducible repeat (first | refine blk_drewN ?_ _ | refine blk_drew ?_ | refine blk_alloc ?_ _)); exact BK965.out) hb)
        have n6_ := Aside0.mk (blk_below (g := gb981) (o := .cells #[.int .i64 t977, .slice Ao41 t978.length co41] 29 (0, 0)) (by (with_reducible repeat (first | refine blk_drewN ?_ _ | refine blk_drew ?_ | refine blk_alloc ?_ _)); exact BK981.out) hb)
        have n7_ := Aside0.mk (below_step (by repeat (first | (with_reducible first | exact HB.out | apply below_alloc | apply pw_below_drewN | apply below_drew1 | refine below_set ?_ GE965.out | refine below_set ?_ GE981.out) | exact HB.out)) hb)
        clear HO971
        clear HO974
        clear HO980
        clear HO984
        clear HO990
        clear BK965
        clear BK981
        clear HB
        have HO971 := n0_
        have HO974 := n1_
        have HO980 := n2_
        have HO984 := n3_
        have HO990 := n4_
        have BK965 := n5_
        have BK981 := n6_
        have HB := n7_
        clear n0_ n1_ n2_ n3_ n4_ n5_ n6_ n7_
        (try clear hb)
        (try clear hb2)
        (try clear hk)
        (try clear hi)
        refine hK.out _ _ ⟨(blk_cell BK981.out 0).trans rfl, (blk_cell BK981.out 1).trans rfl, (blk_cell BK965.out 0).trans rfl, (blk_cell BK965.out 1).trans rfl⟩ (fun hHeld => ?_)
        clear hK K
        refine norm_ (a' := ?_) ?_ ?_
        rotate_left
        ·show Act.put _ (some 51) _ = _
         simp only [Act.put, List.setIfInBounds_toArray, List.set_cons_zero, List.set_cons_succ, i64_w]
         rfl
        refine pure_ (i := 4) (N := some 52) (v := ?_) (a' := ?_) (bsA 5 31) rfl rfl (by kernel_rfl) (fun _ _ _ h => h) (Or.inl ⟨by rfl, ?_⟩) ?_ ?_
        rotate_left
        ·intro w'
         go_simp
         with_reducible rfl
        rotate_left
        ·simp only [Act.put, List.setIfInBounds_toArray, List.set_cons_zero, List.set_cons_succ, i64_w]
         rfl
        refine done_ (by kernel_rfl) ?_
        try go_wp2_with (first | ((with_reducible refine gate_callee (f := 53) rfl ?_); refine goesL_ (some 55) rfl rfl Try.func53 (by kernel_rfl) rfl #[.slice A1 l1.length c1] rfl (by (try simp only [List.map_toArray, List.map_cons, List.map_nil]); first | done | rfl | (simp only [List.length_drop, List.length_take]; rfl)) ?_; (with_reducible refine (laws_toPeelStepS.calls k _ _ l1 t992 _ ?side1 ?side2 A24.out).mono ?_); (case side1 => repeat (first | exact (Kd.C_below HR1.out HB.out) | (with_reducible refine Kd.C_alloc ?_ _) | (with_reducible refine Kd.C_drewN ?_ _) | (with_reducible refine Kd.C_drew ?_))); (case side2 => exact HC1.out); rintro e w50 ⟨v993, rfl, ho0, hb⟩; refine ⟨_, rfl, ?_⟩; have n0_ := Aside0.mk (Kd.S_below (by (with_reducible repeat (first | apply Kd.S_alloc | apply Kd.S_drewN | apply Kd.S_drew)); exact HO971.out) hb); have n1_ := Aside0.mk (Kd.R_elder' (by (with_reducible repeat (first | apply Kd.R_alloc | apply Kd.R_drewN | apply Kd.R_drew)); exact HO974.out) (Kd.R_base ho0) hb); have n2_ := Aside0.mk (Kd.S_below (by (with_reducible repeat (first | apply Kd.S_alloc | apply Kd.S_drewN | apply Kd.S_drew)); exact HO980.out) hb); have n3_ := Aside0.mk (Kd.R_elder' (by (with_reducible repeat (first | apply Kd.R_alloc | apply Kd.R_drewN | apply Kd.R_drew)); exact HO984.out) (Kd.R_base ho0) hb); have n4_ := Aside0.mk (Kd.S_below (by (with_reducible repeat (first | apply Kd.S_alloc | apply Kd.S_drewN | apply Kd.S_drew)); exact HO990.out) hb); have n5_ := Aside0.mk (Kd.R_lower (Kd.R_new' (Kd.R_new' ho0 (Kd.R_lt (by (with_reducible repeat (first | apply Kd.R_alloc | apply Kd.R_drewN | apply Kd.R_drew)); exact HO974.out))) (Kd.R_lt (by (with_reducible repeat (first | apply Kd.R_alloc | apply Kd.R_drewN | apply Kd.R_drew)); exact HO984.out))) (below_size (by repeat (first | (with_reducible first | exact HB.out | apply below_alloc | apply pw_below_drewN | apply below_drew1 | refine below_set ?_ GE965.out | refine below_set ?_ GE981.out) | exact HB.out)))); have n6_ := Aside0.mk (blk_below (g := gb965) (o := .cells #[.int .i64 a0_0, .slice A0_1 l0_1.length c0_1] 24 (0, 0)) (by (with_reducible repeat (first | refine blk_drewN ?_ _ | refine blk_drew ?_ | refine blk_alloc ?_ _)); exact BK965.out) hb); have n7_ := Aside0.mk (blk_below (g := gb981) (o := .cells #[.int .i64 t977, .slice Ao41 t978.length co41] 29 (0, 0)) (by (with_reducible repeat (first | refine blk_drewN ?_ _ | refine blk_drew ?_ | refine blk_alloc ?_ _)); exact BK981.out) hb); have n8_ := Aside0.mk (below_step (by repeat (first | (with_reducible first | exact HB.out | apply below_alloc | apply pw_below_drewN | apply below_drew1 | refine below_set ?_ GE965.out | refine below_set ?_ GE981.out) | exact HB.out)) hb); clear HO971; clear HO974; clear HO980; clear HO984; clear HO990; clear BK965; clear BK981; clear HB; have HO971 := n0_; have HO974 := n1_; have HO980 := n2_; have HO984 := n3_; have HO990 := n4_; have HO994 := n5_; have BK965 := n6_; have BK981 := n7_; have HB := n8_; clear n0_ n1_ n2_ n3_ n4_ n5_ n6_ n7_ n8_; (try clear hb); (try clear hb2); (try clear hk); (try clear hi); (try clear ho0); obtain ⟨Ao51, co51, eo51⟩ := Kd.R_slice HO994.out; subst eo51) | ((with_reducible refine gate_callee (f := 55) rfl ?_); refine goesL_ (some 56) rfl rfl Try.func55 (by kernel_rfl) rfl #[.slice Ao44 t982.length co44, .slice Ao51 t992.length co51] rfl (by (try simp only [List.map_toArray, List.map_cons, List.map_nil]); first | done | rfl | (simp only [List.length_drop, List.length_take]; rfl)) ?_; (with_reducible refine (laws_eqPeelStepS.calls k _ _ t982 _ _ t992 true _ ?side1 ?side2 ?side3 ?side4 A25.out).mono ?_); (case side1 => repeat (first | exact (Kd.R_reads' HO984.out).2.2 | (with_reducible refine Kd.C_alloc ?_ _) | (with_reducible refine Kd.C_drewN ?_ _) | (with_reducible refine Kd.C_drew ?_))); (case side2 => exact (Kd.R_reads' HO984.out).2.1); (case side3 => repeat (first | exact (Kd.R_reads' HO994.out).2.2 | (with_reducible refine Kd.C_alloc ?_ _) | (with_reducible refine Kd.C_drewN ?_ _) | (with_reducible refine Kd.C_drew ?_))); (case side4 => exact (Kd.R_reads' HO994.out).2.1); rintro e w52 ⟨rfl, hb⟩; refine ⟨_, rfl, ?_⟩; have n0_ := Aside0.mk (Kd.S_below (by (with_reducible repeat (first | apply Kd.S_alloc | apply Kd.S_drewN | apply Kd.S_drew)); exact HO971.out) hb); have n1_ := Aside0.mk (Kd.R_below (by (with_reducible repeat (first | apply Kd.R_alloc | apply Kd.R_drewN | apply Kd.R_drew)); exact HO974.out) hb); have n2_ := Aside0.mk (Kd.S_below (by (with_reducible repeat (first | apply Kd.S_alloc | apply Kd.S_drewN | apply Kd.S_drew)); exact HO980.out) hb); have n3_ := Aside0.mk (Kd.R_below (by (with_reducible repeat (first | apply Kd.R_alloc | apply Kd.R_drewN | apply Kd.R_drew)); exact HO984.out) hb); have n4_ := Aside0.mk (Kd.S_below (by (with_reducible repeat (first | apply Kd.S_alloc | apply Kd.S_drewN | apply Kd.S_drew)); exact HO990.out) hb); have n5_ := Aside0.mk (Kd.R_below (by (with_reducible repeat (first | apply Kd.R_alloc | apply Kd.R_drewN | apply Kd.R_drew)); exact HO994.out) hb); have n6_ := Aside0.mk (blk_below (g := gb965) (o := .cells #[.int .i64 a0_0, .slice A0_1 l0_1.length c0_1] 24 (0, 0)) (by (with_reducible repeat (first | refine blk_drewN ?_ _ | refine blk_drew ?_ | refine blk_alloc ?_ _)); exact BK965.out) hb); have n7_ := Aside0.mk (blk_below (g := gb981) (o := .cells #[.int .i64 t977, .slice Ao41 t978.length co41] 29 (0, 0)) (by (with_reducible repeat (first | refine blk_drewN ?_ _ | refine blk_drew ?_ | refine blk_alloc ?_ _)); exact BK981.out) hb); have n8_ := Aside0.mk (below_step (by repeat (first | (with_reducible first | exact HB.out | apply below_alloc | apply pw_below_drewN | apply below_drew1 | refine below_set ?_ GE965.out | refine below_set ?_ GE981.out) | exact HB.out)) hb); clear HO971; clear HO974; clear HO980; clear HO984; clear HO990; clear HO994; clear BK965; clear BK981; clear HB; have HO971 := n0_; have HO974 := n1_; have HO980 := n2_; have HO984 := n3_; have HO990 := n4_; have HO994 := n5_; have BK965 := n6_; have BK981 := n7_; have HB := n8_; clear n0_ n1_ n2_ n3_ n4_ n5_ n6_ n7_ n8_; (try clear hb); (try clear hb2); (try clear hk); (try clear hi)))
        go_ret
        exact ⟨by first | rfl | (simp [errW_none, errW_some] <;> rfl) | (simp [*, errW_none, errW_some] <;> rfl), by repeat (first | (with_reducible first | exact HB.out | apply below_alloc | apply pw_below_drewN | apply below_drew1 | refine below_set ?_ GE965.out | refine below_set ?_ GE981.out) | exact HB.out)⟩
       ·replace c26 := Bool.eq_false_iff.mpr c26
        subst c26
        have H1 : (none) = some r := by rw [if_neg (show ¬ (false = true) by decide)] at H; exact H
        clear H
        have H := H1
        clear H1
        exact absurd H (by simp)
      ·replace c23 := Bool.eq_false_iff.mpr c23
       subst c23
       have H1 : (none) = some r := by rw [if_neg (show ¬ (false = true) by decide)] at H; exact H
       clear H
       have H := H1
       clear H1
       exact absurd H (by simp)

/-- What is to be shown of laws_FnExactIsPeelOrder: plain. -/
def laws_FnExactIsPeelOrder.Pure : Prop := ∀ (a0_0 : Int) (l0_1 : List (List Int)) (l1 : List (S90)), (wfI .i64) a0_0 → (wfL (wfL (wfI .i64))) l0_1 → (wfL wfT90) l1 → ∃ k, laws_FnExactIsPeelOrder.f k a0_0 l0_1 l1 = some true
theorem laws_FnExactIsPeelOrder.walk (P : laws_FnExactIsPeelOrder.Pure) (a0_0 : Int) (A0_1 : Option Addr) (c0_1 : Nat) (l0_1 : List (List Int)) (A1 : Option Addr) (c1 : Nat) (l1 : List (S90)) (w : World) (hr0_1 : Kd.C (Kd.slice 3 (Kd.int .i64)) w A0_1 l0_1.length l0_1) (hc0_1 : l0_1.length ≤ c0_1) (hr1 : Kd.C k90 w A1 l1.length l1) (hc1 : l1.length ≤ c1) (hw0_0 : (wfI .i64) a0_0) (hw0_1 : (wfL (wfL (wfI .i64))) l0_1) (hw1 : (wfL wfT90) l1) :
    Calls Try.prog 12 #[.agg #[.int .i64 a0_0, .slice A0_1 l0_1.length c0_1], .slice A1 l1.length c1] w fun e w' => e = .returned (.bool true) ∧ Below w.heap.size w w' := by
  obtain ⟨k, h⟩ := P a0_0 l0_1 l1 hw0_0 hw0_1 hw1
  refine (laws_FnExactIsPeelOrder.calls k a0_0 A0_1 c0_1 l0_1 A1 c1 l1 true w hr0_1 hc0_1 hr1 hc1 h).mono ?_
  rintro e w' ⟨rfl, hd⟩
  exact ⟨rfl, hd⟩
end Go.Proofs.Ytlcedciocmjggaa.X
