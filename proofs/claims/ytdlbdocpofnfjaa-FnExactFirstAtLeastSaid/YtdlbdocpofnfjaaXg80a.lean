/- Written by a program of this session: what functions of the given program compute, and that their calls do so. -/
import Derived.Test.YtdlbdocpofnfjaaXx0
import Derived.Test.YtdlbdocpofnfjaaXg1a0a
import Derived.Test.YtdlbdocpofnfjaaXg1c0a
import Derived.Test.YtdlbdocpofnfjaaXg3fea
import Derived.Test.YtdlbdocpofnfjaaXg3feb
import Derived.Test.YtdlbdocpofnfjaaXg3fec
import Derived.Test.YtdlbdocpofnfjaaXg3ffa
import Derived.Test.YtdlbdocpofnfjaaXg3ffb
namespace Go.Proofs.Ytdlbdocpofnfjaa.X
open Go.RowKit Go.Proofs.YtdlbdocpofnfjaaW.PrintWords Go.Proofs.YtdlbdocpofnfjaaW.PrintLast Go.Proofs.YtdlbdocpofnfjaaW.PrintMore
attribute [local go_sem] max2_int min2_int max_two min_two max_three min_three max_four min_four   -- for this text's walks alone
set_option linter.unusedVariables false
set_option linter.unusedSimpArgs false
/-! ### spec_FirstAtLeast: function 39 -/
def spec_FirstAtLeast.f (k : Nat) (a0_0 : Int) (a0_1 : Int) (a0_2 : Int) (a0_3 : Int) (l0_4 : List Int) (a0_5 : Int) (l0_6 : List Int) (a1 : Int) : Option (Int × Bool) := (spec_spAsked.f k a0_0 a0_1 a0_2 a0_3 l0_4 a0_5 l0_6 a1).bind fun t766 => (if t766 = true then ((spec_spBelow.f k a0_0 a0_1 a0_2 a0_3 l0_4 a0_5 l0_6 a1).bind fun t767 => (if t767 = a0_0 then (some (0, false)) else ((spec_spBelow.f k a0_0 a0_1 a0_2 a0_3 l0_4 a0_5 l0_6 a1).bind fun t768 => (some (t768, true))))) else (some (0, false)))
theorem spec_FirstAtLeast.mono : ∀ a0 a1 a2 a3 a4 a5 a6 a7 k, LeO (spec_FirstAtLeast.f k a0 a1 a2 a3 a4 a5 a6 a7) (spec_FirstAtLeast.f (k + 1) a0 a1 a2 a3 a4 a5 a6 a7) := by
  intro a0 a1 a2 a3 a4 a5 a6 a7 k
  unfold spec_FirstAtLeast.f
  repeat' first
      | (with_reducible exact spec_spAsked.mono _ _ _ _ _ _ _ _ _)
      | (with_reducible exact spec_spBelow.mono _ _ _ _ _ _ _ _ _)
      | (with_reducible exact LeO.refl _)
      | (with_reducible exact LeO.none _)
      | (with_reducible refine LeO.ite ?_ ?_)
      | (with_reducible refine LeO.bind ?_ (fun _ => ?_))
      | exact spec_spAsked.mono _ _ _ _ _ _ _ _ _
      | exact spec_spBelow.mono _ _ _ _ _ _ _ _ _
      | exact LeO.none _
      | refine LeO.ite ?_ ?_
      | refine LeO.bind ?_ (fun _ => ?_)
noncomputable def spec_FirstAtLeast.F (a0_0 : Int) (a0_1 : Int) (a0_2 : Int) (a0_3 : Int) (l0_4 : List Int) (a0_5 : Int) (l0_6 : List Int) (a1 : Int) : Option (Int × Bool) := lim fun k => spec_FirstAtLeast.f k a0_0 a0_1 a0_2 a0_3 l0_4 a0_5 l0_6 a1
theorem spec_FirstAtLeast.F_sup (a0_0 : Int) (a0_1 : Int) (a0_2 : Int) (a0_3 : Int) (l0_4 : List Int) (a0_5 : Int) (l0_6 : List Int) (a1 : Int) : Sup (fun k => spec_FirstAtLeast.f k a0_0 a0_1 a0_2 a0_3 l0_4 a0_5 l0_6 a1) (spec_FirstAtLeast.F a0_0 a0_1 a0_2 a0_3 l0_4 a0_5 l0_6 a1) := Sup.of_mono fun k => spec_FirstAtLeast.mono a0_0 a0_1 a0_2 a0_3 l0_4 a0_5 l0_6 a1 k
theorem spec_FirstAtLeast.F_eq (a0_0 : Int) (a0_1 : Int) (a0_2 : Int) (a0_3 : Int) (l0_4 : List Int) (a0_5 : Int) (l0_6 : List Int) (a1 : Int) : spec_FirstAtLeast.F a0_0 a0_1 a0_2 a0_3 l0_4 a0_5 l0_6 a1 = (spec_spAsked.F a0_0 a0_1 a0_2 a0_3 l0_4 a0_5 l0_6 a1).bind fun t766 => (if t766 = true then ((spec_spBelow.F a0_0 a0_1 a0_2 a0_3 l0_4 a0_5 l0_6 a1).bind fun t767 => (if t767 = a0_0 then (some (0, false)) else ((spec_spBelow.F a0_0 a0_1 a0_2 a0_3 l0_4 a0_5 l0_6 a1).bind fun t768 => (some (t768, true))))) else (some (0, false))) := by
  refine Sup.unique (spec_FirstAtLeast.F_sup a0_0 a0_1 a0_2 a0_3 l0_4 a0_5 l0_6 a1) (Sup.congr (g' := fun k => (spec_spAsked.f k a0_0 a0_1 a0_2 a0_3 l0_4 a0_5 l0_6 a1).bind fun t766 => (if t766 = true then ((spec_spBelow.f k a0_0 a0_1 a0_2 a0_3 l0_4 a0_5 l0_6 a1).bind fun t767 => (if t767 = a0_0 then (some (0, false)) else ((spec_spBelow.f k a0_0 a0_1 a0_2 a0_3 l0_4 a0_5 l0_6 a1).bind fun t768 => (some (t768, true))))) else (some (0, false)))) (fun k => by first | rfl | simp only [spec_FirstAtLeast.f]) ?_)
  repeat' first
    | (with_reducible exact spec_spAsked.F_sup _ _ _ _ _ _ _ _)
    | (with_reducible exact spec_spBelow.F_sup _ _ _ _ _ _ _ _)
    | (with_reducible refine Sup.ite ?_ ?_)
    | (with_reducible refine Sup.bind ?_ (fun _ => ?_))
    | (with_reducible exact Sup.const _)
    | exact spec_spAsked.F_sup _ _ _ _ _ _ _ _
    | exact spec_spBelow.F_sup _ _ _ _ _ _ _ _
    | exact Sup.const _
def spec_FirstAtLeast.T1 : Bool × List (List Nat × List Nat) := (true, [([], []), ([], []), ([0, 1], [0, 1]), ([2], [2]), ([3, 2], [3]), ([4], [4]), ([4], [4]), ([5, 6, 4, 4], [4, 5, 6]), ([4], [4]), ([8, 4], [4, 8]), ([7, 9, 4], [4, 7, 9]), ([4, 10], [4, 10])])
def spec_FirstAtLeast.B1 : List Nat := [0, 0, 3, 7, 15, 31, 31, 127, 31, 287, 1023, 2047]
theorem spec_FirstAtLeast.tab1 : rtab .any (opsOf Try.f39 1) = spec_FirstAtLeast.T1 := by kernel_rfl
theorem spec_FirstAtLeast.bits1 : waitsOk spec_FirstAtLeast.T1.2 spec_FirstAtLeast.B1 = true := by kernel_rfl
set_option maxHeartbeats 8000000 in
set_option maxRecDepth 100000 in
theorem spec_FirstAtLeast.calls (k : Nat) (a0_0 : Int) (a0_1 : Int) (a0_2 : Int) (a0_3 : Int) (A0_4 : Option Addr) (c0_4 : Nat) (l0_4 : List Int) (a0_5 : Int) (A0_6 : Option Addr) (c0_6 : Nat) (l0_6 : List Int) (a1 : Int) (r1 : Int) (r2 : Bool) (w : World) (hr0_4 : Kd.C (Kd.int .i64) w A0_4 l0_4.length l0_4) (hc0_4 : l0_4.length ≤ c0_4) (hr0_6 : Kd.C (Kd.int .i64) w A0_6 l0_6.length l0_6) (hc0_6 : l0_6.length ≤ c0_6) (h : spec_FirstAtLeast.f k a0_0 a0_1 a0_2 a0_3 l0_4 a0_5 l0_6 a1 = some (r1, r2)) :
    Calls Try.prog 39 #[.agg #[.int .i64 a0_0, .int .i64 a0_1, .int .i64 a0_2, .int .i64 a0_3, .slice A0_4 l0_4.length c0_4, .int .i64 a0_5, .slice A0_6 l0_6.length c0_6], .int .i64 a1] w fun e w' => e = .returned (.tuple #[.int .i64 r1, .bool r2]) ∧ Below w.heap.size w w' := by
  have hu26 := Try.underlying26
  have HR0_4 := Aside0.mk hr0_4
  have HC0_4 := Aside0.mk hc0_4
  clear hr0_4 hc0_4
  have HR0_6 := Aside0.mk hr0_6
  have HC0_6 := Aside0.mk hc0_6
  clear hr0_6 hc0_6
  have HB := Aside0.mk (Below.refl w.heap.size w)
  have H : ((spec_spAsked.f k a0_0 a0_1 a0_2 a0_3 l0_4 a0_5 l0_6 a1).bind fun t766 => (if t766 = true then ((spec_spBelow.f k a0_0 a0_1 a0_2 a0_3 l0_4 a0_5 l0_6 a1).bind fun t767 => (if t767 = a0_0 then (some (0, false)) else ((spec_spBelow.f k a0_0 a0_1 a0_2 a0_3 l0_4 a0_5 l0_6 a1).bind fun t768 => (some (t768, true))))) else (some (0, false)))) = some (r1, r2) := h
  clear h
  replace H := Option.bind_eq_some_iff.mp H
  obtain ⟨t766, A30, H⟩ := H
  replace H : (if t766 = true then ((spec_spBelow.f k a0_0 a0_1 a0_2 a0_3 l0_4 a0_5 l0_6 a1).bind fun t767 => (if t767 = a0_0 then (some (0, false)) else ((spec_spBelow.f k a0_0 a0_1 a0_2 a0_3 l0_4 a0_5 l0_6 a1).bind fun t768 => (some (t768, true))))) else (some (0, false))) = some (r1, r2) := H
  have A3 := Aside0.mk A30
  clear A30
  by_cases c4 : t766 = true
  ·subst c4
   have H1 : ((spec_spBelow.f k a0_0 a0_1 a0_2 a0_3 l0_4 a0_5 l0_6 a1).bind fun t767 => (if t767 = a0_0 then (some (0, false)) else ((spec_spBelow.f k a0_0 a0_1 a0_2 a0_3 l0_4 a0_5 l0_6 a1).bind fun t768 => (some (t768, true))))) = some (r1, r2) := by rw [if_pos rfl] at H; exact H
   clear H
   have H := H1
   clear H1
   replace H := Option.bind_eq_some_iff.mp H
   obtain ⟨t767, A50, H⟩ := H
   replace H : (if t767 = a0_0 then (some (0, false)) else ((spec_spBelow.f k a0_0 a0_1 a0_2 a0_3 l0_4 a0_5 l0_6 a1).bind fun t768 => (some (t768, true)))) = some (r1, r2) := H
   have A5 := Aside0.mk A50
   clear A50
   by_cases c6 : t767 = a0_0
   ·rw [if_pos c6] at H
    have c6b0 : (t767 == a0_0) = true := beq_iff_eq.mpr c6
    have c6b1 : (t767 != a0_0) = false := bne_eq_false_iff_eq.mpr c6
    clear c6
    simp only [Option.some.injEq, Prod.mk.injEq] at H
    obtain ⟨rfl, rfl⟩ := H
    go_enter Try.func39, Try.ntmps39
    try go_wp2_with (first | ((with_reducible refine gate_dst (N := 2) rfl ?_); refine box_event ?hg (N := 2) ?hd (cs := #[.int .i64 a0_0, .int .i64 a0_1, .int .i64 a0_2, .int .i64 a0_3, .slice A0_4 l0_4.length c0_4, .int .i64 a0_5, .slice A0_6 l0_6.length c0_6]) (t := 26) ?hr ?_; (case hd => rfl); (case hg => rfl); (case hr => first | (go_simp; done) | (go_simp; rfl)); intro gb765 hg w7 hbox hb; have n0_ := Aside0.mk (below_step (by repeat (first | (with_reducible first | exact HB.out | apply below_alloc | apply pw_below_drewN | apply below_drew1) | exact HB.out)) hb); have n1_ := Aside0.mk (hbox); have n2_ := Aside0.mk ((by rw [hg]; exact (below_size (by repeat (first | (with_reducible first | exact HB.out | apply below_alloc | apply pw_below_drewN | apply below_drew1) | exact HB.out))) : w.heap.size ≤ gb765)); have n3_ := Aside0.mk ((by rw [hg]; exact (below_size (by repeat (first | (with_reducible first | exact HB.out | apply below_alloc | apply pw_below_drewN | apply below_drew1) | exact HB.out))) : w.heap.size ≤ gb765)); clear HB; have HB := n0_; have BK765 := n1_; have GW765 := n2_; have GE765 := n3_; clear n0_ n1_ n2_ n3_; clear hb hbox hg))
    have n0_ := Aside0.mk (blk_drew BK765.out)
    have n1_ := Aside0.mk (below_drew1 HB.out)
    clear BK765
    clear HB
    have BK765 := n0_
    have HB := n1_
    clear n0_ n1_
    refine start_ (n := 12) (S := fun w' => w'.cell? ⟨gb765, 0, none⟩ = some (.int .i64 a0_0) ∧ w'.cell? ⟨gb765, 1, none⟩ = some (.int .i64 a0_1) ∧ w'.cell? ⟨gb765, 2, none⟩ = some (.int .i64 a0_2) ∧ w'.cell? ⟨gb765, 3, none⟩ = some (.int .i64 a0_3) ∧ w'.cell? ⟨gb765, 4, none⟩ = some (.slice A0_4 l0_4.length c0_4) ∧ w'.cell? ⟨gb765, 5, none⟩ = some (.int .i64 a0_5) ∧ w'.cell? ⟨gb765, 6, none⟩ = some (.slice A0_6 l0_6.length c0_6)) (ds := []) #[false, false, false, false, false, false, false, false, false, false, false, false] (by kernel_rfl) rfl rfl ⟨(blk_cell BK765.out 0).trans rfl, (blk_cell BK765.out 1).trans rfl, (blk_cell BK765.out 2).trans rfl, (blk_cell BK765.out 3).trans rfl, (blk_cell BK765.out 4).trans rfl, (blk_cell BK765.out 5).trans rfl, (blk_cell BK765.out 6).trans rfl⟩ (fun hHeld => ?_); refine with_tabW spec_FirstAtLeast.tab1 spec_FirstAtLeast.bits1 (fun HT_ HW_ => ?_)
    generalize w7.drew = w8 at BK765 HB hHeld ⊢
    refine pq_ 1 7 12 2 HT_.out (by kernel_rfl) ?_
    refine tq_ 0 6 12 3 HT_.out HW_.out (by kernel_rfl) hHeld ?_ rfl (by rintro w' ⟨s0, s1, s2, s3, s4, s5, s6⟩; go_simp; with_reducible rfl)
    refine one_ (i := 2) (N := some 8) (bsA 12 7) rfl rfl (one_of HT_.out (by kernel_rfl)) (by decide) (fun K hK => ?_)
    refine goes_ Try.func67 (by kernel_rfl) rfl #[.agg #[.int .i64 a0_0, .int .i64 a0_1, .int .i64 a0_2, .int .i64 a0_3, .slice A0_4 l0_4.length c0_4, .int .i64 a0_5, .slice A0_6 l0_6.length c0_6], .int .i64 a1] (by rfl) rfl rfl (by (try simp only [List.map_toArray, List.map_cons, List.map_nil]); first | done | rfl | (simp only [List.length_drop, List.length_take]; rfl)) ?_
    with_reducible refine (spec_spAsked.calls k a0_0 a0_1 a0_2 a0_3 _ _ l0_4 a0_5 _ _ l0_6 a1 true _ ?side1 ?side2 ?side3 ?side4 A3.out).mono ?_
    (case side1 => repeat (first | exact (Kd.C_below HR0_4.out HB.out) | (with_reducible refine Kd.C_alloc ?_ _) | (with_reducible refine Kd.C_drewN ?_ _) | (with_reducible refine Kd.C_drew ?_)))
    (case side2 => exact HC0_4.out)
    (case side3 => repeat (first | exact (Kd.C_below HR0_6.out HB.out) | (with_reducible refine Kd.C_alloc ?_ _) | (with_reducible refine Kd.C_drewN ?_ _) | (with_reducible refine Kd.C_drew ?_)))
    (case side4 => exact HC0_6.out)
    rintro e w9 ⟨rfl, hb⟩
    refine ⟨_, rfl, ?_⟩
    have n0_ := Aside0.mk (blk_below (g := gb765) (o := .cells #[.int .i64 a0_0, .int .i64 a0_1, .int .i64 a0_2, .int .i64 a0_3, .slice A0_4 l0_4.length c0_4, .int .i64 a0_5, .slice A0_6 l0_6.length c0_6] 26 (0, 0)) (by (with_reducible repeat (first | refine blk_drewN ?_ _ | refine blk_drew ?_ | refine blk_alloc ?_ _)); exact BK765.out) hb)
    have n1_ := Aside0.mk (below_step (by repeat (first | (with_reducible first | exact HB.out | apply below_alloc | apply pw_below_drewN | apply below_drew1 | refine below_set ?_ GE765.out) | exact HB.out)) hb)
    clear BK765
    clear HB
    have BK765 := n0_
    have HB := n1_
    clear n0_ n1_
    (try clear hb)
    (try clear hb2)
    (try clear hk)
    (try clear hi)
    refine hK.out _ _ ⟨(blk_cell BK765.out 0).trans rfl, (blk_cell BK765.out 1).trans rfl, (blk_cell BK765.out 2).trans rfl, (blk_cell BK765.out 3).trans rfl, (blk_cell BK765.out 4).trans rfl, (blk_cell BK765.out 5).trans rfl, (blk_cell BK765.out 6).trans rfl⟩ (fun hHeld => ?_)
    clear hK K
    refine norm_ (a' := ?_) ?_ ?_
    rotate_left
    ·show Act.put _ (some 8) _ = _
     simp only [Act.put, List.setIfInBounds_toArray, List.set_cons_zero, List.set_cons_succ, i64_w]
     rfl
    refine pq_ 3 9 12 15 HT_.out (by kernel_rfl) ?_
    refine pq_ 4 10 12 31 HT_.out (by kernel_rfl) ?_
    refine pq_ 6 12 12 95 HT_.out (by kernel_rfl) ?_
    refine pq_ 8 14 12 351 HT_.out (by kernel_rfl) ?_
    refine tq_ 5 11 12 383 HT_.out HW_.out (by kernel_rfl) hHeld ?_ rfl (by rintro w' ⟨s0, s1, s2, s3, s4, s5, s6⟩; go_simp; with_reducible rfl)
    refine tq_ 9 15 12 895 HT_.out HW_.out (by kernel_rfl) hHeld ?_ rfl (by rintro w' ⟨s0, s1, s2, s3, s4, s5, s6⟩; go_simp; with_reducible rfl)
    refine one_ (i := 7) (N := some 13) (bsA 12 1023) rfl rfl (one_of HT_.out (by kernel_rfl)) (by decide) (fun K hK => ?_)
    refine goes_ Try.func70 (by kernel_rfl) rfl #[.agg #[.int .i64 a0_0, .int .i64 a0_1, .int .i64 a0_2, .int .i64 a0_3, .slice A0_4 l0_4.length c0_4, .int .i64 a0_5, .slice A0_6 l0_6.length c0_6], .int .i64 a1] (by rfl) rfl rfl (by (try simp only [List.map_toArray, List.map_cons, List.map_nil]); first | done | rfl | (simp only [List.length_drop, List.length_take]; rfl)) ?_
    with_reducible refine (spec_spBelow.calls k a0_0 a0_1 a0_2 a0_3 _ _ l0_4 a0_5 _ _ l0_6 a1 t767 _ ?side1 ?side2 ?side3 ?side4 A5.out).mono ?_
    (case side1 => repeat (first | exact (Kd.C_below HR0_4.out HB.out) | (with_reducible refine Kd.C_alloc ?_ _) | (with_reducible refine Kd.C_drewN ?_ _) | (with_reducible refine Kd.C_drew ?_)))
    (case side2 => exact HC0_4.out)
    (case side3 => repeat (first | exact (Kd.C_below HR0_6.out HB.out) | (with_reducible refine Kd.C_alloc ?_ _) | (with_reducible refine Kd.C_drewN ?_ _) | (with_reducible refine Kd.C_drew ?_)))
    (case side4 => exact HC0_6.out)
    rintro e w10 ⟨rfl, hb⟩
    refine ⟨_, rfl, ?_⟩
    have n0_ := Aside0.mk (blk_below (g := gb765) (o := .cells #[.int .i64 a0_0, .int .i64 a0_1, .int .i64 a0_2, .int .i64 a0_3, .slice A0_4 l0_4.length c0_4, .int .i64 a0_5, .slice A0_6 l0_6.length c0_6] 26 (0, 0)) (by (with_reducible repeat (first | refine blk_drewN ?_ _ | refine blk_drew ?_ | refine blk_alloc ?_ _)); exact BK765.out) hb)
    have n1_ := Aside0.mk (below_step (by repeat (first | (with_reducible first | exact HB.out | apply below_alloc | apply pw_below_drewN | apply below_drew1 | refine below_set ?_ GE765.out) | exact HB.out)) hb)
    clear BK765
    clear HB
    have BK765 := n0_
    have HB := n1_
    clear n0_ n1_
    (try clear hb)
    (try clear hb2)
    (try clear hk)
    (try clear hi)
    refine hK.out _ _ ⟨(blk_cell BK765.out 0).trans rfl, (blk_cell BK765.out 1).trans rfl, (blk_cell BK765.out 2).trans rfl, (blk_cell BK765.out 3).trans rfl, (blk_cell BK765.out 4).trans rfl, (blk_cell BK765.out 5).trans rfl, (blk_cell BK765.out 6).trans rfl⟩ (fun hHeld => ?_)
    clear hK K
    refine norm_ (a' := ?_) ?_ ?_
    rotate_left
    ·show Act.put _ (some 13) _ = _
     simp only [Act.put, List.setIfInBounds_toArray, List.set_cons_zero, List.set_cons_succ, i64_w]
     rfl
    refine pq_ 10 16 12 2047 HT_.out (by kernel_rfl) ?_
    refine pq_ 11 17 12 4095 HT_.out (by kernel_rfl) ?_
    refine done_ (done_of HT_.out (by kernel_rfl)) ?_
    try go_wp2
    go_ret2
    exact ⟨by first | rfl | (simp [errW_none, errW_some] <;> rfl) | (simp [*, errW_none, errW_some] <;> rfl), by repeat (first | (with_reducible first | exact HB.out | apply below_alloc | apply pw_below_drewN | apply below_drew1 | refine below_set ?_ GE765.out) | exact HB.out)⟩
   ·rw [if_neg c6] at H
    have c6b0 : (t767 == a0_0) = false := beq_eq_false_iff_ne.mpr c6
    have c6b1 : (t767 != a0_0) = true := bne_iff_ne.mpr c6
    replace H := Option.bind_eq_some_iff.mp H
    obtain ⟨t768, A110, H⟩ := H
    replace H : (some (t768, true)) = some (r1, r2) := H
    have A11 := Aside0.mk A110
    clear A110
    simp only [Option.some.injEq, Prod.mk.injEq] at H
    obtain ⟨rfl, rfl⟩ := H
    go_enter Try.func39, Try.ntmps39
    try go_wp2_with (first | ((with_reducible refine gate_dst (N := 2) rfl ?_); refine box_event ?hg (N := 2) ?hd (cs := #[.int .i64 a0_0, .int .i64 a0_1, .int .i64 a0_2, .int .i64 a0_3, .slice A0_4 l0_4.length c0_4, .int .i64 a0_5, .slice A0_6 l0_6.length c0_6]) (t := 26) ?hr ?_; (case hd => rfl); (case hg => rfl); (case hr => first | (go_simp; done) | (go_simp; rfl)); intro gb765 hg w12 hbox hb; have n0_ := Aside0.mk (below_step (by repeat (first | (with_reducible first | exact HB.out | apply below_alloc | apply pw_below_drewN | apply below_drew1) | exact HB.out)) hb); have n1_ := Aside0.mk (hbox); have n2_ := Aside0.mk ((by rw [hg]; exact (below_size (by repeat (first | (with_reducible first | exact HB.out | apply below_alloc | apply pw_below_drewN | apply below_drew1) | exact HB.out))) : w.heap.size ≤ gb765)); have n3_ := Aside0.mk ((by rw [hg]; exact (below_size (by repeat (first | (with_reducible first | exact HB.out | apply below_alloc | apply pw_below_drewN | apply below_drew1) | exact HB.out))) : w.heap.size ≤ gb765)); clear HB; have HB := n0_; have BK765 := n1_; have GW765 := n2_; have GE765 := n3_; clear n0_ n1_ n2_ n3_; clear hb hbox hg))
    have n0_ := Aside0.mk (blk_drew BK765.out)
    have n1_ := Aside0.mk (below_drew1 HB.out)
    clear BK765
    clear HB
    have BK765 := n0_
    have HB := n1_
    clear n0_ n1_
    refine start_ (n := 12) (S := fun w' => w'.cell? ⟨gb765, 0, none⟩ = some (.int .i64 a0_0) ∧ w'.cell? ⟨gb765, 1, none⟩ = some (.int .i64 a0_1) ∧ w'.cell? ⟨gb765, 2, none⟩ = some (.int .i64 a0_2) ∧ w'.cell? ⟨gb765, 3, none⟩ = some (.int .i64 a0_3) ∧ w'.cell? ⟨gb765, 4, none⟩ = some (.slice A0_4 l0_4.length c0_4) ∧ w'.cell? ⟨gb765, 5, none⟩ = some (.int .i64 a0_5) ∧ w'.cell? ⟨gb765, 6, none⟩ = some (.slice A0_6 l0_6.length c0_6)) (ds := []) #[false, false, false, false, false, false, false, false, false, false, false, false] (by kernel_rfl) rfl rfl ⟨(blk_cell BK765.out 0).trans rfl, (blk_cell BK765.out 1).trans rfl, (blk_cell BK765.out 2).trans rfl, (blk_cell BK765.out 3).trans rfl, (blk_cell BK765.out 4).trans rfl, (blk_cell BK765.out 5).trans rfl, (blk_cell BK765.out 6).trans rfl⟩ (fun hHeld => ?_); refine with_tabW spec_FirstAtLeast.tab1 spec_FirstAtLeast.bits1 (fun HT_ HW_ => ?_)
    generalize w12.drew = w13 at BK765 HB hHeld ⊢
    refine pq_ 1 7 12 2 HT_.out (by kernel_rfl) ?_
    refine tq_ 0 6 12 3 HT_.out HW_.out (by kernel_rfl) hHeld ?_ rfl (by rintro w' ⟨s0, s1, s2, s3, s4, s5, s6⟩; go_simp; with_reducible rfl)
    refine one_ (i := 2) (N := some 8) (bsA 12 7) rfl rfl (one_of HT_.out (by kernel_rfl)) (by decide) (fun K hK => ?_)
    refine goes_ Try.func67 (by kernel_rfl) rfl #[.agg #[.int .i64 a0_0, .int .i64 a0_1, .int .i64 a0_2, .int .i64 a0_3, .slice A0_4 l0_4.length c0_4, .int .i64 a0_5, .slice A0_6 l0_6.length c0_6], .int .i64 a1] (by rfl) rfl rfl (by (try simp only [List.map_toArray, List.map_cons, List.map_nil]); first | done | rfl | (simp only [List.length_drop, List.length_take]; rfl)) ?_
    with_reducible refine (spec_spAsked.calls k a0_0 a0_1 a0_2 a0_3 _ _ l0_4 a0_5 _ _ l0_6 a1 true _ ?side1 ?side2 ?side3 ?side4 A3.out).mono ?_
    (case side1 => repeat (first | exact (Kd.C_below HR0_4.out HB.out) | (with_reducible refine Kd.C_alloc ?_ _) | (with_reducible refine Kd.C_drewN ?_ _) | (with_reducible refine Kd.C_drew ?_)))
    (case side2 => exact HC0_4.out)
    (case side3 => repeat (first | exact (Kd.C_below HR0_6.out HB.out) | (with_reducible refine Kd.C_alloc ?_ _) | (with_reducible refine Kd.C_drewN ?_ _) | (with_reducible refine Kd.C_drew ?_)))
    (case side4 => exact HC0_6.out)
    rintro e w14 ⟨rfl, hb⟩
    refine ⟨_, rfl, ?_⟩
    have n0_ := Aside0.mk (blk_below (g := gb765) (o := .cells #[.int .i64 a0_0, .int .i64 a0_1, .int .i64 a0_2, .int .i64 a0_3, .slice A0_4 l0_4.length c0_4, .int .i64 a0_5, .slice A0_6 l0_6.length c0_6] 26 (0, 0)) (by (with_reducible repeat (first | refine blk_drewN ?_ _ | refine blk_drew ?_ | refine blk_alloc ?_ _)); exact BK765.out) hb)
    have n1_ := Aside0.mk (below_step (by repeat (first | (with_reducible first | exact HB.out | apply below_alloc | apply pw_below_drewN | apply below_drew1 | refine below_set ?_ GE765.out) | exact HB.out)) hb)
    clear BK765
    clear HB
    have BK765 := n0_
    have HB := n1_
    clear n0_ n1_
    (try clear hb)
    (try clear hb2)
    (try clear hk)
    (try clear hi)
    refine hK.out _ _ ⟨(blk_cell BK765.out 0).trans rfl, (blk_cell BK765.out 1).trans rfl, (blk_cell BK765.out 2).trans rfl, (blk_cell BK765.out 3).trans rfl, (blk_cell BK765.out 4).trans rfl, (blk_cell BK765.out 5).trans rfl, (blk_cell BK765.out 6).trans rfl⟩ (fun hHeld => ?_)
    clear hK K
    refine norm_ (a' := ?_) ?_ ?_
    rotate_left
    ·show Act.put _ (some 8) _ = _
     simp only [Act.put, List.setIfInBounds_toArray, List.set_cons_zero, List.set_cons_succ, i64_w]
     rfl
    refine pq_ 3 9 12 15 HT_.out (by kernel_rfl) ?_
    refine pq_ 4 10 12 31 HT_.out (by kernel_rfl) ?_
    refine pq_ 6 12 12 95 HT_.out (by kernel_rfl) ?_
    refine pq_ 8 14 12 351 HT_.out (by kernel_rfl) ?_
    refine tq_ 5 11 12 383 HT_.out HW_.out (by kernel_rfl) hHeld ?_ rfl (by rintro w' ⟨s0, s1, s2, s3, s4, s5, s6⟩; go_simp; with_reducible rfl)
    refine tq_ 9 15 12 895 HT_.out HW_.out (by kernel_rfl) hHeld ?_ rfl (by rintro w' ⟨s0, s1, s2, s3, s4, s5, s6⟩; go_simp; with_reducible rfl)
    refine one_ (i := 7) (N := some 13) (bsA 12 1023) rfl rfl (one_of HT_.out (by kernel_rfl)) (by decide) (fun K hK => ?_)
    refine goes_ Try.func70 (by kernel_rfl) rfl #[.agg #[.int .i64 a0_0, .int .i64 a0_1, .int .i64 a0_2, .int .i64 a0_3, .slice A0_4 l0_4.length c0_4, .int .i64 a0_5, .slice A0_6 l0_6.length c0_6], .int .i64 a1] (by rfl) rfl rfl (by (try simp only [List.map_toArray, List.map_cons, List.map_nil]); first | done | rfl | (simp only [List.length_drop, List.length_take]; rfl)) ?_
    with_reducible refine (spec_spBelow.calls k a0_0 a0_1 a0_2 a0_3 _ _ l0_4 a0_5 _ _ l0_6 a1 t767 _ ?side1 ?side2 ?side3 ?side4 A5.out).mono ?_
    (case side1 => repeat (first | exact (Kd.C_below HR0_4.out HB.out) | (with_reducible refine Kd.C_alloc ?_ _) | (with_reducible refine Kd.C_drewN ?_ _) | (with_reducible refine Kd.C_drew ?_)))
    (case side2 => exact HC0_4.out)
    (case side3 => repeat (first | exact (Kd.C_below HR0_6.out HB.out) | (with_reducible refine Kd.C_alloc ?_ _) | (with_reducible refine Kd.C_drewN ?_ _) | (with_reducible refine Kd.C_drew ?_)))
    (case side4 => exact HC0_6.out)
    rintro e w15 ⟨rfl, hb⟩
    refine ⟨_, rfl, ?_⟩
    have n0_ := Aside0.mk (blk_below (g := gb765) (o := .cells #[.int .i64 a0_0, .int .i64 a0_1, .int .i64 a0_2, .int .i64 a0_3, .slice A0_4 l0_4.length c0_4, .int .i64 a0_5, .slice A0_6 l0_6.length c0_6] 26 (0, 0)) (by (with_reducible repeat (first | refine blk_drewN ?_ _ | refine blk_drew ?_ | refine blk_alloc ?_ _)); exact BK765.out) hb)
    have n1_ := Aside0.mk (below_step (by repeat (first | (with_reducible first | exact HB.out | apply below_alloc | apply pw_below_drewN | apply below_drew1 | refine below_set ?_ GE765.out) | exact HB.out)) hb)
    clear BK765
    clear HB
    have BK765 := n0_
    have HB := n1_
    clear n0_ n1_
    (try clear hb)
    (try clear hb2)
    (try clear hk)
    (try clear hi)
    refine hK.out _ _ ⟨(blk_cell BK765.out 0).trans rfl, (blk_cell BK765.out 1).trans rfl, (blk_cell BK765.out 2).trans rfl, (blk_cell BK765.out 3).trans rfl, (blk_cell BK765.out 4).trans rfl, (blk_cell BK765.out 5).trans rfl, (blk_cell BK765.out 6).trans rfl⟩ (fun hHeld => ?_)
    clear hK K
    refine norm_ (a' := ?_) ?_ ?_
    rotate_left
    ·show Act.put _ (some 13) _ = _
     simp only [Act.put, List.setIfInBounds_toArray, List.set_cons_zero, List.set_cons_succ, i64_w]
     rfl
    refine pq_ 10 16 12 2047 HT_.out (by kernel_rfl) ?_
    refine pq_ 11 17 12 4095 HT_.out (by kernel_rfl) ?_
    refine done_ (done_of HT_.out (by kernel_rfl)) ?_
    have hcz16_0 : w15.cell? ⟨gb765, 0, none⟩ = some (.int .i64 a0_0) := (blk_cell BK765.out 0).trans rfl
    have hcz16_1 : w15.cell? ⟨gb765, 1, none⟩ = some (.int .i64 a0_1) := (blk_cell BK765.out 1).trans rfl
    have hcz16_2 : w15.cell? ⟨gb765, 2, none⟩ = some (.int .i64 a0_2) := (blk_cell BK765.out 2).trans rfl
    have hcz16_3 : w15.cell? ⟨gb765, 3, none⟩ = some (.int .i64 a0_3) := (blk_cell BK765.out 3).trans rfl
    have hcz16_4 : w15.cell? ⟨gb765, 4, none⟩ = some (.slice A0_4 l0_4.length c0_4) := (blk_cell BK765.out 4).trans rfl
    have hcz16_5 : w15.cell? ⟨gb765, 5, none⟩ = some (.int .i64 a0_5) := (blk_cell BK765.out 5).trans rfl
    have hcz16_6 : w15.cell? ⟨gb765, 6, none⟩ = some (.slice A0_6 l0_6.length c0_6) := (blk_cell BK765.out 6).trans rfl
    have hfz16_0 := blk_frozen BK765.out 0
    have hfz16_1 := blk_frozen BK765.out 1
    have hfz16_2 := blk_frozen BK765.out 2
    have hfz16_3 := blk_frozen BK765.out 3
    have hfz16_4 := blk_frozen BK765.out 4
    have hfz16_5 := blk_frozen BK765.out 5
    have hfz16_6 := blk_frozen BK765.out 6
    try go_wp2_with (first | ((with_reducible refine gate_callee (f := 70) rfl ?_); refine goesL_ (some 20) rfl rfl Try.func70 (by kernel_rfl) rfl #[.agg #[.int .i64 a0_0, .int .i64 a0_1, .int .i64 a0_2, .int .i64 a0_3, .slice A0_4 l0_4.length c0_4, .int .i64 a0_5, .slice A0_6 l0_6.length c0_6], .int .i64 a1] rfl (by (try simp only [List.map_toArray, List.map_cons, List.map_nil]); first | done | rfl | (simp only [List.length_drop, List.length_take]; rfl)) ?_; (with_reducible refine (spec_spBelow.calls k a0_0 a0_1 a0_2 a0_3 _ _ l0_4 a0_5 _ _ l0_6 a1 t768 _ ?side1 ?side2 ?side3 ?side4 A11.out).mono ?_); (case side1 => repeat (first | exact (Kd.C_below HR0_4.out HB.out) | (with_reducible refine Kd.C_alloc ?_ _) | (with_reducible refine Kd.C_drewN ?_ _) | (with_reducible refine Kd.C_drew ?_))); (case side2 => exact HC0_4.out); (case side3 => repeat (first | exact (Kd.C_below HR0_6.out HB.out) | (with_reducible refine Kd.C_alloc ?_ _) | (with_reducible refine Kd.C_drewN ?_ _) | (with_reducible refine Kd.C_drew ?_))); (case side4 => exact HC0_6.out); rintro e w17 ⟨rfl, hb⟩; refine ⟨_, rfl, ?_⟩; have n0_ := Aside0.mk (blk_below (g := gb765) (o := .cells #[.int .i64 a0_0, .int .i64 a0_1, .int .i64 a0_2, .int .i64 a0_3, .slice A0_4 l0_4.length c0_4, .int .i64 a0_5, .slice A0_6 l0_6.length c0_6] 26 (0, 0)) (by (with_reducible repeat (first | refine blk_drewN ?_ _ | refine blk_drew ?_ | refine blk_alloc ?_ _)); exact BK765.out) hb); have n1_ := Aside0.mk (below_step (by repeat (first | (with_reducible first | exact HB.out | apply below_alloc | apply pw_below_drewN | apply below_drew1 | refine below_set ?_ GE765.out) | exact HB.out)) hb); clear BK765; clear HB; have BK765 := n0_; have HB := n1_; clear n0_ n1_; (try clear hb); (try clear hb2); (try clear hk); (try clear hi)))
    go_ret2
    exact ⟨by first | rfl | (simp [errW_none, errW_some] <;> rfl) | (simp [*, errW_none, errW_some] <;> rfl), by repeat (first | (with_reducible first | exact HB.out | apply below_alloc | apply pw_below_drewN | apply below_drew1 | refine below_set ?_ GE765.out) | exact HB.out)⟩
  ·replace c4 := Bool.eq_false_iff.mpr c4
   subst c4
   have H1 : (some (0, false)) = some (r1, r2) := by rw [if_neg (show ¬ (false = true) by decide)] at H; exact H
   clear H
   have H := H1
   clear H1
   simp only [Option.some.injEq, Prod.mk.injEq] at H
   obtain ⟨rfl, rfl⟩ := H
   go_enter Try.func39, Try.ntmps39
   try go_wp2_with (first | ((with_reducible refine gate_dst (N := 2) rfl ?_); refine box_event ?hg (N := 2) ?hd (cs := #[.int .i64 a0_0, .int .i64 a0_1, .int .i64 a0_2, .int .i64 a0_3, .slice A0_4 l0_4.length c0_4, .int .i64 a0_5, .slice A0_6 l0_6.length c0_6]) (t := 26) ?hr ?_; (case hd => rfl); (case hg => rfl); (case hr => first | (go_simp; done) | (go_simp; rfl)); intro gb765 hg w18 hbox hb; have n0_ := Aside0.mk (below_step (by repeat (first | (with_reducible first | exact HB.out | apply below_alloc | apply pw_below_drewN | apply below_drew1) | exact HB.out)) hb); have n1_ := Aside0.mk (hbox); have n2_ := Aside0.mk ((by rw [hg]; exact (below_size (by repeat (first | (with_reducible first | exact HB.out | apply below_alloc | apply pw_below_drewN | apply below_drew1) | exact HB.out))) : w.heap.size ≤ gb765)); have n3_ := Aside0.mk ((by rw [hg]; exact (below_size (by repeat (first | (with_reducible first | exact HB.out | apply below_alloc | apply pw_below_drewN | apply below_drew1) | exact HB.out))) : w.heap.size ≤ gb765)); clear HB; have HB := n0_; have BK765 := n1_; have GW765 := n2_; have GE765 := n3_; clear n0_ n1_ n2_ n3_; clear hb hbox hg))
   have n0_ := Aside0.mk (blk_drew BK765.out)
   have n1_ := Aside0.mk (below_drew1 HB.out)
   clear BK765
   clear HB
   have BK765 := n0_
   have HB := n1_
   clear n0_ n1_
   refine start_ (n := 12) (S := fun w' => w'.cell? ⟨gb765, 0, none⟩ = some (.int .i64 a0_0) ∧ w'.cell? ⟨gb765, 1, none⟩ = some (.int .i64 a0_1) ∧ w'.cell? ⟨gb765, 2, none⟩ = some (.int .i64 a0_2) ∧ w'.cell? ⟨gb765, 3, none⟩ = some (.int .i64 a0_3) ∧ w'.cell? ⟨gb765, 4, none⟩ = some (.slice A0_4 l0_4.length c0_4) ∧ w'.cell? ⟨gb765, 5, none⟩ = some (.int .i64 a0_5) ∧ w'.cell? ⟨gb765, 6, none⟩ = some (.slice A0_6 l0_6.length c0_6)) (ds := []) #[false, false, false, false, false, false, false, false, false, false, false, false] (by kernel_rfl) rfl rfl ⟨(blk_cell BK765.out 0).trans rfl, (blk_cell BK765.out 1).trans rfl, (blk_cell BK765.out 2).trans rfl, (blk_cell BK765.out 3).trans rfl, (blk_cell BK765.out 4).trans rfl, (blk_cell BK765.out 5).trans rfl, (blk_cell BK765.out 6).trans rfl⟩ (fun hHeld => ?_); refine with_tabW spec_FirstAtLeast.tab1 spec_FirstAtLeast.bits1 (fun HT_ HW_ => ?_)
   generalize w18.drew = w19 at BK765 HB hHeld ⊢
   refine pq_ 1 7 12 2 HT_.out (by kernel_rfl) ?_
   refine tq_ 0 6 12 3 HT_.out HW_.out (by kernel_rfl) hHeld ?_ rfl (by rintro w' ⟨s0, s1, s2, s3, s4, s5, s6⟩; go_simp; with_reducible rfl)
   refine one_ (i := 2) (N := some 8) (bsA 12 7) rfl rfl (one_of HT_.out (by kernel_rfl)) (by decide) (fun K hK => ?_)
   refine goes_ Try.func67 (by kernel_rfl) rfl #[.agg #[.int .i64 a0_0, .int .i64 a0_1, .int .i64 a0_2, .int .i64 a0_3, .slice A0_4 l0_4.length c0_4, .int .i64 a0_5, .slice A0_6 l0_6.length c0_6], .int .i64 a1] (by rfl) rfl rfl (by (try simp only [List.map_toArray, List.map_cons, List.map_nil]); first | done | rfl | (simp only [List.length_drop, List.length_take]; rfl)) ?_
   with_reducible refine (spec_spAsked.calls k a0_0 a0_1 a0_2 a0_3 _ _ l0_4 a0_5 _ _ l0_6 a1 false _ ?side1 ?side2 ?side3 ?side4 A3.out).mono ?_
   (case side1 => repeat (first | exact (Kd.C_below HR0_4.out HB.out) | (with_reducible refine Kd.C_alloc ?_ _) | (with_reducible refine Kd.C_drewN ?_ _) | (with_reducible refine Kd.C_drew ?_)))
   (case side2 => exact HC0_4.out)
   (case side3 => repeat (first | exact (Kd.C_below HR0_6.out HB.out) | (with_reducible refine Kd.C_alloc ?_ _) | (with_reducible refine Kd.C_drewN ?_ _) | (with_reducible refine Kd.C_drew ?_)))
   (case side4 => exact HC0_6.out)
   rintro e w20 ⟨rfl, hb⟩
   refine ⟨_, rfl, ?_⟩
   have n0_ := Aside0.mk (blk_below (g := gb765) (o := .cells #[.int .i64 a0_0, .int .i64 a0_1, .int .i64 a0_2, .int .i64 a0_3, .slice A0_4 l0_4.length c0_4, .int .i64 a0_5, .slice A0_6 l0_6.length c0_6] 26 (0, 0)) (by (with_reducible repeat (first | refine blk_drewN ?_ _ | refine blk_drew ?_ | refine blk_alloc ?_ _)); exact BK765.out) hb)
   have n1_ := Aside0.mk (below_step (by repeat (first | (with_reducible first | exact HB.out | apply below_alloc | apply pw_below_drewN | apply below_drew1 | refine below_set ?_ GE765.out) | exact HB.out)) hb)
   clear BK765
   clear HB
   have BK765 := n0_
   have HB := n1_
   clear n0_ n1_
   (try clear hb)
   (try clear hb2)
   (try clear hk)
   (try clear hi)
   refine hK.out _ _ ⟨(blk_cell BK765.out 0).trans rfl, (blk_cell BK765.out 1).trans rfl, (blk_cell BK765.out 2).trans rfl, (blk_cell BK765.out 3).trans rfl, (blk_cell BK765.out 4).trans rfl, (blk_cell BK765.out 5).trans rfl, (blk_cell BK765.out 6).trans rfl⟩ (fun hHeld => ?_)
   clear hK K
   refine norm_ (a' := ?_) ?_ ?_
   rotate_left
   ·show Act.put _ (some 8) _ = _
    simp only [Act.put, List.setIfInBounds_toArray, List.set_cons_zero, List.set_cons_succ, i64_w]
    rfl
   refine pq_ 3 9 12 15 HT_.out (by kernel_rfl) ?_
   refine pq_ 4 10 12 31 HT_.out (by kernel_rfl) ?_
   refine uq_ 5 11 12 63 HT_.out (by kernel_rfl) ?_
   refine uq_ 6 12 12 127 HT_.out (by kernel_rfl) ?_
   refine uq_ 7 13 12 255 HT_.out (by kernel_rfl) ?_
   refine uq_ 8 14 12 511 HT_.out (by kernel_rfl) ?_
   refine uq_ 9 15 12 1023 HT_.out (by kernel_rfl) ?_
   refine uq_ 10 16 12 2047 HT_.out (by kernel_rfl) ?_
   refine pq_ 11 17 12 4095 HT_.out (by kernel_rfl) ?_
   refine done_ (done_of HT_.out (by kernel_rfl)) ?_
   try go_wp2
   go_ret2
   exact ⟨by first | rfl | (simp [errW_none, errW_some] <;> rfl) | (simp [*, errW_none, errW_some] <;> rfl), by repeat (first | (with_reducible first | exact HB.out | apply below_alloc | apply pw_below_drewN | apply below_drew1 | refine below_set ?_ GE765.out) | exact HB.out)⟩
/-! ### impl_FirstAtLeast: function 40 -/
def impl_FirstAtLeast.f (k : Nat) (a0_0 : Int) (a0_1 : Int) (a0_2 : Int) (a0_3 : Int) (l0_4 : List Int) (a0_5 : Int) (l0_6 : List Int) (a1 : Int) : Option (Int × Bool) := (impl_Sparse_numbers.f k a0_0 a0_1 a0_2 a0_3 l0_4 a0_5 l0_6).bind fun bt770 => (if bt770.2 = true then ((impl_in.f a1 0 (wrap64 (a0_1 - 1))).bind fun t774 => (if t774 = true then ((impl_below.f k bt770.1 a1).bind fun t775 => (if t775 = (bt770.1.length : Int) then (some (0, false)) else ((impl_below.f k bt770.1 a1).bind fun t776 => (some (t776, true))))) else (some (0, false)))) else (some (0, false)))
theorem impl_FirstAtLeast.mono : ∀ a0 a1 a2 a3 a4 a5 a6 a7 k, LeO (impl_FirstAtLeast.f k a0 a1 a2 a3 a4 a5 a6 a7) (impl_FirstAtLeast.f (k + 1) a0 a1 a2 a3 a4 a5 a6 a7) := by
  intro a0 a1 a2 a3 a4 a5 a6 a7 k
  unfold impl_FirstAtLeast.f
  repeat' first
      | (with_reducible exact impl_Sparse_numbers.mono _ _ _ _ _ _ _ _)
      | (with_reducible exact impl_below.mono _ _ _)
      | (with_reducible exact LeO.refl _)
      | (with_reducible exact LeO.none _)
      | (with_reducible refine LeO.ite ?_ ?_)
      | (with_reducible refine LeO.bind ?_ (fun _ => ?_))
      | exact impl_Sparse_numbers.mono _ _ _ _ _ _ _ _
      | exact impl_below.mono _ _ _
      | exact LeO.none _
      | refine LeO.ite ?_ ?_
      | refine LeO.bind ?_ (fun _ => ?_)
noncomputable def impl_FirstAtLeast.F (a0_0 : Int) (a0_1 : Int) (a0_2 : Int) (a0_3 : Int) (l0_4 : List Int) (a0_5 : Int) (l0_6 : List Int) (a1 : Int) : Option (Int × Bool) := lim fun k => impl_FirstAtLeast.f k a0_0 a0_1 a0_2 a0_3 l0_4 a0_5 l0_6 a1
theorem impl_FirstAtLeast.F_sup (a0_0 : Int) (a0_1 : Int) (a0_2 : Int) (a0_3 : Int) (l0_4 : List Int) (a0_5 : Int) (l0_6 : List Int) (a1 : Int) : Sup (fun k => impl_FirstAtLeast.f k a0_0 a0_1 a0_2 a0_3 l0_4 a0_5 l0_6 a1) (impl_FirstAtLeast.F a0_0 a0_1 a0_2 a0_3 l0_4 a0_5 l0_6 a1) := Sup.of_mono fun k => impl_FirstAtLeast.mono a0_0 a0_1 a0_2 a0_3 l0_4 a0_5 l0_6 a1 k
theorem impl_FirstAtLeast.F_eq (a0_0 : Int) (a0_1 : Int) (a0_2 : Int) (a0_3 : Int) (l0_4 : List Int) (a0_5 : Int) (l0_6 : List Int) (a1 : Int) : impl_FirstAtLeast.F a0_0 a0_1 a0_2 a0_3 l0_4 a0_5 l0_6 a1 = (impl_Sparse_numbers.F a0_0 a0_1 a0_2 a0_3 l0_4 a0_5 l0_6).bind fun bt770 => (if bt770.2 = true then ((impl_in.f a1 0 (wrap64 (a0_1 - 1))).bind fun t774 => (if t774 = true then ((impl_below.F bt770.1 a1).bind fun t775 => (if t775 = (bt770.1.length : Int) then (some (0, false)) else ((impl_below.F bt770.1 a1).bind fun t776 => (some (t776, true))))) else (some (0, false)))) else (some (0, false))) := by
  refine Sup.unique (impl_FirstAtLeast.F_sup a0_0 a0_1 a0_2 a0_3 l0_4 a0_5 l0_6 a1) (Sup.congr (g' := fun k => (impl_Sparse_numbers.f k a0_0 a0_1 a0_2 a0_3 l0_4 a0_5 l0_6).bind fun bt770 => (if bt770.2 = true then ((impl_in.f a1 0 (wrap64 (a0_1 - 1))).bind fun t774 => (if t774 = true then ((impl_below.f k bt770.1 a1).bind fun t775 => (if t775 = (bt770.1.length : Int) then (some (0, false)) else ((impl_below.f k bt770.1 a1).bind fun t776 => (some (t776, true))))) else (some (0, false)))) else (some (0, false)))) (fun k => by first | rfl | simp only [impl_FirstAtLeast.f]) ?_)
  repeat' first
    | (with_reducible exact impl_Sparse_numbers.F_sup _ _ _ _ _ _ _)
    | (with_reducible exact impl_below.F_sup _ _)
    | (with_reducible refine Sup.ite ?_ ?_)
    | (with_reducible refine Sup.bind ?_ (fun _ => ?_))
    | (with_reducible exact Sup.const _)
    | exact impl_Sparse_numbers.F_sup _ _ _ _ _ _ _
    | exact impl_below.F_sup _ _
    | exact Sup.const _
set_option maxHeartbeats 8000000 in
set_option maxRecDepth 100000 in
theorem impl_FirstAtLeast.calls (k : Nat) (a0_0 : Int) (a0_1 : Int) (a0_2 : Int) (a0_3 : Int) (A0_4 : Option Addr) (c0_4 : Nat) (l0_4 : List Int) (a0_5 : Int) (A0_6 : Option Addr) (c0_6 : Nat) (l0_6 : List Int) (a1 : Int) (r1 : Int) (r2 : Bool) (w : World) (hr0_4 : Kd.C (Kd.int .i64) w A0_4 l0_4.length l0_4) (hc0_4 : l0_4.length ≤ c0_4) (hr0_6 : Kd.C (Kd.int .i64) w A0_6 l0_6.length l0_6) (hc0_6 : l0_6.length ≤ c0_6) (h : impl_FirstAtLeast.f k a0_0 a0_1 a0_2 a0_3 l0_4 a0_5 l0_6 a1 = some (r1, r2)) :
    Calls Try.prog 40 #[.agg #[.int .i64 a0_0, .int .i64 a0_1, .int .i64 a0_2, .int .i64 a0_3, .slice A0_4 l0_4.length c0_4, .int .i64 a0_5, .slice A0_6 l0_6.length c0_6], .int .i64 a1] w fun e w' => e = .returned (.tuple #[.int .i64 r1, .bool r2]) ∧ Below w.heap.size w w' := by
  have hu26 := Try.underlying26
  have HR0_4 := Aside0.mk hr0_4
  have HC0_4 := Aside0.mk hc0_4
  clear hr0_4 hc0_4
  have HR0_6 := Aside0.mk hr0_6
  have HC0_6 := Aside0.mk hc0_6
  clear hr0_6 hc0_6
  have HB := Aside0.mk (Below.refl w.heap.size w)
  have H : ((impl_Sparse_numbers.f k a0_0 a0_1 a0_2 a0_3 l0_4 a0_5 l0_6).bind fun bt770 => (if bt770.2 = true then ((impl_in.f a1 0 (wrap64 (a0_1 - 1))).bind fun t774 => (if t774 = true then ((impl_below.f k bt770.1 a1).bind fun t775 => (if t775 = (bt770.1.length : Int) then (some (0, false)) else ((impl_below.f k bt770.1 a1).bind fun t776 => (some (t776, true))))) else (some (0, false)))) else (some (0, false)))) = some (r1, r2) := h
  clear h
  replace H := Option.bind_eq_some_iff.mp H
  obtain ⟨⟨t770, t773⟩, A30, H⟩ := H
  replace H : (if t773 = true then ((impl_in.f a1 0 (wrap64 (a0_1 - 1))).bind fun t774 => (if t774 = true then ((impl_below.f k t770 a1).bind fun t775 => (if t775 = (t770.length : Int) then (some (0, false)) else ((impl_below.f k t770 a1).bind fun t776 => (some (t776, true))))) else (some (0, false)))) else (some (0, false))) = some (r1, r2) := H
  have A3 := Aside0.mk A30
  clear A30
  by_cases c4 : t773 = true
  ·subst c4
   have H1 : ((impl_in.f a1 0 (wrap64 (a0_1 - 1))).bind fun t774 => (if t774 = true then ((impl_below.f k t770 a1).bind fun t775 => (if t775 = (t770.length : Int) then (some (0, false)) else ((impl_below.f k t770 a1).bind fun t776 => (some (t776, true))))) else (some (0, false)))) = some (r1, r2) := by rw [if_pos rfl] at H; exact H
   clear H
   have H := H1
   clear H1
   replace H := Option.bind_eq_some_iff.mp H
   obtain ⟨t774, A50, H⟩ := H
   replace H : (if t774 = true then ((impl_below.f k t770 a1).bind fun t775 => (if t775 = (t770.length : Int) then (some (0, false)) else ((impl_below.f k t770 a1).bind fun t776 => (some (t776, true))))) else (some (0, false))) = some (r1, r2) := H
   have A5 := Aside0.mk A50
   clear A50
   by_cases c6 : t774 = true
   ·subst c6
    have H1 : ((impl_below.f k t770 a1).bind fun t775 => (if t775 = (t770.length : Int) then (some (0, false)) else ((impl_below.f k t770 a1).bind fun t776 => (some (t776, true))))) = some (r1, r2) := by rw [if_pos rfl] at H; exact H
    clear H
    have H := H1
    clear H1
    replace H := Option.bind_eq_some_iff.mp H
    obtain ⟨t775, A70, H⟩ := H
    replace H : (if t775 = (t770.length : Int) then (some (0, false)) else ((impl_below.f k t770 a1).bind fun t776 => (some (t776, true)))) = some (r1, r2) := H
    have A7 := Aside0.mk A70
    clear A70
    by_cases c8 : t775 = (t770.length : Int)
    ·rw [if_pos c8] at H
     have c8b0 : (t775 == (t770.length : Int)) = true := beq_iff_eq.mpr c8
     have c8b1 : (t775 != (t770.length : Int)) = false := bne_eq_false_iff_eq.mpr c8
     clear c8
     simp only [Option.some.injEq, Prod.mk.injEq] at H
     obtain ⟨rfl, rfl⟩ := H
     go_enter Try.func40, Try.ntmps40
     go_wp2_with (first | ((with_reducible refine gate_dst (N := 2) rfl ?_); (try (refine gate_guard (by rfl) ?_; dsimp only)); refine box_event ?hg (N := 2) ?hd (cs := #[.int .i64 a0_0, .int .i64 a0_1, .int .i64 a0_2, .int .i64 a0_3, .slice A0_4 l0_4.length c0_4, .int .i64 a0_5, .slice A0_6 l0_6.length c0_6]) (t := 26) ?hr ?_; (case hd => rfl); (case hg => rfl); (case hr => first | (go_simp; done) | (go_simp; rfl)); intro gb769 hg w9 hbox hb; have n0_ := Aside0.mk (below_step (by repeat (first | (with_reducible first | exact HB.out | apply below_alloc | apply pw_below_drewN | apply below_drew1) | exact HB.out)) hb); have n1_ := Aside0.mk (hbox); have n2_ := Aside0.mk ((by rw [hg]; exact (below_size (by repeat (first | (with_reducible first | exact HB.out | apply below_alloc | apply pw_below_drewN | apply below_drew1) | exact HB.out))) : w.heap.size ≤ gb769)); have n3_ := Aside0.mk ((by rw [hg]; exact (below_size (by repeat (first | (with_reducible first | exact HB.out | apply below_alloc | apply pw_below_drewN | apply below_drew1) | exact HB.out))) : w.heap.size ≤ gb769)); clear HB; have HB := n0_; have BK769 := n1_; have GW769 := n2_; have GE769 := n3_; clear n0_ n1_ n2_ n3_; clear hb hbox hg) | ((with_reducible refine gate_callee (f := 63) rfl ?_); refine goesL_ (some 9) rfl rfl Try.func63 (by kernel_rfl) rfl #[.pointer (some ⟨gb769, 0, none⟩)] rfl (by (try simp only [List.map_toArray, List.map_cons, List.map_nil]); first | done | rfl | (simp only [List.length_drop, List.length_take]; rfl)) ?_; (with_reducible refine (impl_Sparse_numbers.calls k gb769 a0_0 a0_1 a0_2 a0_3 A0_4 c0_4 l0_4 a0_5 A0_6 c0_6 l0_6 t770 true _ ?side1 ?side2 ?side3 ?side4 ?side5 A3.out).mono ?_); (case side1 => repeat (first | exact (Kd.C_below HR0_4.out HB.out) | (with_reducible refine Kd.C_alloc ?_ _) | (with_reducible refine Kd.C_drewN ?_ _) | (with_reducible refine Kd.C_drew ?_))); (case side2 => exact HC0_4.out); (case side3 => repeat (first | exact (Kd.C_below HR0_6.out HB.out) | (with_reducible refine Kd.C_alloc ?_ _) | (with_reducible refine Kd.C_drewN ?_ _) | (with_reducible refine Kd.C_drew ?_))); (case side4 => exact HC0_6.out); (case side5 => exact (by (with_reducible repeat (first | refine blk_drewN ?_ _ | refine blk_drew ?_ | refine blk_alloc ?_ _)); exact BK769.out)); rintro e w10 ⟨v771, rfl, ho0, hb⟩; refine ⟨_, rfl, ?_⟩; have n0_ := Aside0.mk (Kd.R_lower ho0 (below_size (by repeat (first | (with_reducible first | exact HB.out | apply below_alloc | apply pw_below_drewN | apply below_drew1 | refine below_set ?_ GE769.out) | exact HB.out)))); have n1_ := Aside0.mk (blk_below (g := gb769) (o := .cells #[.int .i64 a0_0, .int .i64 a0_1, .int .i64 a0_2, .int .i64 a0_3, .slice A0_4 l0_4.length c0_4, .int .i64 a0_5, .slice A0_6 l0_6.length c0_6] 26 (0, 0)) (by (with_reducible repeat (first | refine blk_drewN ?_ _ | refine blk_drew ?_ | refine blk_alloc ?_ _)); exact BK769.out) hb); have n2_ := Aside0.mk (below_step (by repeat (first | (with_reducible first | exact HB.out | apply below_alloc | apply pw_below_drewN | apply below_drew1 | refine below_set ?_ GE769.out) | exact HB.out)) hb); clear BK769; clear HB; have HO772 := n0_; have BK769 := n1_; have HB := n2_; clear n0_ n1_ n2_; (try clear hb); (try clear hb2); (try clear hk); (try clear hi); (try clear ho0); have hcz11_0 : w10.cell? ⟨gb769, 0, none⟩ = some (.int .i64 a0_0) := (blk_cell BK769.out 0).trans rfl; have hcz11_1 : w10.cell? ⟨gb769, 1, none⟩ = some (.int .i64 a0_1) := (blk_cell BK769.out 1).trans rfl; have hcz11_2 : w10.cell? ⟨gb769, 2, none⟩ = some (.int .i64 a0_2) := (blk_cell BK769.out 2).trans rfl; have hcz11_3 : w10.cell? ⟨gb769, 3, none⟩ = some (.int .i64 a0_3) := (blk_cell BK769.out 3).trans rfl; have hcz11_4 : w10.cell? ⟨gb769, 4, none⟩ = some (.slice A0_4 l0_4.length c0_4) := (blk_cell BK769.out 4).trans rfl; have hcz11_5 : w10.cell? ⟨gb769, 5, none⟩ = some (.int .i64 a0_5) := (blk_cell BK769.out 5).trans rfl; have hcz11_6 : w10.cell? ⟨gb769, 6, none⟩ = some (.slice A0_6 l0_6.length c0_6) := (blk_cell BK769.out 6).trans rfl; have hfz11_0 := blk_frozen BK769.out 0; have hfz11_1 := blk_frozen BK769.out 1; have hfz11_2 := blk_frozen BK769.out 2; have hfz11_3 := blk_frozen BK769.out 3; have hfz11_4 := blk_frozen BK769.out 4; have hfz11_5 := blk_frozen BK769.out 5; have hfz11_6 := blk_frozen BK769.out 6) | (go_at_call 66; (with_reducible refine (impl_in.calls a1 0 (wrap64 (a0_1 - 1)) true _ A5.out).mono ?_); rintro e w' ⟨rfl, ⟨nd, rfl⟩⟩; obtain ⟨Ao12, co12, eo12⟩ := Kd.R_slice HO772.out; subst eo12) | (go_at_call 71; (with_reducible refine (impl_below.calls k _ _ t770 a1 t775 _ ?side1 ?side2 A7.out).mono ?_); (case side1 => repeat (first | exact (Kd.R_reads' HO772.out).2.2 | (with_reducible refine Kd.C_alloc ?_ _) | (with_reducible refine Kd.C_drewN ?_ _) | (with_reducible refine Kd.C_drew ?_))); (case side2 => exact (Kd.R_reads' HO772.out).2.1); rintro e w' ⟨rfl, ⟨nd, rfl⟩⟩))
     go_ret2
     exact ⟨by first | rfl | (simp [errW_none, errW_some] <;> rfl) | (simp [*, errW_none, errW_some] <;> rfl), by repeat (first | (with_reducible first | exact HB.out | apply below_alloc | apply pw_below_drewN | apply below_drew1 | refine below_set ?_ GE769.out) | exact HB.out)⟩
    ·rw [if_neg c8] at H
     have c8b0 : (t775 == (t770.length : Int)) = false := beq_eq_false_iff_ne.mpr c8
     have c8b1 : (t775 != (t770.length : Int)) = true := bne_iff_ne.mpr c8
     replace H := Option.bind_eq_some_iff.mp H
     obtain ⟨t776, A130, H⟩ := H
     replace H : (some (t776, true)) = some (r1, r2) := H
     have A13 := Aside0.mk A130
     clear A130
     simp only [Option.some.injEq, Prod.mk.injEq] at H
     obtain ⟨rfl, rfl⟩ := H
     go_enter Try.func40, Try.ntmps40
     go_wp2_with (first | ((with_reducible refine gate_dst (N := 2) rfl ?_); (try (refine gate_guard (by rfl) ?_; dsimp only)); refine box_event ?hg (N := 2) ?hd (cs := #[.int .i64 a0_0, .int .i64 a0_1, .int .i64 a0_2, .int .i64 a0_3, .slice A0_4 l0_4.length c0_4, .int .i64 a0_5, .slice A0_6 l0_6.length c0_6]) (t := 26) ?hr ?_; (case hd => rfl); (case hg => rfl); (case hr => first | (go_simp; done) | (go_simp; rfl)); intro gb769 hg w14 hbox hb; have n0_ := Aside0.mk (below_step (by repeat (first | (with_reducible first | exact HB.out | apply below_alloc | apply pw_below_drewN | apply below_drew1) | exact HB.out)) hb); have n1_ := Aside0.mk (hbox); have n2_ := Aside0.mk ((by rw [hg]; exact (below_size (by repeat (first | (with_reducible first | exact HB.out | apply below_alloc | apply pw_below_drewN | apply below_drew1) | exact HB.out))) : w.heap.size ≤ gb769)); have n3_ := Aside0.mk ((by rw [hg]; exact (below_size (by repeat (first | (with_reducible first | exact HB.out | apply below_alloc | apply pw_below_drewN | apply below_drew1) | exact HB.out))) : w.heap.size ≤ gb769)); clear HB; have HB := n0_; have BK769 := n1_; have GW769 := n2_; have GE769 := n3_; clear n0_ n1_ n2_ n3_; clear hb hbox hg) | ((with_reducible refine gate_callee (f := 63) rfl ?_); refine goesL_ (some 9) rfl rfl Try.func63 (by kernel_rfl) rfl #[.pointer (some ⟨gb769, 0, none⟩)] rfl (by (try simp only [List.map_toArray, List.map_cons, List.map_nil]); first | done | rfl | (simp only [List.length_drop, List.length_take]; rfl)) ?_; (with_reducible refine (impl_Sparse_numbers.calls k gb769 a0_0 a0_1 a0_2 a0_3 A0_4 c0_4 l0_4 a0_5 A0_6 c0_6 l0_6 t770 true _ ?side1 ?side2 ?side3 ?side4 ?side5 A3.out).mono ?_); (case side1 => repeat (first | exact (Kd.C_below HR0_4.out HB.out) | (with_reducible refine Kd.C_alloc ?_ _) | (with_reducible refine Kd.C_drewN ?_ _) | (with_reducible refine Kd.C_drew ?_))); (case side2 => exact HC0_4.out); (case side3 => repeat (first | exact (Kd.C_below HR0_6.out HB.out) | (with_reducible refine Kd.C_alloc ?_ _) | (with_reducible refine Kd.C_drewN ?_ _) | (with_reducible refine Kd.C_drew ?_))); (case side4 => exact HC0_6.out); (case side5 => exact (by (with_reducible repeat (first | refine blk_drewN ?_ _ | refine blk_drew ?_ | refine blk_alloc ?_ _)); exact BK769.out)); rintro e w15 ⟨v771, rfl, ho0, hb⟩; refine ⟨_, rfl, ?_⟩; have n0_ := Aside0.mk (Kd.R_lower ho0 (below_size (by repeat (first | (with_reducible first | exact HB.out | apply below_alloc | apply pw_below_drewN | apply below_drew1 | refine below_set ?_ GE769.out) | exact HB.out)))); have n1_ := Aside0.mk (blk_below (g := gb769) (o := .cells #[.int .i64 a0_0, .int .i64 a0_1, .int .i64 a0_2, .int .i64 a0_3, .slice A0_4 l0_4.length c0_4, .int .i64 a0_5, .slice A0_6 l0_6.length c0_6] 26 (0, 0)) (by (with_reducible repeat (first | refine blk_drewN ?_ _ | refine blk_drew ?_ | refine blk_alloc ?_ _)); exact BK769.out) hb); have n2_ := Aside0.mk (below_step (by repeat (first | (with_reducible first | exact HB.out | apply below_alloc | apply pw_below_drewN | apply below_drew1 | refine below_set ?_ GE769.out) | exact HB.out)) hb); clear BK769; clear HB; have HO772 := n0_; have BK769 := n1_; have HB := n2_; clear n0_ n1_ n2_; (try clear hb); (try clear hb2); (try clear hk); (try clear hi); (try clear ho0); have hcz16_0 : w15.cell? ⟨gb769, 0, none⟩ = some (.int .i64 a0_0) := (blk_cell BK769.out 0).trans rfl; have hcz16_1 : w15.cell? ⟨gb769, 1, none⟩ = some (.int .i64 a0_1) := (blk_cell BK769.out 1).trans rfl; have hcz16_2 : w15.cell? ⟨gb769, 2, none⟩ = some (.int .i64 a0_2) := (blk_cell BK769.out 2).trans rfl; have hcz16_3 : w15.cell? ⟨gb769, 3, none⟩ = some (.int .i64 a0_3) := (blk_cell BK769.out 3).trans rfl; have hcz16_4 : w15.cell? ⟨gb769, 4, none⟩ = some (.slice A0_4 l0_4.length c0_4) := (blk_cell BK769.out 4).trans rfl; have hcz16_5 : w15.cell? ⟨gb769, 5, none⟩ = some (.int .i64 a0_5) := (blk_cell BK769.out 5).trans rfl; have hcz16_6 : w15.cell? ⟨gb769, 6, none⟩ = some (.slice A0_6 l0_6.length c0_6) := (blk_cell BK769.out 6).trans rfl; have hfz16_0 := blk_frozen BK769.out 0; have hfz16_1 := blk_frozen BK769.out 1; have hfz16_2 := blk_frozen BK769.out 2; have hfz16_3 := blk_frozen BK769.out 3; have hfz16_4 := blk_frozen BK769.out 4; have hfz16_5 := blk_frozen BK769.out 5; have hfz16_6 := blk_frozen BK769.out 6) | (go_at_call 66; (with_reducible refine (impl_in.calls a1 0 (wrap64 (a0_1 - 1)) true _ A5.out).mono ?_); rintro e w' ⟨rfl, ⟨nd, rfl⟩⟩; obtain ⟨Ao17, co17, eo17⟩ := Kd.R_slice HO772.out; subst eo17) | (go_at_call 71; (with_reducible refine (impl_below.calls k _ _ t770 a1 t775 _ ?side1 ?side2 A7.out).mono ?_); (case side1 => repeat (first | exact (Kd.R_reads' HO772.out).2.2 | (with_reducible refine Kd.C_alloc ?_ _) | (with_reducible refine Kd.C_drewN ?_ _) | (with_reducible refine Kd.C_drew ?_))); (case side2 => exact (Kd.R_reads' HO772.out).2.1); rintro e w' ⟨rfl, ⟨nd, rfl⟩⟩) | ((with_reducible refine gate_callee (f := 71) rfl ?_); refine goesL_ (some 32) rfl rfl Try.func71 (by kernel_rfl) rfl #[.slice Ao17 t770.length co17, .int .i64 a1] rfl (by (try simp only [List.map_toArray, List.map_cons, List.map_nil]); first | done | rfl | (simp only [List.length_drop, List.length_take]; rfl)) ?_; (with_reducible refine (impl_below.calls k _ _ t770 a1 t776 _ ?side1 ?side2 A13.out).mono ?_); (case side1 => repeat (first | exact (Kd.R_reads' HO772.out).2.2 | (with_reducible refine Kd.C_alloc ?_ _) | (with_reducible refine Kd.C_drewN ?_ _) | (with_reducible refine Kd.C_drew ?_))); (case side2 => exact (Kd.R_reads' HO772.out).2.1); rintro e w' ⟨rfl, ⟨nd, rfl⟩⟩; refine ⟨_, rfl, ?_⟩))
     go_ret2
     exact ⟨by first | rfl | (simp [errW_none, errW_some] <;> rfl) | (simp [*, errW_none, errW_some] <;> rfl), by repeat (first | (with_reducible first | exact HB.out | apply below_alloc | apply pw_below_drewN | apply below_drew1 | refine below_set ?_ GE769.out) | exact HB.out)⟩
   ·replace c6 := Bool.eq_false_iff.mpr c6
    subst c6
    have H1 : (some (0, false)) = some (r1, r2) := by rw [if_neg (show ¬ (false = true) by decide)] at H; exact H
    clear H
    have H := H1
    clear H1
    simp only [Option.some.injEq, Prod.mk.injEq] at H
    obtain ⟨rfl, rfl⟩ := H
    go_enter Try.func40, Try.ntmps40
    go_wp2_with (first | ((with_reducible refine gate_dst (N := 2) rfl ?_); (try (refine gate_guard (by rfl) ?_; dsimp only)); refine box_event ?hg (N := 2) ?hd (cs := #[.int .i64 a0_0, .int .i64 a0_1, .int .i64 a0_2, .int .i64 a0_3, .slice A0_4 l0_4.length c0_4, .int .i64 a0_5, .slice A0_6 l0_6.length c0_6]) (t := 26) ?hr ?_; (case hd => rfl); (case hg => rfl); (case hr => first | (go_simp; done) | (go_simp; rfl)); intro gb769 hg w18 hbox hb; have n0_ := Aside0.mk (below_step (by repeat (first | (with_reducible first | exact HB.out | apply below_alloc | apply pw_below_drewN | apply below_drew1) | exact HB.out)) hb); have n1_ := Aside0.mk (hbox); have n2_ := Aside0.mk ((by rw [hg]; exact (below_size (by repeat (first | (with_reducible first | exact HB.out | apply below_alloc | apply pw_below_drewN | apply below_drew1) | exact HB.out))) : w.heap.size ≤ gb769)); have n3_ := Aside0.mk ((by rw [hg]; exact (below_size (by repeat (first | (with_reducible first | exact HB.out | apply below_alloc | apply pw_below_drewN | apply below_drew1) | exact HB.out))) : w.heap.size ≤ gb769)); clear HB; have HB := n0_; have BK769 := n1_; have GW769 := n2_; have GE769 := n3_; clear n0_ n1_ n2_ n3_; clear hb hbox hg) | ((with_reducible refine gate_callee (f := 63) rfl ?_); refine goesL_ (some 9) rfl rfl Try.func63 (by kernel_rfl) rfl #[.pointer (some ⟨gb769, 0, none⟩)] rfl (by (try simp only [List.map_toArray, List.map_cons, List.map_nil]); first | done | rfl | (simp only [List.length_drop, List.length_take]; rfl)) ?_; (with_reducible refine (impl_Sparse_numbers.calls k gb769 a0_0 a0_1 a0_2 a0_3 A0_4 c0_4 l0_4 a0_5 A0_6 c0_6 l0_6 t770 true _ ?side1 ?side2 ?side3 ?side4 ?side5 A3.out).mono ?_); (case side1 => repeat (first | exact (Kd.C_below HR0_4.out HB.out) | (with_reducible refine Kd.C_alloc ?_ _) | (with_reducible refine Kd.C_drewN ?_ _) | (with_reducible refine Kd.C_drew ?_))); (case side2 => exact HC0_4.out); (case side3 => repeat (first | exact (Kd.C_below HR0_6.out HB.out) | (with_reducible refine Kd.C_alloc ?_ _) | (with_reducible refine Kd.C_drewN ?_ _) | (with_reducible refine Kd.C_drew ?_))); (case side4 => exact HC0_6.out); (case side5 => exact (by (with_reducible repeat (first | refine blk_drewN ?_ _ | refine blk_drew ?_ | refine blk_alloc ?_ _)); exact BK769.out)); rintro e w19 ⟨v771, rfl, ho0, hb⟩; refine ⟨_, rfl, ?_⟩; have n0_ := Aside0.mk (Kd.R_lower ho0 (below_size (by repeat (first | (with_reducible first | exact HB.out | apply below_alloc | apply pw_below_drewN | apply below_drew1 | refine below_set ?_ GE769.out) | exact HB.out)))); have n1_ := Aside0.mk (blk_below (g := gb769) (o := .cells #[.int .i64 a0_0, .int .i64 a0_1, .int .i64 a0_2, .int .i64 a0_3, .slice A0_4 l0_4.length c0_4, .int .i64 a0_5, .slice A0_6 l0_6.length c0_6] 26 (0, 0)) (by (with_reducible repeat (first | refine blk_drewN ?_ _ | refine blk_drew ?_ | refine blk_alloc ?_ _)); exact BK769.out) hb); have n2_ := Aside0.mk (below_step (by repeat (first | (with_reducible first | exact HB.out | apply below_alloc | apply pw_below_drewN | apply below_drew1 | refine below_set ?_ GE769.out) | exact HB.out)) hb); clear BK769; clear HB; have HO772 := n0_; have BK769 := n1_; have HB := n2_; clear n0_ n1_ n2_; (try clear hb); (try clear hb2); (try clear hk); (try clear hi); (try clear ho0); have hcz20_0 : w19.cell? ⟨gb769, 0, none⟩ = some (.int .i64 a0_0) := (blk_cell BK769.out 0).trans rfl; have hcz20_1 : w19.cell? ⟨gb769, 1, none⟩ = some (.int .i64 a0_1) := (blk_cell BK769.out 1).trans rfl; have hcz20_2 : w19.cell? ⟨gb769, 2, none⟩ = some (.int .i64 a0_2) := (blk_cell BK769.out 2).trans rfl; have hcz20_3 : w19.cell? ⟨gb769, 3, none⟩ = some (.int .i64 a0_3) := (blk_cell BK769.out 3).trans rfl; have hcz20_4 : w19.cell? ⟨gb769, 4, none⟩ = some (.slice A0_4 l0_4.length c0_4) := (blk_cell BK769.out 4).trans rfl; have hcz20_5 : w19.cell? ⟨gb769, 5, none⟩ = some (.int .i64 a0_5) := (blk_cell BK769.out 5).trans rfl; have hcz20_6 : w19.cell? ⟨gb769, 6, none⟩ = some (.slice A0_6 l0_6.length c0_6) := (blk_cell BK769.out 6).trans rfl; have hfz20_0 := blk_frozen BK769.out 0; have hfz20_1 := blk_frozen BK769.out 1; have hfz20_2 := blk_frozen BK769.out 2; have hfz20_3 := blk_frozen BK769.out 3; have hfz20_4 := blk_frozen BK769.out 4; have hfz20_5 := blk_frozen BK769.out 5; have hfz20_6 := blk_frozen BK769.out 6) | (go_at_call 66; (with_reducible refine (impl_in.calls a1 0 (wrap64 (a0_1 - 1)) false _ A5.out).mono ?_); rintro e w' ⟨rfl, ⟨nd, rfl⟩⟩))
    go_ret2
    exact ⟨by first | rfl | (simp [errW_none, errW_some] <;> rfl) | (simp [*, errW_none, errW_some] <;> rfl), by repeat (first | (with_reducible first | exact HB.out | apply below_alloc | apply pw_below_drewN | apply below_drew1 | refine below_set ?_ GE769.out) | exact HB.out)⟩
  ·replace c4 := Bool.eq_false_iff.mpr c4
   subst c4
   have H1 : (some (0, false)) = some (r1, r2) := by rw [if_neg (show ¬ (false = true) by decide)] at H; exact H
   clear H
   have H := H1
   clear H1
   simp only [Option.some.injEq, Prod.mk.injEq] at H
   obtain ⟨rfl, rfl⟩ := H
   go_enter Try.func40, Try.ntmps40
   go_wp2_with (first | ((with_reducible refine gate_dst (N := 2) rfl ?_); (try (refine gate_guard (by rfl) ?_; dsimp only)); refine box_event ?hg (N := 2) ?hd (cs := #[.int .i64 a0_0, .int .i64 a0_1, .int .i64 a0_2, .int .i64 a0_3, .slice A0_4 l0_4.length c0_4, .int .i64 a0_5, .slice A0_6 l0_6.length c0_6]) (t := 26) ?hr ?_; (case hd => rfl); (case hg => rfl); (case hr => first | (go_simp; done) | (go_simp; rfl)); intro gb769 hg w21 hbox hb; have n0_ := Aside0.mk (below_step (by repeat (first | (with_reducible first | exact HB.out | apply below_alloc | apply pw_below_drewN | apply below_drew1) | exact HB.out)) hb); have n1_ := Aside0.mk (hbox); have n2_ := Aside0.mk ((by rw [hg]; exact (below_size (by repeat (first | (with_reducible first | exact HB.out | apply below_alloc | apply pw_below_drewN | apply below_drew1) | exact HB.out))) : w.heap.size ≤ gb769)); have n3_ := Aside0.mk ((by rw [hg]; exact (below_size (by repeat (first | (with_reducible first | exact HB.out | apply below_alloc | apply pw_below_drewN | apply below_drew1) | exact HB.out))) : w.heap.size ≤ gb769)); clear HB; have HB := n0_; have BK769 := n1_; have GW769 := n2_; have GE769 := n3_; clear n0_ n1_ n2_ n3_; clear hb hbox hg) | ((with_reducible refine gate_callee (f := 63) rfl ?_); refine goesL_ (some 9) rfl rfl Try.func63 (by kernel_rfl) rfl #[.pointer (some ⟨gb769, 0, none⟩)] rfl (by (try simp only [List.map_toArray, List.map_cons, List.map_nil]); first | done | rfl | (simp only [List.length_drop, List.length_take]; rfl)) ?_; (with_reducible refine (impl_Sparse_numbers.calls k gb769 a0_0 a0_1 a0_2 a0_3 A0_4 c0_4 l0_4 a0_5 A0_6 c0_6 l0_6 t770 false _ ?side1 ?side2 ?side3 ?side4 ?side5 A3.out).mono ?_); (case side1 => repeat (first | exact (Kd.C_below HR0_4.out HB.out) | (with_reducible refine Kd.C_alloc ?_ _) | (with_reducible refine Kd.C_drewN ?_ _) | (with_reducible refine Kd.C_drew ?_))); (case side2 => exact HC0_4.out); (case side3 => repeat (first | exact (Kd.C_below HR0_6.out HB.out) | (with_reducible refine Kd.C_alloc ?_ _) | (with_reducible refine Kd.C_drewN ?_ _) | (with_reducible refine Kd.C_drew ?_))); (case side4 => exact HC0_6.out); (case side5 => exact (by (with_reducible repeat (first | refine blk_drewN ?_ _ | refine blk_drew ?_ | refine blk_alloc ?_ _)); exact BK769.out)); rintro e w22 ⟨v771, rfl, ho0, hb⟩; refine ⟨_, rfl, ?_⟩; have n0_ := Aside0.mk (Kd.R_lower ho0 (below_size (by repeat (first | (with_reducible first | exact HB.out | apply below_alloc | apply pw_below_drewN | apply below_drew1 | refine below_set ?_ GE769.out) | exact HB.out)))); have n1_ := Aside0.mk (blk_below (g := gb769) (o := .cells #[.int .i64 a0_0, .int .i64 a0_1, .int .i64 a0_2, .int .i64 a0_3, .slice A0_4 l0_4.length c0_4, .int .i64 a0_5, .slice A0_6 l0_6.length c0_6] 26 (0, 0)) (by (with_reducible repeat (first | refine blk_drewN ?_ _ | refine blk_drew ?_ | refine blk_alloc ?_ _)); exact BK769.out) hb); have n2_ := Aside0.mk (below_step (by repeat (first | (with_reducible first | exact HB.out | apply below_alloc | apply pw_below_drewN | apply below_drew1 | refine below_set ?_ GE769.out) | exact HB.out)) hb); clear BK769; clear HB; have HO772 := n0_; have BK769 := n1_; have HB := n2_; clear n0_ n1_ n2_; (try clear hb); (try clear hb2); (try clear hk); (try clear hi); (try clear ho0)))
   go_ret2
   exact ⟨by first | rfl | (simp [errW_none, errW_some] <;> rfl) | (simp [*, errW_none, errW_some] <;> rfl), by repeat (first | (with_reducible first | exact HB.out | apply below_alloc | apply pw_below_drewN | apply below_drew1 | refine below_set ?_ GE769.out) | exact HB.out)⟩
/-! ### laws_FnExactFirstAtLeast: function 10 -/
def laws_FnExactFirstAtLeast.f (k : Nat) (a0_0 : Int) (a0_1 : Int) (a0_2 : Int) (a0_3 : Int) (l0_4 : List Int) (a0_5 : Int) (l0_6 : List Int) (a1 : Int) : Option (Bool) := (laws_szSparse.f a0_0 a0_1 a0_2 a0_3 l0_4 a0_5 l0_6 1048576).bind fun t778 => (if t778 < 0 then (some true) else ((laws_toSparse.f k a0_0 a0_1 a0_2 a0_3 l0_4 a0_5 l0_6).bind fun bt779 => ((spec_FirstAtLeast.f k bt779.1 bt779.2.1 bt779.2.2.1 bt779.2.2.2.1 bt779.2.2.2.2.1 bt779.2.2.2.2.2.1 bt779.2.2.2.2.2.2 a1).bind fun bt790 => ((laws_toSparse.f k a0_0 a0_1 a0_2 a0_3 l0_4 a0_5 l0_6).bind fun bt792 => ((impl_FirstAtLeast.f k bt792.1 bt792.2.1 bt792.2.2.1 bt792.2.2.2.1 bt792.2.2.2.2.1 bt792.2.2.2.2.2.1 bt792.2.2.2.2.2.2 a1).bind fun bt804 => (if bt804.1 = bt790.1 then (if (bt804.2 != bt790.2) = true then (none) else ((laws_toSparse.f k a0_0 a0_1 a0_2 a0_3 l0_4 a0_5 l0_6).bind fun bt806 => ((laws_eqSparse.f k bt792.1 bt792.2.1 bt792.2.2.1 bt792.2.2.2.1 bt792.2.2.2.2.1 bt792.2.2.2.2.2.1 bt792.2.2.2.2.2.2 bt806.1 bt806.2.1 bt806.2.2.1 bt806.2.2.2.1 bt806.2.2.2.2.1 bt806.2.2.2.2.2.1 bt806.2.2.2.2.2.2).bind fun t817 => (if t817 = true then (some true) else (none))))) else (none)))))))
theorem laws_FnExactFirstAtLeast.mono : ∀ a0 a1 a2 a3 a4 a5 a6 a7 k, LeO (laws_FnExactFirstAtLeast.f k a0 a1 a2 a3 a4 a5 a6 a7) (laws_FnExactFirstAtLeast.f (k + 1) a0 a1 a2 a3 a4 a5 a6 a7) := by
  intro a0 a1 a2 a3 a4 a5 a6 a7 k
  unfold laws_FnExactFirstAtLeast.f
  repeat' first
      | (with_reducible exact impl_FirstAtLeast.mono _ _ _ _ _ _ _ _ _)
      | (with_reducible exact laws_eqSparse.mono _ _ _ _ _ _ _ _ _ _ _ _ _ _ _)
      | (with_reducible exact laws_toSparse.mono _ _ _ _ _ _ _ _)
      | (with_reducible exact spec_FirstAtLeast.mono _ _ _ _ _ _ _ _ _)
      | (with_reducible exact LeO.refl _)
      | (with_reducible exact LeO.none _)
      | (with_reducible refine LeO.ite ?_ ?_)
      | (with_reducible refine LeO.bind ?_ (fun _ => ?_))
      | exact impl_FirstAtLeast.mono _ _ _ _ _ _ _ _ _
      | exact laws_eqSparse.mono _ _ _ _ _ _ _ _ _ _ _ _ _ _ _
      | exact laws_toSparse.mono _ _ _ _ _ _ _ _
      | exact spec_FirstAtLeast.mono _ _ _ _ _ _ _ _ _
      | exact LeO.none _
      | refine LeO.ite ?_ ?_
      | refine LeO.bind ?_ (fun _ => ?_)
noncomputable def laws_FnExactFirstAtLeast.F (a0_0 : Int) (a0_1 : Int) (a0_2 : Int) (a0_3 : Int) (l0_4 : List Int) (a0_5 : Int) (l0_6 : List Int) (a1 : Int) : Option (Bool) := lim fun k => laws_FnExactFirstAtLeast.f k a0_0 a0_1 a0_2 a0_3 l0_4 a0_5 l0_6 a1
theorem laws_FnExactFirstAtLeast.F_sup (a0_0 : Int) (a0_1 : Int) (a0_2 : Int) (a0_3 : Int) (l0_4 : List Int) (a0_5 : Int) (l0_6 : List Int) (a1 : Int) : Sup (fun k => laws_FnExactFirstAtLeast.f k a0_0 a0_1 a0_2 a0_3 l0_4 a0_5 l0_6 a1) (laws_FnExactFirstAtLeast.F a0_0 a0_1 a0_2 a0_3 l0_4 a0_5 l0_6 a1) := Sup.of_mono fun k => laws_FnExactFirstAtLeast.mono a0_0 a0_1 a0_2 a0_3 l0_4 a0_5 l0_6 a1 k
theorem laws_FnExactFirstAtLeast.F_eq (a0_0 : Int) (a0_1 : Int) (a0_2 : Int) (a0_3 : Int) (l0_4 : List Int) (a0_5 : Int) (l0_6 : List Int) (a1 : Int) : laws_FnExactFirstAtLeast.F a0_0 a0_1 a0_2 a0_3 l0_4 a0_5 l0_6 a1 = (laws_szSparse.f a0_0 a0_1 a0_2 a0_3 l0_4 a0_5 l0_6 1048576).bind fun t778 => (if t778 < 0 then (some true) else ((laws_toSparse.F a0_0 a0_1 a0_2 a0_3 l0_4 a0_5 l0_6).bind fun bt779 => ((spec_FirstAtLeast.F bt779.1 bt779.2.1 bt779.2.2.1 bt779.2.2.2.1 bt779.2.2.2.2.1 bt779.2.2.2.2.2.1 bt779.2.2.2.2.2.2 a1).bind fun bt790 => ((laws_toSparse.F a0_0 a0_1 a0_2 a0_3 l0_4 a0_5 l0_6).bind fun bt792 => ((impl_FirstAtLeast.F bt792.1 bt792.2.1 bt792.2.2.1 bt792.2.2.2.1 bt792.2.2.2.2.1 bt792.2.2.2.2.2.1 bt792.2.2.2.2.2.2 a1).bind fun bt804 => (if bt804.1 = bt790.1 then (if (bt804.2 != bt790.2) = true then (none) else ((laws_toSparse.F a0_0 a0_1 a0_2 a0_3 l0_4 a0_5 l0_6).bind fun bt806 => ((laws_eqSparse.F bt792.1 bt792.2.1 bt792.2.2.1 bt792.2.2.2.1 bt792.2.2.2.2.1 bt792.2.2.2.2.2.1 bt792.2.2.2.2.2.2 bt806.1 bt806.2.1 bt806.2.2.1 bt806.2.2.2.1 bt806.2.2.2.2.1 bt806.2.2.2.2.2.1 bt806.2.2.2.2.2.2).bind fun t817 => (if t817 = true then (some true) else (none))))) else (none))))))) := by
  refine Sup.unique (laws_FnExactFirstAtLeast.F_sup a0_0 a0_1 a0_2 a0_3 l0_4 a0_5 l0_6 a1) (Sup.congr (g' := fun k => (laws_szSparse.f a0_0 a0_1 a0_2 a0_3 l0_4 a0_5 l0_6 1048576).bind fun t778 => (if t778 < 0 then (some true) else ((laws_toSparse.f k a0_0 a0_1 a0_2 a0_3 l0_4 a0_5 l0_6).bind fun bt779 => ((spec_FirstAtLeast.f k bt779.1 bt779.2.1 bt779.2.2.1 bt779.2.2.2.1 bt779.2.2.2.2.1 bt779.2.2.2.2.2.1 bt779.2.2.2.2.2.2 a1).bind fun bt790 => ((laws_toSparse.f k a0_0 a0_1 a0_2 a0_3 l0_4 a0_5 l0_6).bind fun bt792 => ((impl_FirstAtLeast.f k bt792.1 bt792.2.1 bt792.2.2.1 bt792.2.2.2.1 bt792.2.2.2.2.1 bt792.2.2.2.2.2.1 bt792.2.2.2.2.2.2 a1).bind fun bt804 => (if bt804.1 = bt790.1 then (if (bt804.2 != bt790.2) = true then (none) else ((laws_toSparse.f k a0_0 a0_1 a0_2 a0_3 l0_4 a0_5 l0_6).bind fun bt806 => ((laws_eqSparse.f k bt792.1 bt792.2.1 bt792.2.2.1 bt792.2.2.2.1 bt792.2.2.2.2.1 bt792.2.2.2.2.2.1 bt792.2.2.2.2.2.2 bt806.1 bt806.2.1 bt806.2.2.1 bt806.2.2.2.1 bt806.2.2.2.2.1 bt806.2.2.2.2.2.1 bt806.2.2.2.2.2.2).bind fun t817 => (if t817 = true then (some true) else (none))))) else (none)))))))) (fun k => by first | rfl | simp only [laws_FnExactFirstAtLeast.f]) ?_)
  repeat' first
    | (with_reducible exact laws_eqSparse.F_sup _ _ _ _ _ _ _ _ _ _ _ _ _ _)
    | (with_reducible exact laws_toSparse.F_sup _ _ _ _ _ _ _)
    | (with_reducible exact spec_FirstAtLeast.F_sup _ _ _ _ _ _ _ _)
    | (with_reducible exact impl_FirstAtLeast.F_sup _ _ _ _ _ _ _ _)
    | (with_reducible refine Sup.ite ?_ ?_)
    | (with_reducible refine Sup.bind ?_ (fun _ => ?_))
    | (with_reducible exact Sup.const _)
    | exact laws_eqSparse.F_sup _ _ _ _ _ _ _ _ _ _ _ _ _ _
    | exact laws_toSparse.F_sup _ _ _ _ _ _ _
    | exact spec_FirstAtLeast.F_sup _ _ _ _ _ _ _ _
    | exact impl_FirstAtLeast.F_sup _ _ _ _ _ _ _ _
    | exact Sup.const _
set_option maxHeartbeats 8000000 in
set_option maxRecDepth 100000 in
theorem laws_FnExactFirstAtLeast.calls (k : Nat) (a0_0 : Int) (a0_1 : Int) (a0_2 : Int) (a0_3 : Int) (A0_4 : Option Addr) (c0_4 : Nat) (l0_4 : List Int) (a0_5 : Int) (A0_6 : Option Addr) (c0_6 : Nat) (l0_6 : List Int) (a1 : Int) (r : Bool) (w : World) (hr0_4 : Kd.C (Kd.int .i64) w A0_4 l0_4.length l0_4) (hc0_4 : l0_4.length ≤ c0_4) (hr0_6 : Kd.C (Kd.int .i64) w A0_6 l0_6.length l0_6) (hc0_6 : l0_6.length ≤ c0_6) (h : laws_FnExactFirstAtLeast.f k a0_0 a0_1 a0_2 a0_3 l0_4 a0_5 l0_6 a1 = some r) :
    Calls Try.prog 10 #[.agg #[.int .i64 a0_0, .int .i64 a0_1, .int .i64 a0_2, .int .i64 a0_3, .slice A0_4 l0_4.length c0_4, .int .i64 a0_5, .slice A0_6 l0_6.length c0_6], .int .i64 a1] w fun e w' => e = .returned (.bool r) ∧ Below w.heap.size w w' := by
  have hu37 := Try.underlying37
  have hu26 := Try.underlying26
  have HR0_4 := Aside0.mk hr0_4
  have HC0_4 := Aside0.mk hc0_4
  clear hr0_4 hc0_4
  have HR0_6 := Aside0.mk hr0_6
  have HC0_6 := Aside0.mk hc0_6
  clear hr0_6 hc0_6
  have HB := Aside0.mk (Below.refl w.heap.size w)
  have H : ((laws_szSparse.f a0_0 a0_1 a0_2 a0_3 l0_4 a0_5 l0_6 1048576).bind fun t778 => (if t778 < 0 then (some true) else ((laws_toSparse.f k a0_0 a0_1 a0_2 a0_3 l0_4 a0_5 l0_6).bind fun bt779 => ((spec_FirstAtLeast.f k bt779.1 bt779.2.1 bt779.2.2.1 bt779.2.2.2.1 bt779.2.2.2.2.1 bt779.2.2.2.2.2.1 bt779.2.2.2.2.2.2 a1).bind fun bt790 => ((laws_toSparse.f k a0_0 a0_1 a0_2 a0_3 l0_4 a0_5 l0_6).bind fun bt792 => ((impl_FirstAtLeast.f k bt792.1 bt792.2.1 bt792.2.2.1 bt792.2.2.2.1 bt792.2.2.2.2.1 bt792.2.2.2.2.2.1 bt792.2.2.2.2.2.2 a1).bind fun bt804 => (if bt804.1 = bt790.1 then (if (bt804.2 != bt790.2) = true then (none) else ((laws_toSparse.f k a0_0 a0_1 a0_2 a0_3 l0_4 a0_5 l0_6).bind fun bt806 => ((laws_eqSparse.f k bt792.1 bt792.2.1 bt792.2.2.1 bt792.2.2.2.1 bt792.2.2.2.2.1 bt792.2.2.2.2.2.1 bt792.2.2.2.2.2.2 bt806.1 bt806.2.1 bt806.2.2.1 bt806.2.2.2.1 bt806.2.2.2.2.1 bt806.2.2.2.2.2.1 bt806.2.2.2.2.2.2).bind fun t817 => (if t817 = true then (some true) else (none))))) else (none)))))))) = some r := h
  clear h
  replace H := Option.bind_eq_some_iff.mp H
  obtain ⟨t778, A30, H⟩ := H
  replace H : (if t778 < 0 then (some true) else ((laws_toSparse.f k a0_0 a0_1 a0_2 a0_3 l0_4 a0_5 l0_6).bind fun bt779 => ((spec_FirstAtLeast.f k bt779.1 bt779.2.1 bt779.2.2.1 bt779.2.2.2.1 bt779.2.2.2.2.1 bt779.2.2.2.2.2.1 bt779.2.2.2.2.2.2 a1).bind fun bt790 => ((laws_toSparse.f k a0_0 a0_1 a0_2 a0_3 l0_4 a0_5 l0_6).bind fun bt792 => ((impl_FirstAtLeast.f k bt792.1 bt792.2.1 bt792.2.2.1 bt792.2.2.2.1 bt792.2.2.2.2.1 bt792.2.2.2.2.2.1 bt792.2.2.2.2.2.2 a1).bind fun bt804 => (if bt804.1 = bt790.1 then (if (bt804.2 != bt790.2) = true then (none) else ((laws_toSparse.f k a0_0 a0_1 a0_2 a0_3 l0_4 a0_5 l0_6).bind fun bt806 => ((laws_eqSparse.f k bt792.1 bt792.2.1 bt792.2.2.1 bt792.2.2.2.1 bt792.2.2.2.2.1 bt792.2.2.2.2.2.1 bt792.2.2.2.2.2.2 bt806.1 bt806.2.1 bt806.2.2.1 bt806.2.2.2.1 bt806.2.2.2.2.1 bt806.2.2.2.2.2.1 bt806.2.2.2.2.2.2).bind fun t817 => (if t817 = true then (some true) else (none))))) else (none))))))) = some r := H
  have A3 := Aside0.mk A30
  clear A30
  by_cases c4 : t778 < 0
  ·rw [if_pos c4] at H
   have c4b0 : decide (t778 < 0) = true := decide_eq_true c4
   clear c4
   obtain rfl := Option.some.inj H
   go_enter Try.func10, Try.ntmps10
   go_wp2_with (first | ((with_reducible refine gate_dst (N := 2) rfl ?_); refine box_event ?hg (N := 2) ?hd (cs := #[.int .i64 a0_0, .int .i64 a0_1, .int .i64 a0_2, .int .i64 a0_3, .slice A0_4 l0_4.length c0_4, .int .i64 a0_5, .slice A0_6 l0_6.length c0_6]) (t := 37) ?hr ?_; (case hd => rfl); (case hg => rfl); (case hr => first | (go_simp; done) | (go_simp; rfl)); intro gb777 hg w5 hbox hb; have n0_ := Aside0.mk (below_step (by repeat (first | (with_reducible first | exact HB.out | apply below_alloc | apply pw_below_drewN | apply below_drew1) | exact HB.out)) hb); have n1_ := Aside0.mk (hbox); have n2_ := Aside0.mk ((by rw [hg]; exact (below_size (by repeat (first | (with_reducible first | exact HB.out | apply below_alloc | apply pw_below_drewN | apply below_drew1) | exact HB.out))) : w.heap.size ≤ gb777)); have n3_ := Aside0.mk ((by rw [hg]; exact (below_size (by repeat (first | (with_reducible first | exact HB.out | apply below_alloc | apply pw_below_drewN | apply below_drew1) | exact HB.out))) : w.heap.size ≤ gb777)); clear HB; have HB := n0_; have BK777 := n1_; have GW777 := n2_; have GE777 := n3_; clear n0_ n1_ n2_ n3_; clear hb hbox hg; have hcz6_0 : w5.cell? ⟨gb777, 0, none⟩ = some (.int .i64 a0_0) := (blk_cell BK777.out 0).trans rfl; have hcz6_1 : w5.cell? ⟨gb777, 1, none⟩ = some (.int .i64 a0_1) := (blk_cell BK777.out 1).trans rfl; have hcz6_2 : w5.cell? ⟨gb777, 2, none⟩ = some (.int .i64 a0_2) := (blk_cell BK777.out 2).trans rfl; have hcz6_3 : w5.cell? ⟨gb777, 3, none⟩ = some (.int .i64 a0_3) := (blk_cell BK777.out 3).trans rfl; have hcz6_4 : w5.cell? ⟨gb777, 4, none⟩ = some (.slice A0_4 l0_4.length c0_4) := (blk_cell BK777.out 4).trans rfl; have hcz6_5 : w5.cell? ⟨gb777, 5, none⟩ = some (.int .i64 a0_5) := (blk_cell BK777.out 5).trans rfl; have hcz6_6 : w5.cell? ⟨gb777, 6, none⟩ = some (.slice A0_6 l0_6.length c0_6) := (blk_cell BK777.out 6).trans rfl; have hfz6_0 := blk_frozen BK777.out 0; have hfz6_1 := blk_frozen BK777.out 1; have hfz6_2 := blk_frozen BK777.out 2; have hfz6_3 := blk_frozen BK777.out 3; have hfz6_4 := blk_frozen BK777.out 4; have hfz6_5 := blk_frozen BK777.out 5; have hfz6_6 := blk_frozen BK777.out 6) | ((with_reducible refine gate_callee (f := 24) rfl ?_); refine goesL_ (some 13) rfl rfl Try.func24 (by kernel_rfl) rfl #[.agg #[.int .i64 a0_0, .int .i64 a0_1, .int .i64 a0_2, .int .i64 a0_3, .slice A0_4 l0_4.length c0_4, .int .i64 a0_5, .slice A0_6 l0_6.length c0_6], .int .i64 1048576] rfl (by (try simp only [List.map_toArray, List.map_cons, List.map_nil]); first | done | rfl | (simp only [List.length_drop, List.length_take]; rfl)) ?_; (with_reducible refine (laws_szSparse.calls a0_0 a0_1 a0_2 a0_3 _ _ l0_4 a0_5 _ _ l0_6 1048576 t778 _ ?side1 ?side2 ?side3 ?side4 A3.out).mono ?_); (case side1 => repeat (first | exact (Kd.C_below HR0_4.out HB.out) | (with_reducible refine Kd.C_alloc ?_ _) | (with_reducible refine Kd.C_drewN ?_ _) | (with_reducible refine Kd.C_drew ?_))); (case side2 => exact HC0_4.out); (case side3 => repeat (first | exact (Kd.C_below HR0_6.out HB.out) | (with_reducible refine Kd.C_alloc ?_ _) | (with_reducible refine Kd.C_drewN ?_ _) | (with_reducible refine Kd.C_drew ?_))); (case side4 => exact HC0_6.out); rintro e w7 ⟨rfl, hb⟩; refine ⟨_, rfl, ?_⟩; have n0_ := Aside0.mk (blk_below (g := gb777) (o := .cells #[.int .i64 a0_0, .int .i64 a0_1, .int .i64 a0_2, .int .i64 a0_3, .slice A0_4 l0_4.length c0_4, .int .i64 a0_5, .slice A0_6 l0_6.length c0_6] 37 (0, 0)) (by (with_reducible repeat (first | refine blk_drewN ?_ _ | refine blk_drew ?_ | refine blk_alloc ?_ _)); exact BK777.out) hb); have n1_ := Aside0.mk (below_step (by repeat (first | (with_reducible first | exact HB.out | apply below_alloc | apply pw_below_drewN | apply below_drew1 | refine below_set ?_ GE777.out) | exact HB.out)) hb); clear BK777; clear HB; have BK777 := n0_; have HB := n1_; clear n0_ n1_; (try clear hb); (try clear hb2); (try clear hk); (try clear hi)))
   go_ret
   exact ⟨by first | rfl | (simp [errW_none, errW_some] <;> rfl) | (simp [*, errW_none, errW_some] <;> rfl), by repeat (first | (with_reducible first | exact HB.out | apply below_alloc | apply pw_below_drewN | apply below_drew1 | refine below_set ?_ GE777.out) | exact HB.out)⟩
  ·rw [if_neg c4] at H
   have c4b0 : decide (t778 < 0) = false := decide_eq_false c4
   clear c4
   replace H := Option.bind_eq_some_iff.mp H
   obtain ⟨⟨t779, t780, t781, t782, t783, t786, t787⟩, A80, H⟩ := H
   replace H : ((spec_FirstAtLeast.f k t779 t780 t781 t782 t783 t786 t787 a1).bind fun bt790 => ((laws_toSparse.f k a0_0 a0_1 a0_2 a0_3 l0_4 a0_5 l0_6).bind fun bt792 => ((impl_FirstAtLeast.f k bt792.1 bt792.2.1 bt792.2.2.1 bt792.2.2.2.1 bt792.2.2.2.2.1 bt792.2.2.2.2.2.1 bt792.2.2.2.2.2.2 a1).bind fun bt804 => (if bt804.1 = bt790.1 then (if (bt804.2 != bt790.2) = true then (none) else ((laws_toSparse.f k a0_0 a0_1 a0_2 a0_3 l0_4 a0_5 l0_6).bind fun bt806 => ((laws_eqSparse.f k bt792.1 bt792.2.1 bt792.2.2.1 bt792.2.2.2.1 bt792.2.2.2.2.1 bt792.2.2.2.2.2.1 bt792.2.2.2.2.2.2 bt806.1 bt806.2.1 bt806.2.2.1 bt806.2.2.2.1 bt806.2.2.2.2.1 bt806.2.2.2.2.2.1 bt806.2.2.2.2.2.2).bind fun t817 => (if t817 = true then (some true) else (none))))) else (none))))) = some r := H
   have A8 := Aside0.mk A80
   clear A80
   replace H := Option.bind_eq_some_iff.mp H
   obtain ⟨⟨t790, t791⟩, A90, H⟩ := H
   replace H : ((laws_toSparse.f k a0_0 a0_1 a0_2 a0_3 l0_4 a0_5 l0_6).bind fun bt792 => ((impl_FirstAtLeast.f k bt792.1 bt792.2.1 bt792.2.2.1 bt792.2.2.2.1 bt792.2.2.2.2.1 bt792.2.2.2.2.2.1 bt792.2.2.2.2.2.2 a1).bind fun bt804 => (if bt804.1 = t790 then (if (bt804.2 != t791) = true then (none) else ((laws_toSparse.f k a0_0 a0_1 a0_2 a0_3 l0_4 a0_5 l0_6).bind fun bt806 => ((laws_eqSparse.f k bt792.1 bt792.2.1 bt792.2.2.1 bt792.2.2.2.1 bt792.2.2.2.2.1 bt792.2.2.2.2.2.1 bt792.2.2.2.2.2.2 bt806.1 bt806.2.1 bt806.2.2.1 bt806.2.2.2.1 bt806.2.2.2.2.1 bt806.2.2.2.2.2.1 bt806.2.2.2.2.2.2).bind fun t817 => (if t817 = true then (some true) else (none))))) else (none)))) = some r := H
   have A9 := Aside0.mk A90
   clear A90
   replace H := Option.bind_eq_some_iff.mp H
   obtain ⟨⟨t792, t793, t794, t795, t796, t799, t800⟩, A100, H⟩ := H
   replace H : ((impl_FirstAtLeast.f k t792 t793 t794 t795 t796 t799 t800 a1).bind fun bt804 => (if bt804.1 = t790 then (if (bt804.2 != t791) = true then (none) else ((laws_toSparse.f k a0_0 a0_1 a0_2 a0_3 l0_4 a0_5 l0_6).bind fun bt806 => ((laws_eqSparse.f k t792 t793 t794 t795 t796 t799 t800 bt806.1 bt806.2.1 bt806.2.2.1 bt806.2.2.2.1 bt806.2.2.2.2.1 bt806.2.2.2.2.2.1 bt806.2.2.2.2.2.2).bind fun t817 => (if t817 = true then (some true) else (none))))) else (none))) = some r := H
   have A10 := Aside0.mk A100
   clear A100
   replace H := Option.bind_eq_some_iff.mp H
   obtain ⟨⟨t804, t805⟩, A110, H⟩ := H
   replace H : (if t804 = t790 then (if (t805 != t791) = true then (none) else ((laws_toSparse.f k a0_0 a0_1 a0_2 a0_3 l0_4 a0_5 l0_6).bind fun bt806 => ((laws_eqSparse.f k t792 t793 t794 t795 t796 t799 t800 bt806.1 bt806.2.1 bt806.2.2.1 bt806.2.2.2.1 bt806.2.2.2.2.1 bt806.2.2.2.2.2.1 bt806.2.2.2.2.2.2).bind fun t817 => (if t817 = true then (some true) else (none))))) else (none)) = some r := H
   have A11 := Aside0.mk A110
   clear A110
   by_cases c12 : t804 = t790
   ·rw [if_pos c12] at H
    have c12b0 : (t804 == t790) = true := beq_iff_eq.mpr c12
    have c12b1 : (t804 != t790) = false := bne_eq_false_iff_eq.mpr c12
    clear c12
    by_cases c13 : (t805 != t791) = true
    ·rw [if_pos c13] at H
     exact absurd H (by simp)
    ·rw [if_neg c13] at H
     have c13b0 : (t805 != t791) = false := by simpa using c13
     (try (have c13b1 : decide (t805 = t791) = true := by simpa using c13))
     (try (have c13b2 : (t805 == t791) = true := by simpa using c13))
     clear c13
     replace H := Option.bind_eq_some_iff.mp H
     obtain ⟨⟨t806, t807, t808, t809, t810, t813, t814⟩, A140, H⟩ := H
     replace H : ((laws_eqSparse.f k t792 t793 t794 t795 t796 t799 t800 t806 t807 t808 t809 t810 t813 t814).bind fun t817 => (if t817 = true then (some true) else (none))) = some r := H
     have A14 := Aside0.mk A140
     clear A140
     replace H := Option.bind_eq_some_iff.mp H
     obtain ⟨t817, A150, H⟩ := H
     replace H : (if t817 = true then (some true) else (none)) = some r := H
     have A15 := Aside0.mk A150
     clear A150
     by_cases c16 : t817 = true
     ·subst c16
      have H1 : (some true) = some r := by rw [if_pos rfl] at H; exact H
      clear H
      have H := H1
      clear H1
      obtain rfl := Option.some.inj H
      go_enter Try.func10, Try.ntmps10
      try go_wp2_with (first | ((with_reducible refine gate_dst (N := 2) rfl ?_); refine box_event ?hg (N := 2) ?hd (cs := #[.int .i64 a0_0, .int .i64 a0_1, .int .i64 a0_2, .int .i64 a0_3, .slice A0_4 l0_4.length c0_4, .int .i64 a0_5, .slice A0_6 l0_6.length c0_6]) (t := 37) ?hr ?_; (case hd => rfl); (case hg => rfl); (case hr => first | (go_simp; done) | (go_simp; rfl)); intro gb777 hg w17 hbox hb; have n0_ := Aside0.mk (below_step (by repeat (first | (with_reducible first | exact HB.out | apply below_alloc | apply pw_below_drewN | apply below_drew1) | exact HB.out)) hb); have n1_ := Aside0.mk (hbox); have n2_ := Aside0.mk ((by rw [hg]; exact (below_size (by repeat (first | (with_reducible first | exact HB.out | apply below_alloc | apply pw_below_drewN | apply below_drew1) | exact HB.out))) : w.heap.size ≤ gb777)); have n3_ := Aside0.mk ((by rw [hg]; exact (below_size (by repeat (first | (with_reducible first | exact HB.out | apply below_alloc | apply pw_below_drewN | apply below_drew1) | exact HB.out))) : w.heap.size ≤ gb777)); clear HB; have HB := n0_; have BK777 := n1_; have GW777 := n2_; have GE777 := n3_; clear n0_ n1_ n2_ n3_; clear hb hbox hg; have hcz18_0 : w17.cell? ⟨gb777, 0, none⟩ = some (.int .i64 a0_0) := (blk_cell BK777.out 0).trans rfl; have hcz18_1 : w17.cell? ⟨gb777, 1, none⟩ = some (.int .i64 a0_1) := (blk_cell BK777.out 1).trans rfl; have hcz18_2 : w17.cell? ⟨gb777, 2, none⟩ = some (.int .i64 a0_2) := (blk_cell BK777.out 2).trans rfl; have hcz18_3 : w17.cell? ⟨gb777, 3, none⟩ = some (.int .i64 a0_3) := (blk_cell BK777.out 3).trans rfl; have hcz18_4 : w17.cell? ⟨gb777, 4, none⟩ = some (.slice A0_4 l0_4.length c0_4) := (blk_cell BK777.out 4).trans rfl; have hcz18_5 : w17.cell? ⟨gb777, 5, none⟩ = some (.int .i64 a0_5) := (blk_cell BK777.out 5).trans rfl; have hcz18_6 : w17.cell? ⟨gb777, 6, none⟩ = some (.slice A0_6 l0_6.length c0_6) := (blk_cell BK777.out 6).trans rfl; have hfz18_0 := blk_frozen BK777.out 0; have hfz18_1 := blk_frozen BK777.out 1; have hfz18_2 := blk_frozen BK777.out 2; have hfz18_3 := blk_frozen BK777.out 3; have hfz18_4 := blk_frozen BK777.out 4; have hfz18_5 := blk_frozen BK777.out 5; have hfz18_6 := blk_frozen BK777.out 6) | ((with_reducible refine gate_callee (f := 24) rfl ?_); refine goesL_ (some 13) rfl rfl Try.func24 (by kernel_rfl) rfl #[.agg #[.int .i64 a0_0, .int .i64 a0_1, .int .i64 a0_2, .int .i64 a0_3, .slice A0_4 l0_4.length c0_4, .int .i64 a0_5, .slice A0_6 l0_6.length c0_6], .int .i64 1048576] rfl (by (try simp only [List.map_toArray, List.map_cons, List.map_nil]); first | done | rfl | (simp only [List.length_drop, List.length_take]; rfl)) ?_; (with_reducible refine (laws_szSparse.calls a0_0 a0_1 a0_2 a0_3 _ _ l0_4 a0_5 _ _ l0_6 1048576 t778 _ ?side1 ?side2 ?side3 ?side4 A3.out).mono ?_); (case side1 => repeat (first | exact (Kd.C_below HR0_4.out HB.out) | (with_reducible refine Kd.C_alloc ?_ _) | (with_reducible refine Kd.C_drewN ?_ _) | (with_reducible refine Kd.C_drew ?_))); (case side2 => exact HC0_4.out); (case side3 => repeat (first | exact (Kd.C_below HR0_6.out HB.out) | (with_reducible refine Kd.C_alloc ?_ _) | (with_reducible refine Kd.C_drewN ?_ _) | (with_reducible refine Kd.C_drew ?_))); (case side4 => exact HC0_6.out); rintro e w19 ⟨rfl, hb⟩; refine ⟨_, rfl, ?_⟩; have n0_ := Aside0.mk (blk_below (g := gb777) (o := .cells #[.int .i64 a0_0, .int .i64 a0_1, .int .i64 a0_2, .int .i64 a0_3, .slice A0_4 l0_4.length c0_4, .int .i64 a0_5, .slice A0_6 l0_6.length c0_6] 37 (0, 0)) (by (with_reducible repeat (first | refine blk_drewN ?_ _ | refine blk_drew ?_ | refine blk_alloc ?_ _)); exact BK777.out) hb); have n1_ := Aside0.mk (below_step (by repeat (first | (with_reducible first | exact HB.out | apply below_alloc | apply pw_below_drewN | apply below_drew1 | refine below_set ?_ GE777.out) | exact HB.out)) hb); clear BK777; clear HB; have BK777 := n0_; have HB := n1_; clear n0_ n1_; (try clear hb); (try clear hb2); (try clear hk); (try clear hi); have hcz20_0 : w19.cell? ⟨gb777, 0, none⟩ = some (.int .i64 a0_0) := (blk_cell BK777.out 0).trans rfl; have hcz20_1 : w19.cell? ⟨gb777, 1, none⟩ = some (.int .i64 a0_1) := (blk_cell BK777.out 1).trans rfl; have hcz20_2 : w19.cell? ⟨gb777, 2, none⟩ = some (.int .i64 a0_2) := (blk_cell BK777.out 2).trans rfl; have hcz20_3 : w19.cell? ⟨gb777, 3, none⟩ = some (.int .i64 a0_3) := (blk_cell BK777.out 3).trans rfl; have hcz20_4 : w19.cell? ⟨gb777, 4, none⟩ = some (.slice A0_4 l0_4.length c0_4) := (blk_cell BK777.out 4).trans rfl; have hcz20_5 : w19.cell? ⟨gb777, 5, none⟩ = some (.int .i64 a0_5) := (blk_cell BK777.out 5).trans rfl; have hcz20_6 : w19.cell? ⟨gb777, 6, none⟩ = some (.slice A0_6 l0_6.length c0_6) := (blk_cell BK777.out 6).trans rfl; have hfz20_0 := blk_frozen BK777.out 0; have hfz20_1 := blk_frozen BK777.out 1; have hfz20_2 := blk_frozen BK777.out 2; have hfz20_3 := blk_frozen BK777.out 3; have hfz20_4 := blk_frozen BK777.out 4; have hfz20_5 := blk_frozen BK777.out 5; have hfz20_6 := blk_frozen BK777.out 6) | ((with_reducible refine gate_callee (f := 26) rfl ?_); refine goesL_ (some 18) rfl rfl Try.func26 (by kernel_rfl) rfl #[.agg #[.int .i64 a0_0, .int .i64 a0_1, .int .i64 a0_2, .int .i64 a0_3, .slice A0_4 l0_4.length c0_4, .int .i64 a0_5, .slice A0_6 l0_6.length c0_6]] rfl (by (try simp only [List.map_toArray, List.map_cons, List.map_nil]); first | done | rfl | (simp only [List.length_drop, List.length_take]; rfl)) ?_; (with_reducible refine (laws_toSparse.calls k a0_0 a0_1 a0_2 a0_3 _ _ l0_4 a0_5 _ _ l0_6 t779 t780 t781 t782 t783 t786 t787 _ ?side1 ?side2 ?side3 ?side4 A8.out).mono ?_); (case side1 => repeat (first | exact (Kd.C_below HR0_4.out HB.out) | (with_reducible refine Kd.C_alloc ?_ _) | (with_reducible refine Kd.C_drewN ?_ _) | (with_reducible refine Kd.C_drew ?_))); (case side2 => exact HC0_4.out); (case side3 => repeat (first | exact (Kd.C_below HR0_6.out HB.out) | (with_reducible refine Kd.C_alloc ?_ _) | (with_reducible refine Kd.C_drewN ?_ _) | (with_reducible refine Kd.C_drew ?_))); (case side4 => exact HC0_6.out); rintro e w21 ⟨v784, v788, rfl, ho0, ho1, hb⟩; refine ⟨_, rfl, ?_⟩; have n0_ := Aside0.mk (Kd.R_lower ho0 (below_size (by repeat (first | (with_reducible first | exact HB.out | apply below_alloc | apply pw_below_drewN | apply below_drew1 | refine below_set ?_ GE777.out) | exact HB.out)))); have n1_ := Aside0.mk (Kd.R_lower ho1 (below_size (by repeat (first | (with_reducible first | exact HB.out | apply below_alloc | apply pw_below_drewN | apply below_drew1 | refine below_set ?_ GE777.out) | exact HB.out)))); have n2_ := Aside0.mk (blk_below (g := gb777) (o := .cells #[.int .i64 a0_0, .int .i64 a0_1, .int .i64 a0_2, .int .i64 a0_3, .slice A0_4 l0_4.length c0_4, .int .i64 a0_5, .slice A0_6 l0_6.length c0_6] 37 (0, 0)) (by (with_reducible repeat (first | refine blk_drewN ?_ _ | refine blk_drew ?_ | refine blk_alloc ?_ _)); exact BK777.out) hb); have n3_ := Aside0.mk (below_step (by repeat (first | (with_reducible first | exact HB.out | apply below_alloc | apply pw_below_drewN | apply below_drew1 | refine below_set ?_ GE777.out) | exact HB.out)) hb); clear BK777; clear HB; have HO785 := n0_; have HO789 := n1_; have BK777 := n2_; have HB := n3_; clear n0_ n1_ n2_ n3_; (try clear hb); (try clear hb2); (try clear hk); (try clear hi); (try clear ho0); (try clear ho1); obtain ⟨Ao22, co22, eo22⟩ := Kd.R_slice HO785.out; subst eo22; obtain ⟨Ao23, co23, eo23⟩ := Kd.R_slice HO789.out; subst eo23) | ((with_reducible refine gate_callee (f := 39) rfl ?_); refine goesL_ (some 20) rfl rfl Try.func39 (by kernel_rfl) rfl #[.agg #[.int .i64 t779, .int .i64 t780, .int .i64 t781, .int .i64 t782, .slice Ao22 t783.length co22, .int .i64 t786, .slice Ao23 t787.length co23], .int .i64 a1] rfl (by (try simp only [List.map_toArray, List.map_cons, List.map_nil]); first | done | rfl | (simp only [List.length_drop, List.length_take]; rfl)) ?_; (with_reducible refine (spec_FirstAtLeast.calls k t779 t780 t781 t782 _ _ t783 t786 _ _ t787 a1 t790 t791 _ ?side1 ?side2 ?side3 ?side4 A9.out).mono ?_); (case side1 => repeat (first | exact (Kd.R_reads' HO785.out).2.2 | (with_reducible refine Kd.C_alloc ?_ _) | (with_reducible refine Kd.C_drewN ?_ _) | (with_reducible refine Kd.C_drew ?_))); (case side2 => exact (Kd.R_reads' HO785.out).2.1); (case side3 => repeat (first | exact (Kd.R_reads' HO789.out).2.2 | (with_reducible refine Kd.C_alloc ?_ _) | (with_reducible refine Kd.C_drewN ?_ _) | (with_reducible refine Kd.C_drew ?_))); (case side4 => exact (Kd.R_reads' HO789.out).2.1); rintro e w24 ⟨rfl, hb⟩; refine ⟨_, rfl, ?_⟩; have n0_ := Aside0.mk (Kd.R_below (by (with_reducible repeat (first | apply Kd.R_alloc | apply Kd.R_drewN | apply Kd.R_drew)); exact HO785.out) hb); have n1_ := Aside0.mk (Kd.R_below (by (with_reducible repeat (first | apply Kd.R_alloc | apply Kd.R_drewN | apply Kd.R_drew)); exact HO789.out) hb); have n2_ := Aside0.mk (blk_below (g := gb777) (o := .cells #[.int .i64 a0_0, .int .i64 a0_1, .int .i64 a0_2, .int .i64 a0_3, .slice A0_4 l0_4.length c0_4, .int .i64 a0_5, .slice A0_6 l0_6.length c0_6] 37 (0, 0)) (by (with_reducible repeat (first | refine blk_drewN ?_ _ | refine blk_drew ?_ | refine blk_alloc ?_ _)); exact BK777.out) hb); have n3_ := Aside0.mk (below_step (by repeat (first | (with_reducible first | exact HB.out | apply below_alloc | apply pw_below_drewN | apply below_drew1 | refine below_set ?_ GE777.out) | exact HB.out)) hb); clear HO785; clear HO789; clear BK777; clear HB; have HO785 := n0_; have HO789 := n1_; have BK777 := n2_; have HB := n3_; clear n0_ n1_ n2_ n3_; (try clear hb); (try clear hb2); (try clear hk); (try clear hi); have hcz25_0 : w24.cell? ⟨gb777, 0, none⟩ = some (.int .i64 a0_0) := (blk_cell BK777.out 0).trans rfl; have hcz25_1 : w24.cell? ⟨gb777, 1, none⟩ = some (.int .i64 a0_1) := (blk_cell BK777.out 1).trans rfl; have hcz25_2 : w24.cell? ⟨gb777, 2, none⟩ = some (.int .i64 a0_2) := (blk_cell BK777.out 2).trans rfl; have hcz25_3 : w24.cell? ⟨gb777, 3, none⟩ = some (.int .i64 a0_3) := (blk_cell BK777.out 3).trans rfl; have hcz25_4 : w24.cell? ⟨gb777, 4, none⟩ = some (.slice A0_4 l0_4.length c0_4) := (blk_cell BK777.out 4).trans rfl; have hcz25_5 : w24.cell? ⟨gb777, 5, none⟩ = some (.int .i64 a0_5) := (blk_cell BK777.out 5).trans rfl; have hcz25_6 : w24.cell? ⟨gb777, 6, none⟩ = some (.slice A0_6 l0_6.length c0_6) := (blk_cell BK777.out 6).trans rfl; have hfz25_0 := blk_frozen BK777.out 0; have hfz25_1 := blk_frozen BK777.out 1; have hfz25_2 := blk_frozen BK777.out 2; have hfz25_3 := blk_frozen BK777.out 3; have hfz25_4 := blk_frozen BK777.out 4; have hfz25_5 := blk_frozen BK777.out 5; have hfz25_6 := blk_frozen BK777.out 6) | ((with_reducible refine gate_callee (f := 26) rfl ?_); refine goesL_ (some 24) rfl rfl Try.func26 (by kernel_rfl) rfl #[.agg #[.int .i64 a0_0, .int .i64 a0_1, .int .i64 a0_2, .int .i64 a0_3, .slice A0_4 l0_4.length c0_4, .int .i64 a0_5, .slice A0_6 l0_6.length c0_6]] rfl (by (try simp only [List.map_toArray, List.map_cons, List.map_nil]); first | done | rfl | (simp only [List.length_drop, List.length_take]; rfl)) ?_; (with_reducible refine (laws_toSparse.calls k a0_0 a0_1 a0_2 a0_3 _ _ l0_4 a0_5 _ _ l0_6 t792 t793 t794 t795 t796 t799 t800 _ ?side1 ?side2 ?side3 ?side4 A10.out).mono ?_); (case side1 => repeat (first | exact (Kd.C_below HR0_4.out HB.out) | (with_reducible refine Kd.C_alloc ?_ _) | (with_reducible refine Kd.C_drewN ?_ _) | (with_reducible refine Kd.C_drew ?_))); (case side2 => exact HC0_4.out); (case side3 => repeat (first | exact (Kd.C_below HR0_6.out HB.out) | (with_reducible refine Kd.C_alloc ?_ _) | (with_reducible refine Kd.C_drewN ?_ _) | (with_reducible refine Kd.C_drew ?_))); (case side4 => exact HC0_6.out); rintro e w26 ⟨v797, v801, rfl, ho0, ho1, hb⟩; refine ⟨_, rfl, ?_⟩; have n0_ := Aside0.mk (Kd.R_mono (Kd.R_told (Kd.R_told (Kd.R_old (by (with_reducible repeat (first | apply Kd.R_alloc | apply Kd.R_drewN | apply Kd.R_drew)); exact HO785.out) hb) (Kd.R_base ho0)) (Kd.R_base ho1)) (fun _ h_ => h_.1)); have n1_ := Aside0.mk (Kd.R_mono (Kd.R_told (Kd.R_told (Kd.R_old (by (with_reducible repeat (first | apply Kd.R_alloc | apply Kd.R_drewN | apply Kd.R_drew)); exact HO789.out) hb) (Kd.R_base ho0)) (Kd.R_base ho1)) (fun _ h_ => h_.1)); have n2_ := Aside0.mk (Kd.R_lower (Kd.R_new' (Kd.R_new' ho0 (Kd.R_lt (by (with_reducible repeat (first | apply Kd.R_alloc | apply Kd.R_drewN | apply Kd.R_drew)); exact HO785.out))) (Kd.R_lt (by (with_reducible repeat (first | apply Kd.R_alloc | apply Kd.R_drewN | apply Kd.R_drew)); exact HO789.out))) (below_size (by repeat (first | (with_reducible first | exact HB.out | apply below_alloc | apply pw_below_drewN | apply below_drew1 | refine below_set ?_ GE777.out) | exact HB.out)))); have n3_ := Aside0.mk (Kd.R_lower (Kd.R_new' (Kd.R_new' ho1 (Kd.R_lt (by (with_reducible repeat (first | apply Kd.R_alloc | apply Kd.R_drewN | apply Kd.R_drew)); exact HO785.out))) (Kd.R_lt (by (with_reducible repeat (first | apply Kd.R_alloc | apply Kd.R_drewN | apply Kd.R_drew)); exact HO789.out))) (below_size (by repeat (first | (with_reducible first | exact HB.out | apply below_alloc | apply pw_below_drewN | apply below_drew1 | refine below_set ?_ GE777.out) | exact HB.out)))); have n4_ := Aside0.mk (blk_below (g := gb777) (o := .cells #[.int .i64 a0_0, .int .i64 a0_1, .int .i64 a0_2, .int .i64 a0_3, .slice A0_4 l0_4.length c0_4, .int .i64 a0_5, .slice A0_6 l0_6.length c0_6] 37 (0, 0)) (by (with_reducible repeat (first | refine blk_drewN ?_ _ | refine blk_drew ?_ | refine blk_alloc ?_ _)); exact BK777.out) hb); have n5_ := Aside0.mk (below_step (by repeat (first | (with_reducible first | exact HB.out | apply below_alloc | apply pw_below_drewN | apply below_drew1 | refine below_set ?_ GE777.out) | exact HB.out)) hb); clear HO785; clear HO789; clear BK777; clear HB; have HO785 := n0_; have HO789 := n1_; have HO798 := n2_; have HO802 := n3_; have BK777 := n4_; have HB := n5_; clear n0_ n1_ n2_ n3_ n4_ n5_; (try clear hb); (try clear hb2); (try clear hk); (try clear hi); (try clear ho0); (try clear ho1)) | ((with_reducible refine gate_dst (N := 8) rfl ?_); refine box_event ?hg (N := 8) ?hd (cs := #[.int .i64 0, .int .i64 0, .int .i64 0, .int .i64 0, .slice none 0 0, .int .i64 0, .slice none 0 0]) (t := 26) ?hr ?_; (case hd => rfl); (case hg => rfl); (case hr => first | (go_simp; done) | (go_simp; rfl)); intro gb803 hg w27 hbox hb; have n0_ := Aside0.mk (Kd.R_below (by (with_reducible repeat (first | apply Kd.R_alloc | apply Kd.R_drewN | apply Kd.R_drew)); exact HO785.out) hb); have n1_ := Aside0.mk (Kd.R_below (by (with_reducible repeat (first | apply Kd.R_alloc | apply Kd.R_drewN | apply Kd.R_drew)); exact HO789.out) hb); have n2_ := Aside0.mk (Kd.R_below (by (with_reducible repeat (first | apply Kd.R_alloc | apply Kd.R_drewN | apply Kd.R_drew)); exact HO798.out) hb); have n3_ := Aside0.mk (Kd.R_below (by (with_reducible repeat (first | apply Kd.R_alloc | apply Kd.R_drewN | apply Kd.R_drew)); exact HO802.out) hb); have n4_ := Aside0.mk (blk_below (g := gb777) (o := .cells #[.int .i64 a0_0, .int .i64 a0_1, .int .i64 a0_2, .int .i64 a0_3, .slice A0_4 l0_4.length c0_4, .int .i64 a0_5, .slice A0_6 l0_6.length c0_6] 37 (0, 0)) (by (with_reducible repeat (first | refine blk_drewN ?_ _ | refine blk_drew ?_ | refine blk_alloc ?_ _)); exact BK777.out) hb); have n5_ := Aside0.mk (below_step (by repeat (first | (with_reducible first | exact HB.out | apply below_alloc | apply pw_below_drewN | apply below_drew1 | refine below_set ?_ GE777.out) | exact HB.out)) hb); have n6_ := Aside0.mk (hbox); have n7_ := Aside0.mk ((by rw [hg]; exact (below_size (by repeat (first | (with_reducible first | exact HB.out | apply below_alloc | apply pw_below_drewN | apply below_drew1 | refine below_set ?_ GE777.out) | exact HB.out))) : w.heap.size ≤ gb803)); have n8_ := Aside0.mk ((by rw [hg]; exact (below_size (by repeat (first | (with_reducible first | exact HB.out | apply below_alloc | apply pw_below_drewN | apply below_drew1 | refine below_set ?_ GE777.out) | exact HB.out))) : w.heap.size ≤ gb803)); have n9_ := Aside0.mk ((by rw [hg]; exact Nat.ne_of_lt (blk_lt (g := gb777) (o := .cells #[.int .i64 a0_0, .int .i64 a0_1, .int .i64 a0_2, .int .i64 a0_3, .slice A0_4 l0_4.length c0_4, .int .i64 a0_5, .slice A0_6 l0_6.length c0_6] 37 (0, 0)) (by (with_reducible repeat (first | refine blk_drewN ?_ _ | refine blk_drew ?_ | refine blk_alloc ?_ _)); exact BK777.out)) : gb777 ≠ gb803)); have n10_ := Aside0.mk ((by rw [hg]; exact Nat.ne_of_gt (blk_lt (g := gb777) (o := .cells #[.int .i64 a0_0, .int .i64 a0_1, .int .i64 a0_2, .int .i64 a0_3, .slice A0_4 l0_4.length c0_4, .int .i64 a0_5, .slice A0_6 l0_6.length c0_6] 37 (0, 0)) (by (with_reducible repeat (first | refine blk_drewN ?_ _ | refine blk_drew ?_ | refine blk_alloc ?_ _)); exact BK777.out)) : gb803 ≠ gb777)); clear HO785; clear HO789; clear HO798; clear HO802; clear BK777; clear HB; have HO785 := n0_; have HO789 := n1_; have HO798 := n2_; have HO802 := n3_; have BK777 := n4_; have HB := n5_; have BK803 := n6_; have GW803 := n7_; have GE803 := n8_; have NB777_803 := n9_; have NB803_777 := n10_; clear n0_ n1_ n2_ n3_ n4_ n5_ n6_ n7_ n8_ n9_ n10_; clear hb hbox hg; have hnb28 := NB803_777.out; have hnc28 := NB777_803.out; have hcz29_0 : w27.cell? ⟨gb803, 0, none⟩ = some (.int .i64 0) := (blk_cell BK803.out 0).trans rfl; have hcz29_1 : w27.cell? ⟨gb803, 1, none⟩ = some (.int .i64 0) := (blk_cell BK803.out 1).trans rfl; have hcz29_2 : w27.cell? ⟨gb803, 2, none⟩ = some (.int .i64 0) := (blk_cell BK803.out 2).trans rfl; have hcz29_3 : w27.cell? ⟨gb803, 3, none⟩ = some (.int .i64 0) := (blk_cell BK803.out 3).trans rfl; have hcz29_4 : w27.cell? ⟨gb803, 4, none⟩ = some (.slice none 0 0) := (blk_cell BK803.out 4).trans rfl; have hcz29_5 : w27.cell? ⟨gb803, 5, none⟩ = some (.int .i64 0) := (blk_cell BK803.out 5).trans rfl; have hcz29_6 : w27.cell? ⟨gb803, 6, none⟩ = some (.slice none 0 0) := (blk_cell BK803.out 6).trans rfl; have hfz29_0 := blk_frozen BK803.out 0; have hfz29_1 := blk_frozen BK803.out 1; have hfz29_2 := blk_frozen BK803.out 2; have hfz29_3 := blk_frozen BK803.out 3; have hfz29_4 := blk_frozen BK803.out 4; have hfz29_5 := blk_frozen BK803.out 5; have hfz29_6 := blk_frozen BK803.out 6; obtain ⟨Ao30, co30, eo30⟩ := Kd.R_slice HO798.out; subst eo30; obtain ⟨Ao31, co31, eo31⟩ := Kd.R_slice HO802.out; subst eo31) | ((with_reducible refine gate_callee (f := 40) rfl ?_); refine goesL_ (some 28) rfl rfl Try.func40 (by kernel_rfl) rfl #[.agg #[.int .i64 t792, .int .i64 t793, .int .i64 t794, .int .i64 t795, .slice Ao30 t796.length co30, .int .i64 t799, .slice Ao31 t800.length co31], .int .i64 a1] rfl (by (try simp only [List.map_toArray, List.map_cons, List.map_nil]); first | done | rfl | (simp only [List.length_drop, List.length_take]; rfl)) ?_; (with_reducible refine (impl_FirstAtLeast.calls k t792 t793 t794 t795 _ _ t796 t799 _ _ t800 a1 t804 t805 _ ?side1 ?side2 ?side3 ?side4 A11.out).mono ?_); (case side1 => refine (Kd.R_reads' (e := 3) (base := w.heap.size) (ok := fun k_ => ((some k_ ≠ (.slice Ao31 t800.length co31 : Value).ownBlock ∧ some k_ ≠ (.slice Ao22 t783.length co22 : Value).ownBlock) ∧ some k_ ≠ (.slice Ao23 t787.length co23 : Value).ownBlock)) (n := t796.length) (c := co30) ?_).2.2; exact (by (with_reducible repeat (first | apply Kd.R_alloc | apply Kd.R_drewN | apply Kd.R_drew)); exact (Kd.R_mono (Kd.R_far (p := ⟨gb803, 6, none⟩) (Kd.R_far (p := ⟨gb803, 5, none⟩) (Kd.R_far (p := ⟨gb803, 4, none⟩) (Kd.R_far (p := ⟨gb803, 3, none⟩) (Kd.R_far (p := ⟨gb803, 2, none⟩) (Kd.R_far (p := ⟨gb803, 1, none⟩) (Kd.R_far (p := ⟨gb803, 0, none⟩) (Kd.R_types HO798.out BK803.out (by decide)) (fun _ hk => hk.2) (.int .i64 t792)) (fun _ hk => hk.2) (.int .i64 t793)) (fun _ hk => hk.2) (.int .i64 t794)) (fun _ hk => hk.2) (.int .i64 t795)) (fun _ hk => hk.2) (.slice Ao30 t796.length co30)) (fun _ hk => hk.2) (.int .i64 t799)) (fun _ hk => hk.2) (.slice Ao31 t800.length co31)) (fun _ h_ => h_.1)))); (case side2 => exact (Kd.R_reads' HO798.out).2.1); (case side3 => refine (Kd.R_reads' (e := 3) (base := w.heap.size) (ok := fun k_ => ((some k_ ≠ (.slice Ao30 t796.length co30 : Value).ownBlock ∧ some k_ ≠ (.slice Ao22 t783.length co22 : Value).ownBlock) ∧ some k_ ≠ (.slice Ao23 t787.length co23 : Value).ownBlock)) (n := t800.length) (c := co31) ?_).2.2; exact (by (with_reducible repeat (first | apply Kd.R_alloc | apply Kd.R_drewN | apply Kd.R_drew)); exact (Kd.R_mono (Kd.R_far (p := ⟨gb803, 6, none⟩) (Kd.R_far (p := ⟨gb803, 5, none⟩) (Kd.R_far (p := ⟨gb803, 4, none⟩) (Kd.R_far (p := ⟨gb803, 3, none⟩) (Kd.R_far (p := ⟨gb803, 2, none⟩) (Kd.R_far (p := ⟨gb803, 1, none⟩) (Kd.R_far (p := ⟨gb803, 0, none⟩) (Kd.R_types HO802.out BK803.out (by decide)) (fun _ hk => hk.2) (.int .i64 t792)) (fun _ hk => hk.2) (.int .i64 t793)) (fun _ hk => hk.2) (.int .i64 t794)) (fun _ hk => hk.2) (.int .i64 t795)) (fun _ hk => hk.2) (.slice Ao30 t796.length co30)) (fun _ hk => hk.2) (.int .i64 t799)) (fun _ hk => hk.2) (.slice Ao31 t800.length co31)) (fun _ h_ => h_.1)))); (case side4 => exact (Kd.R_reads' HO802.out).2.1); rintro e w32 ⟨rfl, hb⟩; refine ⟨_, rfl, ?_⟩; have n0_ := Aside0.mk (Kd.R_below (by (with_reducible repeat (first | apply Kd.R_alloc | apply Kd.R_drewN | apply Kd.R_drew)); exact (Kd.R_mono (Kd.R_far (p := ⟨gb803, 6, none⟩) (Kd.R_far (p := ⟨gb803, 5, none⟩) (Kd.R_far (p := ⟨gb803, 4, none⟩) (Kd.R_far (p := ⟨gb803, 3, none⟩) (Kd.R_far (p := ⟨gb803, 2, none⟩) (Kd.R_far (p := ⟨gb803, 1, none⟩) (Kd.R_far (p := ⟨gb803, 0, none⟩) (Kd.R_types HO785.out BK803.out (by decide)) (fun _ hk => hk.2) (.int .i64 t792)) (fun _ hk => hk.2) (.int .i64 t793)) (fun _ hk => hk.2) (.int .i64 t794)) (fun _ hk => hk.2) (.int .i64 t795)) (fun _ hk => hk.2) (.slice Ao30 t796.length co30)) (fun _ hk => hk.2) (.int .i64 t799)) (fun _ hk => hk.2) (.slice Ao31 t800.length co31)) (fun _ h_ => h_.1))) hb); have n1_ := Aside0.mk (Kd.R_below (by (with_reducible repeat (first | apply Kd.R_alloc | apply Kd.R_drewN | apply Kd.R_drew)); exact (Kd.R_mono (Kd.R_far (p := ⟨gb803, 6, none⟩) (Kd.R_far (p := ⟨gb803, 5, none⟩) (Kd.R_far (p := ⟨gb803, 4, none⟩) (Kd.R_far (p := ⟨gb803, 3, none⟩) (Kd.R_far (p := ⟨gb803, 2, none⟩) (Kd.R_far (p := ⟨gb803, 1, none⟩) (Kd.R_far (p := ⟨gb803, 0, none⟩) (Kd.R_types HO789.out BK803.out (by decide)) (fun _ hk => hk.2) (.int .i64 t792)) (fun _ hk => hk.2) (.int .i64 t793)) (fun _ hk => hk.2) (.int .i64 t794)) (fun _ hk => hk.2) (.int .i64 t795)) (fun _ hk => hk.2) (.slice Ao30 t796.length co30)) (fun _ hk => hk.2) (.int .i64 t799)) (fun _ hk => hk.2) (.slice Ao31 t800.length co31)) (fun _ h_ => h_.1))) hb); have n2_ := Aside0.mk (Kd.R_below (by (with_reducible repeat (first | apply Kd.R_alloc | apply Kd.R_drewN | apply Kd.R_drew)); exact (Kd.R_mono (Kd.R_far (p := ⟨gb803, 6, none⟩) (Kd.R_far (p := ⟨gb803, 5, none⟩) (Kd.R_far (p := ⟨gb803, 4, none⟩) (Kd.R_far (p := ⟨gb803, 3, none⟩) (Kd.R_far (p := ⟨gb803, 2, none⟩) (Kd.R_far (p := ⟨gb803, 1, none⟩) (Kd.R_far (p := ⟨gb803, 0, none⟩) (Kd.R_types HO798.out BK803.out (by decide)) (fun _ hk => hk.2) (.int .i64 t792)) (fun _ hk => hk.2) (.int .i64 t793)) (fun _ hk => hk.2) (.int .i64 t794)) (fun _ hk => hk.2) (.int .i64 t795)) (fun _ hk => hk.2) (.slice Ao30 t796.length co30)) (fun _ hk => hk.2) (.int .i64 t799)) (fun _ hk => hk.2) (.slice Ao31 t800.length co31)) (fun _ h_ => h_.1))) hb); have n3_ := Aside0.mk (Kd.R_below (by (with_reducible repeat (first | apply Kd.R_alloc | apply Kd.R_drewN | apply Kd.R_drew)); exact (Kd.R_mono (Kd.R_far (p := ⟨gb803, 6, none⟩) (Kd.R_far (p := ⟨gb803, 5, none⟩) (Kd.R_far (p := ⟨gb803, 4, none⟩) (Kd.R_far (p := ⟨gb803, 3, none⟩) (Kd.R_far (p := ⟨gb803, 2, none⟩) (Kd.R_far (p := ⟨gb803, 1, none⟩) (Kd.R_far (p := ⟨gb803, 0, none⟩) (Kd.R_types HO802.out BK803.out (by decide)) (fun _ hk => hk.2) (.int .i64 t792)) (fun _ hk => hk.2) (.int .i64 t793)) (fun _ hk => hk.2) (.int .i64 t794)) (fun _ hk => hk.2) (.int .i64 t795)) (fun _ hk => hk.2) (.slice Ao30 t796.length co30)) (fun _ hk => hk.2) (.int .i64 t799)) (fun _ hk => hk.2) (.slice Ao31 t800.length co31)) (fun _ h_ => h_.1))) hb); have n4_ := Aside0.mk (blk_below (g := gb777) (o := .cells #[.int .i64 a0_0, .int .i64 a0_1, .int .i64 a0_2, .int .i64 a0_3, .slice A0_4 l0_4.length c0_4, .int .i64 a0_5, .slice A0_6 l0_6.length c0_6] 37 (0, 0)) (by (with_reducible repeat (first | refine blk_drewN ?_ _ | refine blk_drew ?_ | refine blk_alloc ?_ _)); refine blk_far ?_ NB777_803.out _; (with_reducible repeat (first | refine blk_drewN ?_ _ | refine blk_drew ?_ | refine blk_alloc ?_ _)); refine blk_far ?_ NB777_803.out _; (with_reducible repeat (first | refine blk_drewN ?_ _ | refine blk_drew ?_ | refine blk_alloc ?_ _)); refine blk_far ?_ NB777_803.out _; (with_reducible repeat (first | refine blk_drewN ?_ _ | refine blk_drew ?_ | refine blk_alloc ?_ _)); refine blk_far ?_ NB777_803.out _; (with_reducible repeat (first | refine blk_drewN ?_ _ | refine blk_drew ?_ | refine blk_alloc ?_ _)); refine blk_far ?_ NB777_803.out _; (with_reducible repeat (first | refine blk_drewN ?_ _ | refine blk_drew ?_ | refine blk_alloc ?_ _)); refine blk_far ?_ NB777_803.out _; (with_reducible repeat (first | refine blk_drewN ?_ _ | refine blk_drew ?_ | refine blk_alloc ?_ _)); refine blk_far ?_ NB777_803.out _; (with_reducible repeat (first | refine blk_drewN ?_ _ | refine blk_drew ?_ | refine blk_alloc ?_ _)); exact BK777.out) hb); have n5_ := Aside0.mk (blk_below (g := gb803) (o := .cells #[.int .i64 t792, .int .i64 t793, .int .i64 t794, .int .i64 t795, .slice Ao30 t796.length co30, .int .i64 t799, .slice Ao31 t800.length co31] 26 (0, 0)) (by (with_reducible repeat (first | refine blk_drewN ?_ _ | refine blk_drew ?_ | refine blk_alloc ?_ _)); refine blk_put (cs := #[.int .i64 t792, .int .i64 t793, .int .i64 t794, .int .i64 t795, .slice Ao30 t796.length co30, .int .i64 t799, .slice none 0 0]) ?_ 6 _ rfl; (with_reducible repeat (first | refine blk_drewN ?_ _ | refine blk_drew ?_ | refine blk_alloc ?_ _)); refine blk_put (cs := #[.int .i64 t792, .int .i64 t793, .int .i64 t794, .int .i64 t795, .slice Ao30 t796.length co30, .int .i64 0, .slice none 0 0]) ?_ 5 _ rfl; (with_reducible repeat (first | refine blk_drewN ?_ _ | refine blk_drew ?_ | refine blk_alloc ?_ _)); refine blk_put (cs := #[.int .i64 t792, .int .i64 t793, .int .i64 t794, .int .i64 t795, .slice none 0 0, .int .i64 0, .slice none 0 0]) ?_ 4 _ rfl; (with_reducible repeat (first | refine blk_drewN ?_ _ | refine blk_drew ?_ | refine blk_alloc ?_ _)); refine blk_put (cs := #[.int .i64 t792, .int .i64 t793, .int .i64 t794, .int .i64 0, .slice none 0 0, .int .i64 0, .slice none 0 0]) ?_ 3 _ rfl; (with_reducible repeat (first | refine blk_drewN ?_ _ | refine blk_drew ?_ | refine blk_alloc ?_ _)); refine blk_put (cs := #[.int .i64 t792, .int .i64 t793, .int .i64 0, .int .i64 0, .slice none 0 0, .int .i64 0, .slice none 0 0]) ?_ 2 _ rfl; (with_reducible repeat (first | refine blk_drewN ?_ _ | refine blk_drew ?_ | refine blk_alloc ?_ _)); refine blk_put (cs := #[.int .i64 t792, .int .i64 0, .int .i64 0, .int .i64 0, .slice none 0 0, .int .i64 0, .slice none 0 0]) ?_ 1 _ rfl; (with_reducible repeat (first | refine blk_drewN ?_ _ | refine blk_drew ?_ | refine blk_alloc ?_ _)); refine blk_put (cs := #[.int .i64 0, .int .i64 0, .int .i64 0, .int .i64 0, .slice none 0 0, .int .i64 0, .slice none 0 0]) ?_ 0 _ rfl; (with_reducible repeat (first | refine blk_drewN ?_ _ | refine blk_drew ?_ | refine blk_alloc ?_ _)); exact BK803.out) hb); have n6_ := Aside0.mk (below_step (by repeat (first | (with_reducible first | exact HB.out | apply below_alloc | apply pw_below_drewN | apply below_drew1 | refine below_set ?_ GE777.out | refine below_set ?_ GE803.out) | exact HB.out)) hb); clear HO785; clear HO789; clear HO798; clear HO802; clear BK777; clear BK803; clear HB; have HO785 := n0_; have HO789 := n1_; have HO798 := n2_; have HO802 := n3_; have BK777 := n4_; have BK803 := n5_; have HB := n6_; clear n0_ n1_ n2_ n3_ n4_ n5_ n6_; (try clear hb); (try clear hb2); (try clear hk); (try clear hi)))
      have n0_ := Aside0.mk (Kd.R_drew HO785.out)
      have n1_ := Aside0.mk (Kd.R_drew HO789.out)
      have n2_ := Aside0.mk (Kd.R_drew HO798.out)
      have n3_ := Aside0.mk (Kd.R_drew HO802.out)
      have n4_ := Aside0.mk (blk_drew BK777.out)
      have n5_ := Aside0.mk (blk_drew BK803.out)
      have n6_ := Aside0.mk (below_drew1 HB.out)
      clear HO785
      clear HO789
      clear HO798
      clear HO802
      clear BK777
      clear BK803
      clear HB
      have HO785 := n0_
      have HO789 := n1_
      have HO798 := n2_
      have HO802 := n3_
      have BK777 := n4_
      have BK803 := n5_
      have HB := n6_
      clear n0_ n1_ n2_ n3_ n4_ n5_ n6_
      refine start_ (n := 5) (S := fun w' => w'.cell? ⟨gb803, 0, none⟩ = some (.int .i64 t792) ∧ w'.cell? ⟨gb803, 1, none⟩ = some (.int .i64 t793) ∧ w'.cell? ⟨gb803, 2, none⟩ = some (.int .i64 t794) ∧ w'.cell? ⟨gb803, 3, none⟩ = some (.int .i64 t795) ∧ w'.cell? ⟨gb803, 4, none⟩ = some (.slice Ao30 t796.length co30) ∧ w'.cell? ⟨gb803, 5, none⟩ = some (.int .i64 t799) ∧ w'.cell? ⟨gb803, 6, none⟩ = some (.slice Ao31 t800.length co31) ∧ w'.cell? ⟨gb777, 0, none⟩ = some (.int .i64 a0_0) ∧ w'.cell? ⟨gb777, 1, none⟩ = some (.int .i64 a0_1) ∧ w'.cell? ⟨gb777, 2, none⟩ = some (.int .i64 a0_2) ∧ w'.cell? ⟨gb777, 3, none⟩ = some (.int .i64 a0_3) ∧ w'.cell? ⟨gb777, 4, none⟩ = some (.slice A0_4 l0_4.length c0_4) ∧ w'.cell? ⟨gb777, 5, none⟩ = some (.int .i64 a0_5) ∧ w'.cell? ⟨gb777, 6, none⟩ = some (.slice A0_6 l0_6.length c0_6)) (ds := []) #[false, false, false, false, false] (by kernel_rfl) rfl rfl ⟨(blk_cell BK803.out 0).trans rfl, (blk_cell BK803.out 1).trans rfl, (blk_cell BK803.out 2).trans rfl, (blk_cell BK803.out 3).trans rfl, (blk_cell BK803.out 4).trans rfl, (blk_cell BK803.out 5).trans rfl, (blk_cell BK803.out 6).trans rfl, (blk_cell BK777.out 0).trans rfl, (blk_cell BK777.out 1).trans rfl, (blk_cell BK777.out 2).trans rfl, (blk_cell BK777.out 3).trans rfl, (blk_cell BK777.out 4).trans rfl, (blk_cell BK777.out 5).trans rfl, (blk_cell BK777.out 6).trans rfl⟩ (fun hHeld => ?_)
      generalize w32.drew = w33 at HO785 HO789 HO798 HO802 BK777 BK803 HB hHeld ⊢
      refine take_ (i := 0) (N := some 39) (v := ?_) (a' := ?_) (bsA 5 1) rfl rfl (by kernel_rfl) (fun _ _ _ h => h) (Or.inl ⟨by rfl, ?_⟩) hHeld ?_ ?_
      rotate_left
      ·rintro w' ⟨s0, s1, s2, s3, s4, s5, s6, s7, s8, s9, s10, s11, s12, s13⟩
       go_simp
       with_reducible rfl
      rotate_left
      ·simp only [Act.put, List.setIfInBounds_toArray, List.set_cons_zero, List.set_cons_succ, i64_w]
       rfl
      refine take_ (i := 1) (N := some 40) (v := ?_) (a' := ?_) (bsA 5 3) rfl rfl (by kernel_rfl) (fun _ _ _ h => h) (Or.inl ⟨by rfl, ?_⟩) hHeld ?_ ?_
      rotate_left
      ·rintro w' ⟨s0, s1, s2, s3, s4, s5, s6, s7, s8, s9, s10, s11, s12, s13⟩
       go_simp
       with_reducible rfl
      rotate_left
      ·simp only [Act.put, List.setIfInBounds_toArray, List.set_cons_zero, List.set_cons_succ, i64_w]
       rfl
      refine one_ (i := 2) (N := some 41) (bsA 5 7) rfl rfl (by kernel_rfl) (by decide) (fun K hK => ?_)
      refine goes_ Try.func26 (by kernel_rfl) rfl #[.agg #[.int .i64 a0_0, .int .i64 a0_1, .int .i64 a0_2, .int .i64 a0_3, .slice A0_4 l0_4.length c0_4, .int .i64 a0_5, .slice A0_6 l0_6.length c0_6]] (by rfl) rfl rfl (by (try simp only [List.map_toArray, List.map_cons, List.map_nil]); first | done | rfl | (simp only [List.length_drop, List.length_take]; rfl)) ?_
      with_reducible refine (laws_toSparse.calls k a0_0 a0_1 a0_2 a0_3 _ _ l0_4 a0_5 _ _ l0_6 t806 t807 t808 t809 t810 t813 t814 _ ?side1 ?side2 ?side3 ?side4 A14.out).mono ?_
      (case side1 => repeat (first | exact (Kd.C_below HR0_4.out HB.out) | (with_reducible refine Kd.C_alloc ?_ _) | (with_reducible refine Kd.C_drewN ?_ _) | (with_reducible refine Kd.C_drew ?_)))
      (case side2 => exact HC0_4.out)
      (case side3 => repeat (first | exact (Kd.C_below HR0_6.out HB.out) | (with_reducible refine Kd.C_alloc ?_ _) | (with_reducible refine Kd.C_drewN ?_ _) | (with_reducible refine Kd.C_drew ?_)))
      (case side4 => exact HC0_6.out)
      rintro e w34 ⟨v811, v815, rfl, ho0, ho1, hb⟩
      refine ⟨_, rfl, ?_⟩
      have n0_ := Aside0.mk (Kd.R_mono (Kd.R_told (Kd.R_told (Kd.R_old (by (with_reducible repeat (first | apply Kd.R_alloc | apply Kd.R_drewN | apply Kd.R_drew)); exact HO785.out) hb) (Kd.R_base ho0)) (Kd.R_base ho1)) (fun _ h_ => h_.1))
      have n1_ := Aside0.mk (Kd.R_mono (Kd.R_told (Kd.R_told (Kd.R_old (by (with_reducible repeat (first | apply Kd.R_alloc | apply Kd.R_drewN | apply Kd.R_drew)); exact HO789.out) hb) (Kd.R_base ho0)) (Kd.R_base ho1)) (fun _ h_ => h_.1))
      have n2_ := Aside0.mk (Kd.R_mono (Kd.R_told (Kd.R_told (Kd.R_old (by (with_reducible repeat (first | apply Kd.R_alloc | apply Kd.R_drewN | apply Kd.R_drew)); exact HO798.out) hb) (Kd.R_base ho0)) (Kd.R_base ho1)) (fun _ h_ => h_.1))
      have n3_ := Aside0.mk (Kd.R_mono (Kd.R_told (Kd.R_told (Kd.R_old (by (with_reducible repeat (first | apply Kd.R_alloc | apply Kd.R_drewN | apply Kd.R_drew)); exact HO802.out) hb) (Kd.R_base ho0)) (Kd.R_base ho1)) (fun _ h_ => h_.1))
      have n4_ := Aside0.mk (Kd.R_lower (Kd.R_new' (Kd.R_new' (Kd.R_new' (Kd.R_new' ho0 (Kd.R_lt (by (with_reducible repeat (first | apply Kd.R_alloc | apply Kd.R_drewN | apply Kd.R_drew)); exact HO785.out))) (Kd.R_lt (by (with_reducible repeat (first | apply Kd.R_alloc | apply Kd.R_drewN | apply Kd.R_drew)); exact HO789.out))) (Kd.R_lt (by (with_reducible repeat (first | apply Kd.R_alloc | apply Kd.R_drewN | apply Kd.R_drew)); exact HO798.out))) (Kd.R_lt (by (with_reducible repeat (first | apply Kd.R_alloc | apply Kd.R_drewN | apply Kd.R_drew)); exact HO802.out))) (below_size (by repeat (first | (with_reducible first | exact HB.out | apply below_alloc | apply pw_below_drewN | apply below_drew1 | refine below_set ?_ GE777.out | refine below_set ?_ GE803.out) | exact HB.out))))
      have n5_ := Aside0.mk (Kd.R_lower (Kd.R_new' (Kd.R_new' (Kd.R_new' (Kd.R_new' ho1 (Kd.R_lt (by (with_reducible repeat (first | apply Kd.R_alloc | apply Kd.R_drewN | apply Kd.R_drew)); exact HO785.out))) (Kd.R_lt (by (with_reducible repeat (first | apply Kd.R_alloc | apply Kd.R_drewN | apply Kd.R_drew)); exact HO789.out))) (Kd.R_lt (by (with_reducible repeat (first | apply Kd.R_alloc | apply Kd.R_drewN | apply Kd.R_drew)); exact HO798.out))) (Kd.R_lt (by (with_reducible repeat (first | apply Kd.R_alloc | apply Kd.R_drewN | apply Kd.R_drew)); exact HO802.out))) (below_size (by repeat (first | (with_reducible first | exact HB.out | apply below_alloc | apply pw_below_drewN | apply below_drew1 | refine below_set ?_ GE777.out | refine below_set ?_ GE803.out) | exact HB.out))))
      have n6_ := Aside0.mk (blk_below (g := gb777) (o := .cells #[.int .i64 a0_0, .int .i64 a0_1, .int .i64 a0_2, .int .i64 a0_3, .slice A0_4 l0_4.length c0_4, .int .i64 a0_5, .slice A0_6 l0_6.length c0_6] 37 (0, 0)) (by (with_reducible repeat (first | refine blk_drewN ?_ _ | refine blk_drew ?_ | refine blk_alloc ?_ _)); exact BK777.out) hb)
      have n7_ := Aside0.mk (blk_below (g := gb803) (o := .cells #[.int .i64 t792, .int .i64 t793, .int .i64 t794, .int .i64 t795, .slice Ao30 t796.length co30, .int .i64 t799, .slice Ao31 t800.length co31] 26 (0, 0)) (by (with_reducible repeat (first | refine blk_drewN ?_ _ | refine blk_drew ?_ | refine blk_alloc ?_ _)); exact BK803.out) hb)
      have n8_ := Aside0.mk (below_step (by repeat (first | (with_reducible first | exact HB.out | apply below_alloc | apply pw_below_drewN | apply below_drew1 | refine below_set ?_ GE777.out | refine below_set ?_ GE803.out) | exact HB.out)) hb)
      clear HO785
      clear HO789
      clear HO798
      clear HO802
      clear BK777
      clear BK803
      clear HB
      have HO785 := n0_
      have HO789 := n1_
      have HO798 := n2_
      have HO802 := n3_
      have HO812 := n4_
      have HO816 := n5_
      have BK777 := n6_
      have BK803 := n7_
      have HB := n8_
      clear n0_ n1_ n2_ n3_ n4_ n5_ n6_ n7_ n8_
      (try clear hb)
      (try clear hb2)
      (try clear hk)
      (try clear hi)
      (try clear ho0)
      (try clear ho1)
      obtain ⟨Ao35, co35, eo35⟩ := Kd.R_slice HO812.out
      (first | subst eo35 | (injection eo35 with f1_ f2_ f3_; have f4_ := f1_.symm; have f5_ := f3_.symm; clear f1_ f2_ f3_; subst f4_; subst f5_))
      obtain ⟨Ao36, co36, eo36⟩ := Kd.R_slice HO816.out
      (first | subst eo36 | (injection eo36 with f1_ f2_ f3_; have f4_ := f1_.symm; have f5_ := f3_.symm; clear f1_ f2_ f3_; subst f4_; subst f5_))
      refine hK.out _ _ ⟨(blk_cell BK803.out 0).trans rfl, (blk_cell BK803.out 1).trans rfl, (blk_cell BK803.out 2).trans rfl, (blk_cell BK803.out 3).trans rfl, (blk_cell BK803.out 4).trans rfl, (blk_cell BK803.out 5).trans rfl, (blk_cell BK803.out 6).trans rfl, (blk_cell BK777.out 0).trans rfl, (blk_cell BK777.out 1).trans rfl, (blk_cell BK777.out 2).trans rfl, (blk_cell BK777.out 3).trans rfl, (blk_cell BK777.out 4).trans rfl, (blk_cell BK777.out 5).trans rfl, (blk_cell BK777.out 6).trans rfl⟩ (fun hHeld => ?_)
      clear hK K
      refine norm_ (a' := ?_) ?_ ?_
      rotate_left
      ·show Act.put _ (some 41) _ = _
       simp only [Act.put, List.setIfInBounds_toArray, List.set_cons_zero, List.set_cons_succ, i64_w]
       rfl
      refine one_ (i := 3) (N := some 42) (bsA 5 15) rfl rfl (by kernel_rfl) (by decide) (fun K hK => ?_)
      refine goes_ Try.func19 (by kernel_rfl) rfl #[.agg #[.int .i64 t792, .int .i64 t793, .int .i64 t794, .int .i64 t795, .slice Ao30 t796.length co30, .int .i64 t799, .slice Ao31 t800.length co31], .agg #[.int .i64 t806, .int .i64 t807, .int .i64 t808, .int .i64 t809, .slice Ao35 t810.length co35, .int .i64 t813, .slice Ao36 t814.length co36]] (by rfl) rfl rfl (by (try simp only [List.map_toArray, List.map_cons, List.map_nil]); first | done | rfl | (simp only [List.length_drop, List.length_take]; rfl)) ?_
      with_reducible refine (laws_eqSparse.calls k t792 t793 t794 t795 _ _ t796 t799 _ _ t800 t806 t807 t808 t809 _ _ t810 t813 _ _ t814 true _ ?side1 ?side2 ?side3 ?side4 ?side5 ?side6 ?side7 ?side8 A15.out).mono ?_
      (case side1 => repeat (first | exact (Kd.R_reads' HO798.out).2.2 | (with_reducible refine Kd.C_alloc ?_ _) | (with_reducible refine Kd.C_drewN ?_ _) | (with_reducible refine Kd.C_drew ?_)))
      (case side2 => exact (Kd.R_reads' HO798.out).2.1)
      (case side3 => repeat (first | exact (Kd.R_reads' HO802.out).2.2 | (with_reducible refine Kd.C_alloc ?_ _) | (with_reducible refine Kd.C_drewN ?_ _) | (with_reducible refine Kd.C_drew ?_)))
      (case side4 => exact (Kd.R_reads' HO802.out).2.1)
      (case side5 => repeat (first | exact (Kd.R_reads' HO812.out).2.2 | (with_reducible refine Kd.C_alloc ?_ _) | (with_reducible refine Kd.C_drewN ?_ _) | (with_reducible refine Kd.C_drew ?_)))
      (case side6 => exact (Kd.R_reads' HO812.out).2.1)
      (case side7 => repeat (first | exact (Kd.R_reads' HO816.out).2.2 | (with_reducible refine Kd.C_alloc ?_ _) | (with_reducible refine Kd.C_drewN ?_ _) | (with_reducible refine Kd.C_drew ?_)))
      (case side8 => exact (Kd.R_reads' HO816.out).2.1)
      rintro e w37 ⟨rfl, hb⟩
      refine ⟨_, rfl, ?_⟩
      have n0_ := Aside0.mk (Kd.R_below (by (with_reducible repeat (first | apply Kd.R_alloc | apply Kd.R_drewN | apply Kd.R_drew)); exact HO785.out) hb)
      have n1_ := Aside0.mk (Kd.R_below (by (with_reducible repeat (first | apply Kd.R_alloc | apply Kd.R_drewN | apply Kd.R_drew)); exact HO789.out) hb)
      have n2_ := Aside0.mk (Kd.R_below (by (with_reducible repeat (first | apply Kd.R_alloc | apply Kd.R_drewN | apply Kd.R_drew)); exact HO798.out) hb)
      have n3_ := Aside0.mk (Kd.R_below (by (with_reducible repeat (first | apply Kd.R_alloc | apply Kd.R_drewN | apply Kd.R_drew)); exact HO802.out) hb)
      have n4_ := Aside0.mk (Kd.R_below (by (with_reducible repeat (first | apply Kd.R_alloc | apply Kd.R_drewN | apply Kd.R_drew)); exact HO812.out) hb)
      have n5_ := Aside0.mk (Kd.R_below (by (with_reducible repeat (first | apply Kd.R_alloc | apply Kd.R_drewN | apply Kd.R_drew)); exact HO816.out) hb)
      have n6_ := Aside0.mk (blk_below (g := gb777) (o := .cells #[.int .i64 a0_0, .int .i64 a0_1, .int .i64 a0_2, .int .i64 a0_3, .slice A0_4 l0_4.length c0_4, .int .i64 a0_5, .slice A0_6 l0_6.length c0_6] 37 (0, 0)) (by (with_reducible repeat (first | refine blk_drewN ?_ _ | refine blk_drew ?_ | refine blk_alloc ?_ _)); exact BK777.out) hb)
      have n7_ := Aside0.mk (blk_below (g := gb803) (o := .cells #[.int .i64 t792, .int .i64 t793, .int .i64 t794, .int .i64 t795, .slice Ao30 t796.length co30, .int .i64 t799, .slice Ao31 t800.length co31] 26 (0, 0)) (by (with_reducible repeat (first | refine blk_drewN ?_ _ | refine blk_drew ?_ | refine blk_alloc ?_ _)); exact BK803.out) hb)
      have n8_ := Aside0.mk (below_step (by repeat (first | (with_reducible first | exact HB.out | apply below_alloc | apply pw_below_drewN | apply below_drew1 | refine below_set ?_ GE777.out | refine below_set ?_ GE803.out) | exact HB.out)) hb)
      clear HO785
      clear HO789
      clear HO798
      clear HO802
      clear HO812
      clear HO816
      clear BK777
      clear BK803
      clear HB
      have HO785 := n0_
      have HO789 := n1_
      have HO798 := n2_
      have HO802 := n3_
      have HO812 := n4_
      have HO816 := n5_
      have BK777 := n6_
      have BK803 := n7_
      have HB := n8_
      clear n0_ n1_ n2_ n3_ n4_ n5_ n6_ n7_ n8_
      (try clear hb)
      (try clear hb2)
      (try clear hk)
      (try clear hi)
      refine hK.out _ _ ⟨(blk_cell BK803.out 0).trans rfl, (blk_cell BK803.out 1).trans rfl, (blk_cell BK803.out 2).trans rfl, (blk_cell BK803.out 3).trans rfl, (blk_cell BK803.out 4).trans rfl, (blk_cell BK803.out 5).trans rfl, (blk_cell BK803.out 6).trans rfl, (blk_cell BK777.out 0).trans rfl, (blk_cell BK777.out 1).trans rfl, (blk_cell BK777.out 2).trans rfl, (blk_cell BK777.out 3).trans rfl, (blk_cell BK777.out 4).trans rfl, (blk_cell BK777.out 5).trans rfl, (blk_cell BK777.out 6).trans rfl⟩ (fun hHeld => ?_)
      clear hK K
      refine norm_ (a' := ?_) ?_ ?_
      rotate_left
      ·show Act.put _ (some 42) _ = _
       simp only [Act.put, List.setIfInBounds_toArray, List.set_cons_zero, List.set_cons_succ, i64_w]
       rfl
      refine pure_ (i := 4) (N := some 43) (v := ?_) (a' := ?_) (bsA 5 31) rfl rfl (by kernel_rfl) (fun _ _ _ h => h) (Or.inl ⟨by rfl, ?_⟩) ?_ ?_
      rotate_left
      ·intro w'
       go_simp
       with_reducible rfl
      rotate_left
      ·simp only [Act.put, List.setIfInBounds_toArray, List.set_cons_zero, List.set_cons_succ, i64_w]
       rfl
      refine done_ (by kernel_rfl) ?_
      try go_wp2
      go_ret
      exact ⟨by first | rfl | (simp [errW_none, errW_some] <;> rfl) | (simp [*, errW_none, errW_some] <;> rfl), by repeat (first | (with_reducible first | exact HB.out | apply below_alloc | apply pw_below_drewN | apply below_drew1 | refine below_set ?_ GE777.out | refine below_set ?_ GE803.out) | exact HB.out)⟩
     ·replace c16 := Bool.eq_false_iff.mpr c16
      subst c16
      have H1 : (none) = some r := by rw [if_neg (show ¬ (false = true) by decide)] at H; exact H
      clear H
      have H := H1
      clear H1
      exact absurd H (by simp)
   ·rw [if_neg c12] at H
    exact absurd H (by simp)

/-- What is to be shown of laws_FnExactFirstAtLeast: plain. -/
def laws_FnExactFirstAtLeast.Pure : Prop := ∀ (a0_0 : Int) (a0_1 : Int) (a0_2 : Int) (a0_3 : Int) (l0_4 : List Int) (a0_5 : Int) (l0_6 : List Int) (a1 : Int), (wfI .i64) a0_0 → (wfI .i64) a0_1 → (wfI .i64) a0_2 → (wfI .i64) a0_3 → (wfL (wfI .i64)) l0_4 → (wfI .i64) a0_5 → (wfL (wfI .i64)) l0_6 → (wfI .i64) a1 → ∃ k, laws_FnExactFirstAtLeast.f k a0_0 a0_1 a0_2 a0_3 l0_4 a0_5 l0_6 a1 = some true
theorem laws_FnExactFirstAtLeast.walk (P : laws_FnExactFirstAtLeast.Pure) (a0_0 : Int) (a0_1 : Int) (a0_2 : Int) (a0_3 : Int) (A0_4 : Option Addr) (c0_4 : Nat) (l0_4 : List Int) (a0_5 : Int) (A0_6 : Option Addr) (c0_6 : Nat) (l0_6 : List Int) (a1 : Int) (w : World) (hr0_4 : Kd.C (Kd.int .i64) w A0_4 l0_4.length l0_4) (hc0_4 : l0_4.length ≤ c0_4) (hr0_6 : Kd.C (Kd.int .i64) w A0_6 l0_6.length l0_6) (hc0_6 : l0_6.length ≤ c0_6) (hw0_0 : (wfI .i64) a0_0) (hw0_1 : (wfI .i64) a0_1) (hw0_2 : (wfI .i64) a0_2) (hw0_3 : (wfI .i64) a0_3) (hw0_4 : (wfL (wfI .i64)) l0_4) (hw0_5 : (wfI .i64) a0_5) (hw0_6 : (wfL (wfI .i64)) l0_6) (hw1 : (wfI .i64) a1) :
    Calls Try.prog 10 #[.agg #[.int .i64 a0_0, .int .i64 a0_1, .int .i64 a0_2, .int .i64 a0_3, .slice A0_4 l0_4.length c0_4, .int .i64 a0_5, .slice A0_6 l0_6.length c0_6], .int .i64 a1] w fun e w' => e = .returned (.bool true) ∧ Below w.heap.size w w' := by
  obtain ⟨k, h⟩ := P a0_0 a0_1 a0_2 a0_3 l0_4 a0_5 l0_6 a1 hw0_0 hw0_1 hw0_2 hw0_3 hw0_4 hw0_5 hw0_6 hw1
  refine (laws_FnExactFirstAtLeast.calls k a0_0 a0_1 a0_2 a0_3 A0_4 c0_4 l0_4 a0_5 A0_6 c0_6 l0_6 a1 true w hr0_4 hc0_4 hr0_6 hc0_6 h).mono ?_
  rintro e w' ⟨rfl, hd⟩
  exact ⟨rfl, hd⟩
end Go.Proofs.Ytdlbdocpofnfjaa.X
