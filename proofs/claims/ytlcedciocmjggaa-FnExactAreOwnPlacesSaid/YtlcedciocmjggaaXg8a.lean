/- Written by a program of this session: what functions of the given program compute, and that their calls do so. -/
import Derived.Test.YtlcedciocmjggaaXx0
import Derived.Test.YtlcedciocmjggaaXg3e0aa
import Derived.Test.YtlcedciocmjggaaXg3e0ea
import Derived.Test.YtlcedciocmjggaaXg3e1fa
import Derived.Test.YtlcedciocmjggaaXg3e5fa
namespace Go.Proofs.Ytlcedciocmjggaa.X
open Go.RowKit Go.Proofs.YtlcedciocmjggaaW.PrintWords Go.Proofs.YtlcedciocmjggaaW.PrintLast Go.Proofs.YtlcedciocmjggaaW.PrintMore
attribute [local go_sem] max2_int min2_int max_two min_two max_three min_three max_four min_four   -- for this text's walks alone
set_option linter.unusedVariables false
set_option linter.unusedSimpArgs false
/-! ### spec_AreOwnPlaces: function 31 -/
def spec_AreOwnPlaces.l0 : Nat → List Int → List Int → Int → Int → Int → List (List Int) → Option (Bool × Bool)
  | 0, _, _, _, _, _, _ => none
  | k + 1, x1, x17, x18, x19, x359000, x359001 => if x19 < x18 then (if 0 ≤ x19 then (if x19 < (x17.length : Int) then (if x19 < (x359001.length : Int) then ((spec_l1Has.f k (rd_L1 x359001 x19) (rd x17 x19)).bind fun t362 => (if t362 = true then (if x19 ≤ (x1.length : Int) then ((spec_l1Has.f k (x1.take (x19 : Int).toNat) (rd x17 x19)).bind fun t364 => (if t364 = true then (some (false, true)) else (spec_AreOwnPlaces.l0 k x1 x17 x18 (wrap64 (x19 + 1)) x359000 x359001))) else (none)) else (some (false, true)))) else (none)) else (none)) else (none)) else (some (true, true))
def spec_AreOwnPlaces.f (k : Nat) (a0_0 : Int) (l0_1 : List (List Int)) (l1 : List Int) : Option (Bool × Bool) := (spec_peGood.f k a0_0 l0_1).bind fun t359 => (if t359 = true then (if (l1.length : Int) = (l0_1.length : Int) then (spec_AreOwnPlaces.l0 k l1 l1 (l1.length : Int) 0 a0_0 l0_1) else (some (false, true))) else (some (false, false)))
theorem spec_AreOwnPlaces.mono_l : ∀ k, (∀ y0 y1 y2 y3 y4 y5, LeO (spec_AreOwnPlaces.l0 k y0 y1 y2 y3 y4 y5) (spec_AreOwnPlaces.l0 (k + 1) y0 y1 y2 y3 y4 y5))
  | 0 => fun _ _ _ _ _ _ r h => by simp [spec_AreOwnPlaces.l0] at h
  | k + 1 => by
    have ih0 := spec_AreOwnPlaces.mono_l k
    · intro y0 y1 y2 y3 y4 y5
      unfold spec_AreOwnPlaces.l0
      repeat' first
      | (with_reducible exact ih0 _ _ _ _ _ _)
      | (with_reducible exact spec_l1Has.mono _ _ _)
      | (with_reducible exact spec_peGood.mono _ _ _)
      | (with_reducible exact LeO.refl _)
      | (with_reducible exact LeO.none _)
      | (with_reducible refine LeO.ite ?_ ?_)
      | (with_reducible refine LeO.bind ?_ (fun _ => ?_))
      | exact ih0 _ _ _ _ _ _
      | exact spec_l1Has.mono _ _ _
      | exact spec_peGood.mono _ _ _
      | exact LeO.none _
      | refine LeO.ite ?_ ?_
      | refine LeO.bind ?_ (fun _ => ?_)
theorem spec_AreOwnPlaces.mono : ∀ a0 a1 a2 k, LeO (spec_AreOwnPlaces.f k a0 a1 a2) (spec_AreOwnPlaces.f (k + 1) a0 a1 a2) := by
  intro a0 a1 a2 k
  have ih0 := spec_AreOwnPlaces.mono_l k
  unfold spec_AreOwnPlaces.f
  repeat' first
      | (with_reducible exact ih0 _ _ _ _ _ _)
      | (with_reducible exact spec_l1Has.mono _ _ _)
      | (with_reducible exact spec_peGood.mono _ _ _)
      | (with_reducible exact LeO.refl _)
      | (with_reducible exact LeO.none _)
      | (with_reducible refine LeO.ite ?_ ?_)
      | (with_reducible refine LeO.bind ?_ (fun _ => ?_))
      | exact ih0 _ _ _ _ _ _
      | exact spec_l1Has.mono _ _ _
      | exact spec_peGood.mono _ _ _
      | exact LeO.none _
      | refine LeO.ite ?_ ?_
      | refine LeO.bind ?_ (fun _ => ?_)
noncomputable def spec_AreOwnPlaces.L0 (y0 : List Int) (y1 : List Int) (y2 : Int) (y3 : Int) (y4 : Int) (y5 : List (List Int)) : Option (Bool × Bool) := lim fun k => spec_AreOwnPlaces.l0 k y0 y1 y2 y3 y4 y5
theorem spec_AreOwnPlaces.L0_sup (y0 : List Int) (y1 : List Int) (y2 : Int) (y3 : Int) (y4 : Int) (y5 : List (List Int)) : Sup (fun k => spec_AreOwnPlaces.l0 k y0 y1 y2 y3 y4 y5) (spec_AreOwnPlaces.L0 y0 y1 y2 y3 y4 y5) := Sup.of_mono fun k => spec_AreOwnPlaces.mono_l k y0 y1 y2 y3 y4 y5
noncomputable def spec_AreOwnPlaces.F (a0_0 : Int) (l0_1 : List (List Int)) (l1 : List Int) : Option (Bool × Bool) := lim fun k => spec_AreOwnPlaces.f k a0_0 l0_1 l1
theorem spec_AreOwnPlaces.F_sup (a0_0 : Int) (l0_1 : List (List Int)) (l1 : List Int) : Sup (fun k => spec_AreOwnPlaces.f k a0_0 l0_1 l1) (spec_AreOwnPlaces.F a0_0 l0_1 l1) := Sup.of_mono fun k => spec_AreOwnPlaces.mono a0_0 l0_1 l1 k
theorem spec_AreOwnPlaces.L0_eq (x1 : List Int) (x17 : List Int) (x18 : Int) (x19 : Int) (x359000 : Int) (x359001 : List (List Int)) : spec_AreOwnPlaces.L0 x1 x17 x18 x19 x359000 x359001 = if x19 < x18 then (if 0 ≤ x19 then (if x19 < (x17.length : Int) then (if x19 < (x359001.length : Int) then ((spec_l1Has.F (rd_L1 x359001 x19) (rd x17 x19)).bind fun t362 => (if t362 = true then (if x19 ≤ (x1.length : Int) then ((spec_l1Has.F (x1.take (x19 : Int).toNat) (rd x17 x19)).bind fun t364 => (if t364 = true then (some (false, true)) else (spec_AreOwnPlaces.L0 x1 x17 x18 (wrap64 (x19 + 1)) x359000 x359001))) else (none)) else (some (false, true)))) else (none)) else (none)) else (none)) else (some (true, true)) := by
  refine Sup.unique (spec_AreOwnPlaces.L0_sup x1 x17 x18 x19 x359000 x359001) (Sup.shift (fun k => spec_AreOwnPlaces.mono_l k x1 x17 x18 x19 x359000 x359001) (Sup.congr (g' := fun k => if x19 < x18 then (if 0 ≤ x19 then (if x19 < (x17.length : Int) then (if x19 < (x359001.length : Int) then ((spec_l1Has.f k (rd_L1 x359001 x19) (rd x17 x19)).bind fun t362 => (if t362 = true then (if x19 ≤ (x1.length : Int) then ((spec_l1Has.f k (x1.take (x19 : Int).toNat) (rd x17 x19)).bind fun t364 => (if t364 = true then (some (false, true)) else (spec_AreOwnPlaces.l0 k x1 x17 x18 (wrap64 (x19 + 1)) x359000 x359001))) else (none)) else (some (false, true)))) else (none)) else (none)) else (none)) else (some (true, true))) (fun k => by first | rfl | simp only [spec_AreOwnPlaces.l0]) ?_))
  repeat' first
    | (with_reducible exact spec_AreOwnPlaces.L0_sup _ _ _ _ _ _)
    | (with_reducible exact spec_peGood.F_sup _ _)
    | (with_reducible exact spec_l1Has.F_sup _ _)
    | (with_reducible refine Sup.ite ?_ ?_)
    | (with_reducible refine Sup.bind ?_ (fun _ => ?_))
    | (with_reducible exact Sup.const _)
    | exact spec_AreOwnPlaces.L0_sup _ _ _ _ _ _
    | exact spec_peGood.F_sup _ _
    | exact spec_l1Has.F_sup _ _
    | exact Sup.const _
theorem spec_AreOwnPlaces.F_eq (a0_0 : Int) (l0_1 : List (List Int)) (l1 : List Int) : spec_AreOwnPlaces.F a0_0 l0_1 l1 = (spec_peGood.F a0_0 l0_1).bind fun t359 => (if t359 = true then (if (l1.length : Int) = (l0_1.length : Int) then (spec_AreOwnPlaces.L0 l1 l1 (l1.length : Int) 0 a0_0 l0_1) else (some (false, true))) else (some (false, false))) := by
  refine Sup.unique (spec_AreOwnPlaces.F_sup a0_0 l0_1 l1) (Sup.congr (g' := fun k => (spec_peGood.f k a0_0 l0_1).bind fun t359 => (if t359 = true then (if (l1.length : Int) = (l0_1.length : Int) then (spec_AreOwnPlaces.l0 k l1 l1 (l1.length : Int) 0 a0_0 l0_1) else (some (false, true))) else (some (false, false)))) (fun k => by first | rfl | simp only [spec_AreOwnPlaces.f]) ?_)
  repeat' first
    | (with_reducible exact spec_AreOwnPlaces.L0_sup _ _ _ _ _ _)
    | (with_reducible exact spec_peGood.F_sup _ _)
    | (with_reducible exact spec_l1Has.F_sup _ _)
    | (with_reducible refine Sup.ite ?_ ?_)
    | (with_reducible refine Sup.bind ?_ (fun _ => ?_))
    | (with_reducible exact Sup.const _)
    | exact spec_AreOwnPlaces.L0_sup _ _ _ _ _ _
    | exact spec_peGood.F_sup _ _
    | exact spec_l1Has.F_sup _ _
    | exact Sup.const _
set_option maxHeartbeats 8000000 in
set_option maxRecDepth 100000 in
theorem spec_AreOwnPlaces.calls (k : Nat) (a0_0 : Int) (A0_1 : Option Addr) (c0_1 : Nat) (l0_1 : List (List Int)) (A1 : Option Addr) (c1 : Nat) (l1 : List Int) (r1 : Bool) (r2 : Bool) (w : World) (hr0_1 : Kd.C (Kd.slice 3 (Kd.int .i64)) w A0_1 l0_1.length l0_1) (hc0_1 : l0_1.length ≤ c0_1) (hr1 : Kd.C (Kd.int .i64) w A1 l1.length l1) (hc1 : l1.length ≤ c1) (h : spec_AreOwnPlaces.f k a0_0 l0_1 l1 = some (r1, r2)) :
    Calls Try.prog 31 #[.agg #[.int .i64 a0_0, .slice A0_1 l0_1.length c0_1], .slice A1 l1.length c1] w fun e w' => e = .returned (.tuple #[.bool r1, .bool r2]) ∧ Below w.heap.size w w' := by
  have hu29 := Try.underlying29
  have HR0_1 := Aside0.mk hr0_1
  have HC0_1 := Aside0.mk hc0_1
  clear hr0_1 hc0_1
  have HR1 := Aside0.mk hr1
  have HC1 := Aside0.mk hc1
  clear hr1 hc1
  have HB := Aside0.mk (Below.refl w.heap.size w)
  have H : ((spec_peGood.f k a0_0 l0_1).bind fun t359 => (if t359 = true then (if (l1.length : Int) = (l0_1.length : Int) then (spec_AreOwnPlaces.l0 k l1 l1 (l1.length : Int) 0 a0_0 l0_1) else (some (false, true))) else (some (false, false)))) = some (r1, r2) := h
  clear h
  replace H := Option.bind_eq_some_iff.mp H
  obtain ⟨t359, A30, H⟩ := H
  replace H : (if t359 = true then (if (l1.length : Int) = (l0_1.length : Int) then (spec_AreOwnPlaces.l0 k l1 l1 (l1.length : Int) 0 a0_0 l0_1) else (some (false, true))) else (some (false, false))) = some (r1, r2) := H
  have A3 := Aside0.mk A30
  clear A30
  by_cases c4 : t359 = true
  ·subst c4
   have H1 : (if (l1.length : Int) = (l0_1.length : Int) then (spec_AreOwnPlaces.l0 k l1 l1 (l1.length : Int) 0 a0_0 l0_1) else (some (false, true))) = some (r1, r2) := by rw [if_pos rfl] at H; exact H
   clear H
   have H := H1
   clear H1
   by_cases c5 : (l1.length : Int) = (l0_1.length : Int)
   ·rw [if_pos c5] at H
    have c5b0 : ((l1.length : Int) == (l0_1.length : Int)) = true := beq_iff_eq.mpr c5
    have c5b1 : ((l1.length : Int) != (l0_1.length : Int)) = false := bne_eq_false_iff_eq.mpr c5
    have c5b2 : (l1.length == l0_1.length) = true := by first | simpa using c5 | (simp at c5 ⊢; omega)
    clear c5
    have H' := Aside0.mk H
    clear H
    go_enter Try.func31, Try.ntmps31
    go_wp2_with (first | ((with_reducible refine gate_dst (N := 2) rfl ?_); refine box_event ?hg (N := 2) ?hd (cs := #[.int .i64 a0_0, .slice A0_1 l0_1.length c0_1]) (t := 29) ?hr ?_; (case hd => rfl); (case hg => rfl); (case hr => first | (go_simp; done) | (go_simp; rfl)); intro gb358 hg w6 hbox hb; have n0_ := Aside0.mk (below_step (by repeat (first | (with_reducible first | exact HB.out | apply below_alloc | apply pw_below_drewN | apply below_drew1) | exact HB.out)) hb); have n1_ := Aside0.mk (hbox); have n2_ := Aside0.mk ((by rw [hg]; exact (below_size (by repeat (first | (with_reducible first | exact HB.out | apply below_alloc | apply pw_below_drewN | apply below_drew1) | exact HB.out))) : w.heap.size ≤ gb358)); have n3_ := Aside0.mk ((by rw [hg]; exact (below_size (by repeat (first | (with_reducible first | exact HB.out | apply below_alloc | apply pw_below_drewN | apply below_drew1) | exact HB.out))) : w.heap.size ≤ gb358)); clear HB; have HB := n0_; have BK358 := n1_; have GW358 := n2_; have GE358 := n3_; clear n0_ n1_ n2_ n3_; clear hb hbox hg; have hcz7_0 : w6.cell? ⟨gb358, 0, none⟩ = some (.int .i64 a0_0) := (blk_cell BK358.out 0).trans rfl; have hcz7_1 : w6.cell? ⟨gb358, 1, none⟩ = some (.slice A0_1 l0_1.length c0_1) := (blk_cell BK358.out 1).trans rfl; have hfz7_0 := blk_frozen BK358.out 0; have hfz7_1 := blk_frozen BK358.out 1) | ((with_reducible refine gate_callee (f := 67) rfl ?_); refine goesL_ (some 9) rfl rfl Try.func67 (by kernel_rfl) rfl #[.agg #[.int .i64 a0_0, .slice A0_1 l0_1.length c0_1]] rfl (by (try simp only [List.map_toArray, List.map_cons, List.map_nil]); first | done | rfl | (simp only [List.length_drop, List.length_take]; rfl)) ?_; (with_reducible refine (spec_peGood.calls k a0_0 _ _ l0_1 true _ ?side1 ?side2 A3.out).mono ?_); (case side1 => repeat (first | exact (Kd.C_below HR0_1.out HB.out) | (with_reducible refine Kd.C_alloc ?_ _) | (with_reducible refine Kd.C_drewN ?_ _) | (with_reducible refine Kd.C_drew ?_))); (case side2 => exact HC0_1.out); rintro e w8 ⟨rfl, hb⟩; refine ⟨_, rfl, ?_⟩; have n0_ := Aside0.mk (blk_below (g := gb358) (o := .cells #[.int .i64 a0_0, .slice A0_1 l0_1.length c0_1] 29 (0, 0)) (by (with_reducible repeat (first | refine blk_drewN ?_ _ | refine blk_drew ?_ | refine blk_alloc ?_ _)); exact BK358.out) hb); have n1_ := Aside0.mk (below_step (by repeat (first | (with_reducible first | exact HB.out | apply below_alloc | apply pw_below_drewN | apply below_drew1 | refine below_set ?_ GE358.out) | exact HB.out)) hb); clear BK358; clear HB; have BK358 := n0_; have HB := n1_; clear n0_ n1_; (try clear hb); (try clear hb2); (try clear hk); (try clear hi); have hcz9_0 : w8.cell? ⟨gb358, 0, none⟩ = some (.int .i64 a0_0) := (blk_cell BK358.out 0).trans rfl; have hcz9_1 : w8.cell? ⟨gb358, 1, none⟩ = some (.slice A0_1 l0_1.length c0_1) := (blk_cell BK358.out 1).trans rfl; have hfz9_0 := blk_frozen BK358.out 0; have hfz9_1 := blk_frozen BK358.out 1))
    go_loopg [19] k (fun kq v19 w' => ∃ (x19_1 : Int), v19 = .int .i64 x19_1 ∧ Aside0 (spec_AreOwnPlaces.l0 kq l1 l1 (l1.length : Int) x19_1 a0_0 l0_1 = some (r1, r2)) ∧ Aside0 (kq ≤ k) ∧ Aside0 (w'.heap[gb358]? = some (.cells #[.int .i64 a0_0, (.slice A0_1 l0_1.length c0_1)] 29 (0, 0))) ∧ Aside0 (Below w.heap.size w w'))
    case atStart => exact ⟨(0), (by first | rfl | (simp; done) | (simp [*]; done)), H', ⟨Nat.le_refl _⟩, ⟨by (with_reducible repeat (first | refine blk_drewN ?_ _ | refine blk_drew ?_ | refine blk_alloc ?_ _)); exact BK358.out⟩, ⟨by repeat (first | (with_reducible first | exact HB.out | apply below_alloc | apply pw_below_drewN | apply below_drew1 | refine below_set ?_ GE358.out) | exact HB.out)⟩⟩
    case round =>
     clear H'
     try clear c1
     try clear p2
     try clear c3
     try clear c4
     try clear c5
     try clear c5b0
     try clear c5b1
     try clear c5b2
     try clear c6
     try clear hcz7_0
     try clear hcz7_1
     try clear hcz9_0
     try clear hcz9_1
     try clear hfz7_0
     try clear hfz7_1
     try clear hfz9_0
     try clear hfz9_1
     obtain ⟨x19_1, rfl, HA, HK1, BK358, HB⟩ := hrel
     cases gk with
     | zero => exact absurd HA.out (by simp [spec_AreOwnPlaces.l0])
     | succ k1 =>
      have H := HA.out
      clear HA
      simp only [spec_AreOwnPlaces.l0] at H
      by_cases c10 : x19_1 < (l1.length : Int)
      ·rw [if_pos c10] at H
       have c10b0 : decide (x19_1 < (l1.length : Int)) = true := decide_eq_true c10
       clear c10
       by_cases c11 : 0 ≤ x19_1
       ·rw [if_pos c11] at H
        have c11b0 : decide (0 ≤ x19_1) = true := decide_eq_true c11
        clear c11
        by_cases c12 : x19_1 < (l1.length : Int)
        ·rw [if_pos c12] at H
         have c12b0 : decide (x19_1 < (l1.length : Int)) = true := decide_eq_true c12
         clear c12
         by_cases c13 : x19_1 < (l0_1.length : Int)
         ·rw [if_pos c13] at H
          have c13b0 : decide (x19_1 < (l0_1.length : Int)) = true := decide_eq_true c13
          clear c13
          replace H := Option.bind_eq_some_iff.mp H
          obtain ⟨t362, A140, H⟩ := H
          replace H : (if t362 = true then (if x19_1 ≤ (l1.length : Int) then ((spec_l1Has.f k1 (l1.take (x19_1 : Int).toNat) (rd l1 x19_1)).bind fun t364 => (if t364 = true then (some (false, true)) else (spec_AreOwnPlaces.l0 k1 l1 l1 (l1.length : Int) (wrap64 (x19_1 + 1)) a0_0 l0_1))) else (none)) else (some (false, true))) = some (r1, r2) := H
          have A14 := Aside0.mk A140
          clear A140
          by_cases c15 : t362 = true
          ·subst c15
           have H1 : (if x19_1 ≤ (l1.length : Int) then ((spec_l1Has.f k1 (l1.take (x19_1 : Int).toNat) (rd l1 x19_1)).bind fun t364 => (if t364 = true then (some (false, true)) else (spec_AreOwnPlaces.l0 k1 l1 l1 (l1.length : Int) (wrap64 (x19_1 + 1)) a0_0 l0_1))) else (none)) = some (r1, r2) := by rw [if_pos rfl] at H; exact H
           clear H
           have H := H1
           clear H1
           have c16b0 := eq_true (of_decide_eq_true (by first | (with_reducible assumption) | assumption) : 0 ≤ x19_1)
           by_cases c17 : x19_1 ≤ (l1.length : Int)
           ·rw [if_pos c17] at H
            have c17b0 := eq_true c17
            have c17b1 : decide (x19_1 ≤ (l1.length : Int)) = true := decide_eq_true c17
            clear c17
            replace H := Option.bind_eq_some_iff.mp H
            obtain ⟨t364, A180, H⟩ := H
            replace H : (if t364 = true then (some (false, true)) else (spec_AreOwnPlaces.l0 k1 l1 l1 (l1.length : Int) (wrap64 (x19_1 + 1)) a0_0 l0_1)) = some (r1, r2) := H
            have A18 := Aside0.mk A180
            clear A180
            by_cases c19 : t364 = true
            ·subst c19
             have H1 : (some (false, true)) = some (r1, r2) := by rw [if_pos rfl] at H; exact H
             clear H
             have H := H1
             clear H1
             simp only [Option.some.injEq, Prod.mk.injEq] at H
             obtain ⟨rfl, rfl⟩ := H
             have p360 : 0 ≤ (x19_1 : Int) := of_decide_eq_true (by first | (with_reducible assumption) | assumption)
             have q360 : x19_1 < (l1.length : Int) := of_decide_eq_true (by first | (with_reducible assumption) | assumption)
             obtain ⟨ad360, e360, hx360_0⟩ := Kd.at_int HR1.out x19_1 p360 q360
             cases e360
             replace hx360_0 := (HB.out.cell (World.block_lt_of_cell? w _ hx360_0)).trans hx360_0
             replace p360 := eq_true p360
             replace q360 := eq_true q360
             have hcz20_0 : wr.cell? ⟨gb358, 0, none⟩ = some (.int .i64 a0_0) := (blk_cell BK358.out 0).trans rfl
             have hcz20_1 : wr.cell? ⟨gb358, 1, none⟩ = some (.slice A0_1 l0_1.length c0_1) := (blk_cell BK358.out 1).trans rfl
             have hfz20_0 := blk_frozen BK358.out 0
             have hfz20_1 := blk_frozen BK358.out 1
             have p361 : 0 ≤ (x19_1 : Int) := of_decide_eq_true (by first | (with_reducible assumption) | assumption)
             have q361 : x19_1 < (l0_1.length : Int) := of_decide_eq_true (by first | (with_reducible assumption) | assumption)
             obtain ⟨ad361, A361_0, c361_0, e361, hx361_0, hl361_0, hi361_0⟩ := at_L1 HR0_1.out x19_1 p361 q361
             cases e361
             replace hx361_0 := (HB.out.cell (World.block_lt_of_cell? w _ hx361_0)).trans hx361_0
             have HR361_0 := Aside0.mk hi361_0
             have HC361_0 := Aside0.mk hl361_0
             clear hi361_0 hl361_0
             replace p361 := eq_true p361
             replace q361 := eq_true q361
             go_wp2_with (first | ((with_reducible refine gate_callee (f := 75) rfl ?_); refine goesL_ (some 30) rfl rfl Try.func75 (by kernel_rfl) rfl #[.slice A361_0 (rd_L1 l0_1 x19_1).length c361_0, .int .i64 (rd l1 x19_1)] rfl (by (try simp only [List.map_toArray, List.map_cons, List.map_nil]); first | done | rfl | (simp only [List.length_drop, List.length_take]; rfl)) ?_; (with_reducible refine (spec_l1Has.calls k1 _ _ (rd_L1 l0_1 x19_1) (rd l1 x19_1) true _ ?side1 ?side2 A14.out).mono ?_); (case side1 => repeat (first | exact (Kd.C_below HR361_0.out HB.out) | (with_reducible refine Kd.C_alloc ?_ _) | (with_reducible refine Kd.C_drewN ?_ _) | (with_reducible refine Kd.C_drew ?_))); (case side2 => exact HC361_0.out); rintro e w' ⟨rfl, ⟨nd, rfl⟩⟩; refine ⟨_, rfl, ?_⟩; obtain ⟨i021, hi021, _, hsz21, _⟩ := info_parts info3; obtain ⟨hcut21, hA21, hC21⟩ := print_take_of (P := Try.prog) (Value.int .i64) 0 26 3 .i64 Try.underlying26 hi021 hsz21 (some ad360) c1 l1 x19_1 (of_decide_eq_true (by first | (with_reducible assumption) | assumption)) (of_decide_eq_true (by first | (with_reducible assumption) | assumption)) HC1.out; have HR363 := Aside0.mk (Kd.C_of_reads (h1 := fun _ => rfl) (hA21 _ (Kd.reads_of_C HR1.out))); have HC363 := Aside0.mk hC21; clear hA21 hC21 hi021 hsz21; have HL21 := Aside0.mk (show (((l1.take (x19_1 : Int).toNat).length : Int) = max (x19_1 : Int) 0) from (by have h0_ : 0 ≤ (x19_1 : Int) := of_decide_eq_true (by first | (with_reducible assumption) | assumption); have h_ : (x19_1 : Int) ≤ (l1.length : Int) := of_decide_eq_true (by first | (with_reducible assumption) | assumption); rw [List.length_take]; omega))) | (go_at_call 75; refine calls_of_args (args' := #[.slice (some ad360) (l1.take (x19_1 : Int).toNat).length c1, .int .i64 (rd l1 x19_1)]) (by first | (rw [show (l1.take (x19_1 : Int).toNat).length = x19_1.toNat from (by rw [List.length_take]; have h_ : (x19_1 : Int) ≤ (l1.length : Int) := of_decide_eq_true (by first | (with_reducible assumption) | assumption); omega)] <;> rfl) | rfl | rfl) ?_; (with_reducible refine (spec_l1Has.calls k1 _ _ (l1.take (x19_1 : Int).toNat) (rd l1 x19_1) true _ ?side1 ?side2 A18.out).mono ?_); (case side1 => repeat (first | exact (Kd.C_below HR363.out (by repeat (first | (with_reducible first | exact HB.out | apply below_alloc | apply pw_below_drewN | apply below_drew1 | refine below_set ?_ GE358.out) | exact HB.out))) | (with_reducible refine Kd.C_alloc ?_ _) | (with_reducible refine Kd.C_drewN ?_ _) | (with_reducible refine Kd.C_drew ?_))); (case side2 => exact HC363.out); rintro e w' ⟨rfl, ⟨nd, rfl⟩⟩))
             go_ret2
             exact ⟨by first | rfl | (simp [errW_none, errW_some] <;> rfl) | (simp [*, errW_none, errW_some] <;> rfl), by repeat (first | (with_reducible first | exact HB.out | apply below_alloc | apply pw_below_drewN | apply below_drew1 | refine below_set ?_ GE358.out) | exact HB.out)⟩
            ·replace c19 := Bool.eq_false_iff.mpr c19
             subst c19
             have H1 : (spec_AreOwnPlaces.l0 k1 l1 l1 (l1.length : Int) (wrap64 (x19_1 + 1)) a0_0 l0_1) = some (r1, r2) := by rw [if_neg (show ¬ (false = true) by decide)] at H; exact H
             clear H
             have H := H1
             clear H1
             have H' := Aside0.mk H
             clear H
             have p360 : 0 ≤ (x19_1 : Int) := of_decide_eq_true (by first | (with_reducible assumption) | assumption)
             have q360 : x19_1 < (l1.length : Int) := of_decide_eq_true (by first | (with_reducible assumption) | assumption)
             obtain ⟨ad360, e360, hx360_0⟩ := Kd.at_int HR1.out x19_1 p360 q360
             cases e360
             replace hx360_0 := (HB.out.cell (World.block_lt_of_cell? w _ hx360_0)).trans hx360_0
             replace p360 := eq_true p360
             replace q360 := eq_true q360
             have hcz22_0 : wr.cell? ⟨gb358, 0, none⟩ = some (.int .i64 a0_0) := (blk_cell BK358.out 0).trans rfl
             have hcz22_1 : wr.cell? ⟨gb358, 1, none⟩ = some (.slice A0_1 l0_1.length c0_1) := (blk_cell BK358.out 1).trans rfl
             have hfz22_0 := blk_frozen BK358.out 0
             have hfz22_1 := blk_frozen BK358.out 1
             have p361 : 0 ≤ (x19_1 : Int) := of_decide_eq_true (by first | (with_reducible assumption) | assumption)
             have q361 : x19_1 < (l0_1.length : Int) := of_decide_eq_true (by first | (with_reducible assumption) | assumption)
             obtain ⟨ad361, A361_0, c361_0, e361, hx361_0, hl361_0, hi361_0⟩ := at_L1 HR0_1.out x19_1 p361 q361
             cases e361
             replace hx361_0 := (HB.out.cell (World.block_lt_of_cell? w _ hx361_0)).trans hx361_0
             have HR361_0 := Aside0.mk hi361_0
             have HC361_0 := Aside0.mk hl361_0
             clear hi361_0 hl361_0
             replace p361 := eq_true p361
             replace q361 := eq_true q361
             go_wp2_with (first | ((with_reducible refine gate_callee (f := 75) rfl ?_); refine goesL_ (some 30) rfl rfl Try.func75 (by kernel_rfl) rfl #[.slice A361_0 (rd_L1 l0_1 x19_1).length c361_0, .int .i64 (rd l1 x19_1)] rfl (by (try simp only [List.map_toArray, List.map_cons, List.map_nil]); first | done | rfl | (simp only [List.length_drop, List.length_take]; rfl)) ?_; (with_reducible refine (spec_l1Has.calls k1 _ _ (rd_L1 l0_1 x19_1) (rd l1 x19_1) true _ ?side1 ?side2 A14.out).mono ?_); (case side1 => repeat (first | exact (Kd.C_below HR361_0.out HB.out) | (with_reducible refine Kd.C_alloc ?_ _) | (with_reducible refine Kd.C_drewN ?_ _) | (with_reducible refine Kd.C_drew ?_))); (case side2 => exact HC361_0.out); rintro e w' ⟨rfl, ⟨nd, rfl⟩⟩; refine ⟨_, rfl, ?_⟩; obtain ⟨i023, hi023, _, hsz23, _⟩ := info_parts info3; obtain ⟨hcut23, hA23, hC23⟩ := print_take_of (P := Try.prog) (Value.int .i64) 0 26 3 .i64 Try.underlying26 hi023 hsz23 (some ad360) c1 l1 x19_1 (of_decide_eq_true (by first | (with_reducible assumption) | assumption)) (of_decide_eq_true (by first | (with_reducible assumption) | assumption)) HC1.out; have HR363 := Aside0.mk (Kd.C_of_reads (h1 := fun _ => rfl) (hA23 _ (Kd.reads_of_C HR1.out))); have HC363 := Aside0.mk hC23; clear hA23 hC23 hi023 hsz23; have HL23 := Aside0.mk (show (((l1.take (x19_1 : Int).toNat).length : Int) = max (x19_1 : Int) 0) from (by have h0_ : 0 ≤ (x19_1 : Int) := of_decide_eq_true (by first | (with_reducible assumption) | assumption); have h_ : (x19_1 : Int) ≤ (l1.length : Int) := of_decide_eq_true (by first | (with_reducible assumption) | assumption); rw [List.length_take]; omega))) | (go_at_call 75; refine calls_of_args (args' := #[.slice (some ad360) (l1.take (x19_1 : Int).toNat).length c1, .int .i64 (rd l1 x19_1)]) (by first | (rw [show (l1.take (x19_1 : Int).toNat).length = x19_1.toNat from (by rw [List.length_take]; have h_ : (x19_1 : Int) ≤ (l1.length : Int) := of_decide_eq_true (by first | (with_reducible assumption) | assumption); omega)] <;> rfl) | rfl | rfl) ?_; (with_reducible refine (spec_l1Has.calls k1 _ _ (l1.take (x19_1 : Int).toNat) (rd l1 x19_1) false _ ?side1 ?side2 A18.out).mono ?_); (case side1 => repeat (first | exact (Kd.C_below HR363.out (by repeat (first | (with_reducible first | exact HB.out | apply below_alloc | apply pw_below_drewN | apply below_drew1 | refine below_set ?_ GE358.out) | exact HB.out))) | (with_reducible refine Kd.C_alloc ?_ _) | (with_reducible refine Kd.C_drewN ?_ _) | (with_reducible refine Kd.C_drew ?_))); (case side2 => exact HC363.out); rintro e w' ⟨rfl, ⟨nd, rfl⟩⟩))
             go_roundg k1
             case measure => have := HK1.out; omega
             case rel => exact ⟨(wrap64 (x19_1 + 1)), (by first | rfl | (simp; done) | (simp [*]; done)), H', ⟨by have := HK1.out; omega⟩, ⟨by (with_reducible repeat (first | refine blk_drewN ?_ _ | refine blk_drew ?_ | refine blk_alloc ?_ _)); exact BK358.out⟩, ⟨by repeat (first | (with_reducible first | exact HB.out | apply below_alloc | apply pw_below_drewN | apply below_drew1 | refine below_set ?_ GE358.out) | exact HB.out)⟩⟩
           ·rw [if_neg c17] at H
            exact absurd H (by simp)
          ·replace c15 := Bool.eq_false_iff.mpr c15
           subst c15
           have H1 : (some (false, true)) = some (r1, r2) := by rw [if_neg (show ¬ (false = true) by decide)] at H; exact H
           clear H
           have H := H1
           clear H1
           simp only [Option.some.injEq, Prod.mk.injEq] at H
           obtain ⟨rfl, rfl⟩ := H
           have p360 : 0 ≤ (x19_1 : Int) := of_decide_eq_true (by first | (with_reducible assumption) | assumption)
           have q360 : x19_1 < (l1.length : Int) := of_decide_eq_true (by first | (with_reducible assumption) | assumption)
           obtain ⟨ad360, e360, hx360_0⟩ := Kd.at_int HR1.out x19_1 p360 q360
           cases e360
           replace hx360_0 := (HB.out.cell (World.block_lt_of_cell? w _ hx360_0)).trans hx360_0
           replace p360 := eq_true p360
           replace q360 := eq_true q360
           have hcz24_0 : wr.cell? ⟨gb358, 0, none⟩ = some (.int .i64 a0_0) := (blk_cell BK358.out 0).trans rfl
           have hcz24_1 : wr.cell? ⟨gb358, 1, none⟩ = some (.slice A0_1 l0_1.length c0_1) := (blk_cell BK358.out 1).trans rfl
           have hfz24_0 := blk_frozen BK358.out 0
           have hfz24_1 := blk_frozen BK358.out 1
           have p361 : 0 ≤ (x19_1 : Int) := of_decide_eq_true (by first | (with_reducible assumption) | assumption)
           have q361 : x19_1 < (l0_1.length : Int) := of_decide_eq_true (by first | (with_reducible assumption) | assumption)
           obtain ⟨ad361, A361_0, c361_0, e361, hx361_0, hl361_0, hi361_0⟩ := at_L1 HR0_1.out x19_1 p361 q361
           cases e361
           replace hx361_0 := (HB.out.cell (World.block_lt_of_cell? w _ hx361_0)).trans hx361_0
           have HR361_0 := Aside0.mk hi361_0
           have HC361_0 := Aside0.mk hl361_0
           clear hi361_0 hl361_0
           replace p361 := eq_true p361
           replace q361 := eq_true q361
           go_wp2_with (first | ((with_reducible refine gate_callee (f := 75) rfl ?_); refine goesL_ (some 30) rfl rfl Try.func75 (by kernel_rfl) rfl #[.slice A361_0 (rd_L1 l0_1 x19_1).length c361_0, .int .i64 (rd l1 x19_1)] rfl (by (try simp only [List.map_toArray, List.map_cons, List.map_nil]); first | done | rfl | (simp only [List.length_drop, List.length_take]; rfl)) ?_; (with_reducible refine (spec_l1Has.calls k1 _ _ (rd_L1 l0_1 x19_1) (rd l1 x19_1) false _ ?side1 ?side2 A14.out).mono ?_); (case side1 => repeat (first | exact (Kd.C_below HR361_0.out HB.out) | (with_reducible refine Kd.C_alloc ?_ _) | (with_reducible refine Kd.C_drewN ?_ _) | (with_reducible refine Kd.C_drew ?_))); (case side2 => exact HC361_0.out); rintro e w' ⟨rfl, ⟨nd, rfl⟩⟩; refine ⟨_, rfl, ?_⟩))
           go_ret2
           exact ⟨by first | rfl | (simp [errW_none, errW_some] <;> rfl) | (simp [*, errW_none, errW_some] <;> rfl), by repeat (first | (with_reducible first | exact HB.out | apply below_alloc | apply pw_below_drewN | apply below_drew1 | refine below_set ?_ GE358.out) | exact HB.out)⟩
         ·rw [if_neg c13] at H
          exact absurd H (by simp)
        ·rw [if_neg c12] at H
         exact absurd H (by simp)
       ·rw [if_neg c11] at H
        exact absurd H (by simp)
      ·rw [if_neg c10] at H
       have c10b0 : decide (x19_1 < (l1.length : Int)) = false := decide_eq_false c10
       clear c10
       simp only [Option.some.injEq, Prod.mk.injEq] at H
       obtain ⟨rfl, rfl⟩ := H
       go_wp2
       go_ret2
       exact ⟨by first | rfl | (simp [errW_none, errW_some] <;> rfl) | (simp [*, errW_none, errW_some] <;> rfl), by repeat (first | (with_reducible first | exact HB.out | apply below_alloc | apply pw_below_drewN | apply below_drew1 | refine below_set ?_ GE358.out) | exact HB.out)⟩
   ·rw [if_neg c5] at H
    have c5b0 : ((l1.length : Int) == (l0_1.length : Int)) = false := beq_eq_false_iff_ne.mpr c5
    have c5b1 : ((l1.length : Int) != (l0_1.length : Int)) = true := bne_iff_ne.mpr c5
    have c5b2 : (l1.length == l0_1.length) = false := by first | simpa using c5 | (simp at c5 ⊢; omega)
    simp only [Option.some.injEq, Prod.mk.injEq] at H
    obtain ⟨rfl, rfl⟩ := H
    go_enter Try.func31, Try.ntmps31
    go_wp2_with (first | ((with_reducible refine gate_dst (N := 2) rfl ?_); refine box_event ?hg (N := 2) ?hd (cs := #[.int .i64 a0_0, .slice A0_1 l0_1.length c0_1]) (t := 29) ?hr ?_; (case hd => rfl); (case hg => rfl); (case hr => first | (go_simp; done) | (go_simp; rfl)); intro gb358 hg w25 hbox hb; have n0_ := Aside0.mk (below_step (by repeat (first | (with_reducible first | exact HB.out | apply below_alloc | apply pw_below_drewN | apply below_drew1) | exact HB.out)) hb); have n1_ := Aside0.mk (hbox); have n2_ := Aside0.mk ((by rw [hg]; exact (below_size (by repeat (first | (with_reducible first | exact HB.out | apply below_alloc | apply pw_below_drewN | apply below_drew1) | exact HB.out))) : w.heap.size ≤ gb358)); have n3_ := Aside0.mk ((by rw [hg]; exact (below_size (by repeat (first | (with_reducible first | exact HB.out | apply below_alloc | apply pw_below_drewN | apply below_drew1) | exact HB.out))) : w.heap.size ≤ gb358)); clear HB; have HB := n0_; have BK358 := n1_; have GW358 := n2_; have GE358 := n3_; clear n0_ n1_ n2_ n3_; clear hb hbox hg; have hcz26_0 : w25.cell? ⟨gb358, 0, none⟩ = some (.int .i64 a0_0) := (blk_cell BK358.out 0).trans rfl; have hcz26_1 : w25.cell? ⟨gb358, 1, none⟩ = some (.slice A0_1 l0_1.length c0_1) := (blk_cell BK358.out 1).trans rfl; have hfz26_0 := blk_frozen BK358.out 0; have hfz26_1 := blk_frozen BK358.out 1) | ((with_reducible refine gate_callee (f := 67) rfl ?_); refine goesL_ (some 9) rfl rfl Try.func67 (by kernel_rfl) rfl #[.agg #[.int .i64 a0_0, .slice A0_1 l0_1.length c0_1]] rfl (by (try simp only [List.map_toArray, List.map_cons, List.map_nil]); first | done | rfl | (simp only [List.length_drop, List.length_take]; rfl)) ?_; (with_reducible refine (spec_peGood.calls k a0_0 _ _ l0_1 true _ ?side1 ?side2 A3.out).mono ?_); (case side1 => repeat (first | exact (Kd.C_below HR0_1.out HB.out) | (with_reducible refine Kd.C_alloc ?_ _) | (with_reducible refine Kd.C_drewN ?_ _) | (with_reducible refine Kd.C_drew ?_))); (case side2 => exact HC0_1.out); rintro e w27 ⟨rfl, hb⟩; refine ⟨_, rfl, ?_⟩; have n0_ := Aside0.mk (blk_below (g := gb358) (o := .cells #[.int .i64 a0_0, .slice A0_1 l0_1.length c0_1] 29 (0, 0)) (by (with_reducible repeat (first | refine blk_drewN ?_ _ | refine blk_drew ?_ | refine blk_alloc ?_ _)); exact BK358.out) hb); have n1_ := Aside0.mk (below_step (by repeat (first | (with_reducible first | exact HB.out | apply below_alloc | apply pw_below_drewN | apply below_drew1 | refine below_set ?_ GE358.out) | exact HB.out)) hb); clear BK358; clear HB; have BK358 := n0_; have HB := n1_; clear n0_ n1_; (try clear hb); (try clear hb2); (try clear hk); (try clear hi); have hcz28_0 : w27.cell? ⟨gb358, 0, none⟩ = some (.int .i64 a0_0) := (blk_cell BK358.out 0).trans rfl; have hcz28_1 : w27.cell? ⟨gb358, 1, none⟩ = some (.slice A0_1 l0_1.length c0_1) := (blk_cell BK358.out 1).trans rfl; have hfz28_0 := blk_frozen BK358.out 0; have hfz28_1 := blk_frozen BK358.out 1))
    go_ret2
    exact ⟨by first | rfl | (simp [errW_none, errW_some] <;> rfl) | (simp [*, errW_none, errW_some] <;> rfl), by repeat (first | (with_reducible first | exact HB.out | apply below_alloc | apply pw_below_drewN | apply below_drew1 | refine below_set ?_ GE358.out) | exact HB.out)⟩
  ·replace c4 := Bool.eq_false_iff.mpr c4
   subst c4
   have H1 : (some (false, false)) = some (r1, r2) := by rw [if_neg (show ¬ (false = true) by decide)] at H; exact H
   clear H
   have H := H1
   clear H1
   simp only [Option.some.injEq, Prod.mk.injEq] at H
   obtain ⟨rfl, rfl⟩ := H
   go_enter Try.func31, Try.ntmps31
   go_wp2_with (first | ((with_reducible refine gate_dst (N := 2) rfl ?_); refine box_event ?hg (N := 2) ?hd (cs := #[.int .i64 a0_0, .slice A0_1 l0_1.length c0_1]) (t := 29) ?hr ?_; (case hd => rfl); (case hg => rfl); (case hr => first | (go_simp; done) | (go_simp; rfl)); intro gb358 hg w29 hbox hb; have n0_ := Aside0.mk (below_step (by repeat (first | (with_reducible first | exact HB.out | apply below_alloc | apply pw_below_drewN | apply below_drew1) | exact HB.out)) hb); have n1_ := Aside0.mk (hbox); have n2_ := Aside0.mk ((by rw [hg]; exact (below_size (by repeat (first | (with_reducible first | exact HB.out | apply below_alloc | apply pw_below_drewN | apply below_drew1) | exact HB.out))) : w.heap.size ≤ gb358)); have n3_ := Aside0.mk ((by rw [hg]; exact (below_size (by repeat (first | (with_reducible first | exact HB.out | apply below_alloc | apply pw_below_drewN | apply below_drew1) | exact HB.out))) : w.heap.size ≤ gb358)); clear HB; have HB := n0_; have BK358 := n1_; have GW358 := n2_; have GE358 := n3_; clear n0_ n1_ n2_ n3_; clear hb hbox hg; have hcz30_0 : w29.cell? ⟨gb358, 0, none⟩ = some (.int .i64 a0_0) := (blk_cell BK358.out 0).trans rfl; have hcz30_1 : w29.cell? ⟨gb358, 1, none⟩ = some (.slice A0_1 l0_1.length c0_1) := (blk_cell BK358.out 1).trans rfl; have hfz30_0 := blk_frozen BK358.out 0; have hfz30_1 := blk_frozen BK358.out 1) | ((with_reducible refine gate_callee (f := 67) rfl ?_); refine goesL_ (some 9) rfl rfl Try.func67 (by kernel_rfl) rfl #[.agg #[.int .i64 a0_0, .slice A0_1 l0_1.length c0_1]] rfl (by (try simp only [List.map_toArray, List.map_cons, List.map_nil]); first | done | rfl | (simp only [List.length_drop, List.length_take]; rfl)) ?_; (with_reducible refine (spec_peGood.calls k a0_0 _ _ l0_1 false _ ?side1 ?side2 A3.out).mono ?_); (case side1 => repeat (first | exact (Kd.C_below HR0_1.out HB.out) | (with_reducible refine Kd.C_alloc ?_ _) | (with_reducible refine Kd.C_drewN ?_ _) | (with_reducible refine Kd.C_drew ?_))); (case side2 => exact HC0_1.out); rintro e w31 ⟨rfl, hb⟩; refine ⟨_, rfl, ?_⟩; have n0_ := Aside0.mk (blk_below (g := gb358) (o := .cells #[.int .i64 a0_0, .slice A0_1 l0_1.length c0_1] 29 (0, 0)) (by (with_reducible repeat (first | refine blk_drewN ?_ _ | refine blk_drew ?_ | refine blk_alloc ?_ _)); exact BK358.out) hb); have n1_ := Aside0.mk (below_step (by repeat (first | (with_reducible first | exact HB.out | apply below_alloc | apply pw_below_drewN | apply below_drew1 | refine below_set ?_ GE358.out) | exact HB.out)) hb); clear BK358; clear HB; have BK358 := n0_; have HB := n1_; clear n0_ n1_; (try clear hb); (try clear hb2); (try clear hk); (try clear hi)))
   go_ret2
   exact ⟨by first | rfl | (simp [errW_none, errW_some] <;> rfl) | (simp [*, errW_none, errW_some] <;> rfl), by repeat (first | (with_reducible first | exact HB.out | apply below_alloc | apply pw_below_drewN | apply below_drew1 | refine below_set ?_ GE358.out) | exact HB.out)⟩
/-! ### impl_distinct: function 81 -/
def impl_distinct.l0 : Nat → List Int → List Int → Int → Option (Bool)
  | 0, _, _, _ => none
  | k + 1, x0, x1, x9 => if x9 < (x1.length : Int) then (if 0 ≤ x9 then (if rd x1 x9 ∈ x0 then (some false) else (impl_distinct.l0 k (x0 ++ [rd x1 x9]) x1 (wrap64 (x9 + 1)))) else (none)) else (some true)
def impl_distinct.f (k : Nat) (l0 : List Int) : Option (Bool) := if l0.length < 140737488355328 then (if (∀ x ∈ l0, (Lit.int .i64 x).wf = true) then (impl_distinct.l0 k [] l0 0) else (none)) else (none)
theorem impl_distinct.mono_l : ∀ k, (∀ y0 y1 y2, LeO (impl_distinct.l0 k y0 y1 y2) (impl_distinct.l0 (k + 1) y0 y1 y2))
  | 0 => fun _ _ _ r h => by simp [impl_distinct.l0] at h
  | k + 1 => by
    have ih0 := impl_distinct.mono_l k
    · intro y0 y1 y2
      unfold impl_distinct.l0
      repeat' first
      | (with_reducible exact ih0 _ _ _)
      | (with_reducible exact LeO.refl _)
      | (with_reducible exact LeO.none _)
      | (with_reducible refine LeO.ite ?_ ?_)
      | (with_reducible refine LeO.bind ?_ (fun _ => ?_))
      | exact ih0 _ _ _
      | exact LeO.none _
      | refine LeO.ite ?_ ?_
      | refine LeO.bind ?_ (fun _ => ?_)
theorem impl_distinct.mono : ∀ a0 k, LeO (impl_distinct.f k a0) (impl_distinct.f (k + 1) a0) := by
  intro a0 k
  have ih0 := impl_distinct.mono_l k
  unfold impl_distinct.f
  repeat' first
      | (with_reducible exact ih0 _ _ _)
      | (with_reducible exact LeO.refl _)
      | (with_reducible exact LeO.none _)
      | (with_reducible refine LeO.ite ?_ ?_)
      | (with_reducible refine LeO.bind ?_ (fun _ => ?_))
      | exact ih0 _ _ _
      | exact LeO.none _
      | refine LeO.ite ?_ ?_
      | refine LeO.bind ?_ (fun _ => ?_)
noncomputable def impl_distinct.L0 (y0 : List Int) (y1 : List Int) (y2 : Int) : Option (Bool) := lim fun k => impl_distinct.l0 k y0 y1 y2
theorem impl_distinct.L0_sup (y0 : List Int) (y1 : List Int) (y2 : Int) : Sup (fun k => impl_distinct.l0 k y0 y1 y2) (impl_distinct.L0 y0 y1 y2) := Sup.of_mono fun k => impl_distinct.mono_l k y0 y1 y2
noncomputable def impl_distinct.F (l0 : List Int) : Option (Bool) := lim fun k => impl_distinct.f k l0
theorem impl_distinct.F_sup (l0 : List Int) : Sup (fun k => impl_distinct.f k l0) (impl_distinct.F l0) := Sup.of_mono fun k => impl_distinct.mono l0 k
theorem impl_distinct.L0_eq (x0 : List Int) (x1 : List Int) (x9 : Int) : impl_distinct.L0 x0 x1 x9 = if x9 < (x1.length : Int) then (if 0 ≤ x9 then (if rd x1 x9 ∈ x0 then (some false) else (impl_distinct.L0 (x0 ++ [rd x1 x9]) x1 (wrap64 (x9 + 1)))) else (none)) else (some true) := by
  refine Sup.unique (impl_distinct.L0_sup x0 x1 x9) (Sup.shift (fun k => impl_distinct.mono_l k x0 x1 x9) (Sup.congr (g' := fun k => if x9 < (x1.length : Int) then (if 0 ≤ x9 then (if rd x1 x9 ∈ x0 then (some false) else (impl_distinct.l0 k (x0 ++ [rd x1 x9]) x1 (wrap64 (x9 + 1)))) else (none)) else (some true)) (fun k => by first | rfl | simp only [impl_distinct.l0]) ?_))
  repeat' first
    | (with_reducible exact impl_distinct.L0_sup _ _ _)
    | (with_reducible refine Sup.ite ?_ ?_)
    | (with_reducible refine Sup.bind ?_ (fun _ => ?_))
    | (with_reducible exact Sup.const _)
    | exact impl_distinct.L0_sup _ _ _
    | exact Sup.const _
theorem impl_distinct.F_eq (l0 : List Int) : impl_distinct.F l0 = if l0.length < 140737488355328 then (if (∀ x ∈ l0, (Lit.int .i64 x).wf = true) then (impl_distinct.L0 [] l0 0) else (none)) else (none) := by
  refine Sup.unique (impl_distinct.F_sup l0) (Sup.congr (g' := fun k => if l0.length < 140737488355328 then (if (∀ x ∈ l0, (Lit.int .i64 x).wf = true) then (impl_distinct.l0 k [] l0 0) else (none)) else (none)) (fun k => by first | rfl | simp only [impl_distinct.f]) ?_)
  repeat' first
    | (with_reducible exact impl_distinct.L0_sup _ _ _)
    | (with_reducible refine Sup.ite ?_ ?_)
    | (with_reducible refine Sup.bind ?_ (fun _ => ?_))
    | (with_reducible exact Sup.const _)
    | exact impl_distinct.L0_sup _ _ _
    | exact Sup.const _
set_option maxHeartbeats 8000000 in
set_option maxRecDepth 100000 in
theorem impl_distinct.calls (k : Nat) (A0 : Option Addr) (c0 : Nat) (l0 : List Int) (r : Bool) (w : World) (hr0 : Kd.C (Kd.int .i64) w A0 l0.length l0) (hc0 : l0.length ≤ c0) (h : impl_distinct.f k l0 = some r) :
    Calls Try.prog 81 #[.slice A0 l0.length c0] w fun e w' => e = .returned (.bool r) ∧ Below w.heap.size w w' := by
  have HR0 := Aside0.mk hr0
  clear hr0
  unfold impl_distinct.f at h
  by_cases c1 : l0.length < 140737488355328
  ·rw [if_pos c1] at h
   by_cases c2 : ∀ x ∈ l0, (Lit.int .i64 x).wf = true
   ·rw [if_pos c2] at h
    have H' := Aside0.mk h
    have HL := Aside0.mk c1
    have HF := Aside0.mk c2
    clear h c1 c2
    have zeroE : ∀ W : World, (zeroValue 4).run Try.prog W = .ok (.bool false) W := fun W => by kernel_rfl
    have hmm := @run_makeMap Try.prog
    go_enter Try.func81, Try.ntmps81
    go_wp2
    go_loopg [9] k (fun kq v9 w' => ∃ (acc : List Int) (x9_1 : Int), v9 = .int .i64 x9_1 ∧ Aside0 (impl_distinct.l0 kq acc l0 x9_1 = some r) ∧ Aside0 (kq ≤ k) ∧ Aside0 (w'.ownsMap Try.prog 3 (plainElem Try.prog 4) w.heap.size acc.length (setI acc)) ∧ Aside0 ((acc.length : Int) = x9_1) ∧ Aside0 (Below w.heap.size w w'))
    case atStart => exact ⟨[], 0, rfl, H', ⟨Nat.le_refl _⟩, ⟨World.ownsMap_made _ _ _ _⟩, ⟨rfl⟩, ⟨(Below.refl _ _).alloc (Nat.le_refl _) _⟩⟩
    case round =>
     clear H'
     obtain ⟨acc, x9_1, rfl, HA, HK1, HM, HN, HB⟩ := hrel
     cases gk with
     | zero => exact absurd HA.out (by simp [impl_distinct.l0])
     | succ k1 =>
      have H := HA.out
      clear HA
      simp only [impl_distinct.l0] at H
      by_cases c3 : x9_1 < (l0.length : Int)
      ·rw [if_pos c3] at H
       have c3b0 : decide (x9_1 < (l0.length : Int)) = true := decide_eq_true c3
       by_cases c4 : 0 ≤ x9_1
       ·rw [if_pos c4] at H
        have HW := Aside0.mk (HF.out (rd l0 x9_1) (by unfold rd; rw [List.getD_eq_getElem?_getD, List.getElem?_eq_getElem (by omega)]; exact List.getElem_mem _))
        obtain ⟨ad7, e7, hx7⟩ := Kd.at_int HR0.out x9_1 c4 c3
        cases e7
        replace hx7 := (HB.out.cell (World.block_lt_of_cell? w _ hx7)).trans hx7
        have HX := Aside0.mk (show acc.length < maxLen from by have h1_ := HN.out; have h2_ := HL.out; unfold maxLen; omega)
        have p7 := eq_true c4
        have q7 := eq_true c3
        clear c3 c4
        by_cases c5 : rd l0 x9_1 ∈ acc
        ·rw [if_pos c5] at H
         obtain rfl := Option.some.inj H
         have HT := Aside0.mk ((setI_at (rd l0 x9_1) acc).trans (by rw [decide_eq_true c5] : _ = DataW.lit (.bool true)))
         clear c5 H
         go_wp2_with (first | (at_lookup; refine lookup_bool_ _ rfl _ _ 99 rfl 3 4 (Go.Maps.int_keyed Try.underlying3) Try.underlying99 Try.underlying4 (zeroE _) w.heap.size acc.length _ rfl HM.out _ _ rfl (Go.Maps.keyOf_int_mk Try.underlying3 HW.out) true HT.out ?_))
         go_ret
         exact ⟨rfl, HB.out⟩
        ·rw [if_neg c5] at H
         have H' := Aside0.mk H
         have HT := Aside0.mk ((setI_at (rd l0 x9_1) acc).trans (by rw [decide_eq_false c5] : _ = DataW.lit (.bool false)))
         clear c5 H
         go_wp2_with (first | (at_lookup; refine lookup_bool_ _ rfl _ _ 99 rfl 3 4 (Go.Maps.int_keyed Try.underlying3) Try.underlying99 Try.underlying4 (zeroE _) w.heap.size acc.length _ rfl HM.out _ _ rfl (Go.Maps.keyOf_int_mk Try.underlying3 HW.out) false HT.out ?_) | (at_mapUpdate; refine wpList_mapUpdate_own _ rfl _ _ _ 99 rfl 3 4 (Go.Maps.int_keyed Try.underlying3) Try.underlying99 (plainElem (H := Unit) Try.prog 4) w.heap.size acc.length _ rfl HM.out HX.out _ _ _ rfl rfl (Go.Maps.keyOf_int_mk Try.underlying3 HW.out) _ [] (plainElem_bool Try.underlying4 true) ?_; intro w1 hown1 hgrow1; have n0_ := Aside0.mk (show w1.ownsMap Try.prog 3 (plainElem Try.prog 4) w.heap.size (acc ++ [rd l0 x9_1]).length (setI (acc ++ [rd l0 x9_1])) from by rw [setI_snoc, List.length_append]; exact hown1); have n1_ := Aside0.mk (HB.out.grown hgrow1 HB.out.size (fun j hj => by cases hj; exact Nat.le_refl _)); clear HM HB hown1 hgrow1; have HM := n0_; have HB := n1_; clear n0_ n1_))
         go_roundg k1
         case measure => have := HK1.out; omega
         case rel => exact ⟨acc ++ [rd l0 x9_1], wrap64 (x9_1 + 1), by first | rfl | (simp; done) | (simp [*]; done), H', ⟨by have := HK1.out; omega⟩, HM, ⟨by have h1_ := HN.out; have h2_ := HL.out; have h3_ := of_eq_true q7; rw [List.length_append, List.length_singleton]; unfold wrap64; omega⟩, HB⟩
       ·rw [if_neg c4] at H
        exact absurd H (by simp)
      ·rw [if_neg c3] at H
       have c3b0 : decide (x9_1 < (l0.length : Int)) = false := decide_eq_false c3
       clear c3
       obtain rfl := Option.some.inj H
       go_wp2
       go_ret
       exact ⟨rfl, HB.out⟩
   ·rw [if_neg c2] at h
    exact absurd h (by simp)
  ·rw [if_neg c1] at h
   exact absurd h (by simp)
/-! ### impl_AreOwnPlaces: function 32 -/
mutual
def impl_AreOwnPlaces.j0 : Nat → List Int → Bool → Int → List (List Int) → Option (Bool × Bool)
  | 0, _, _, _, _ => none
  | k + 1, x1, x21, x366000, x366001 => if x21 = true then (some (false, true)) else (impl_AreOwnPlaces.l0 k x1 (x1.length : Int) 0 x366000 x366001)
def impl_AreOwnPlaces.l0 : Nat → List Int → Int → Int → Int → List (List Int) → Option (Bool × Bool)
  | 0, _, _, _, _, _ => none
  | k + 1, x22, x23, x24, x366000, x366001 => if x24 < x23 then (if 0 ≤ x24 then (if x24 < (x22.length : Int) then (if x24 < (x366001.length : Int) then ((slices_Contains_int_int.f k (rd_L1 x366001 x24) (rd x22 x24)).bind fun t370 => (if t370 = true then (impl_AreOwnPlaces.l0 k x22 x23 (wrap64 (x24 + 1)) x366000 x366001) else (some (false, true)))) else (none)) else (none)) else (none)) else (some (true, true))
end
def impl_AreOwnPlaces.f (k : Nat) (a0_0 : Int) (l0_1 : List (List Int)) (l1 : List Int) : Option (Bool × Bool) := (impl_IsHyper.f k a0_0 l0_1).bind fun t366 => (if t366 = true then (if (l1.length : Int) = (l0_1.length : Int) then ((impl_distinct.f k l1).bind fun t367 => (impl_AreOwnPlaces.j0 k l1 (!t367) a0_0 l0_1)) else (impl_AreOwnPlaces.j0 k l1 true a0_0 l0_1)) else (some (false, false)))
theorem impl_AreOwnPlaces.mono_l : ∀ k, (∀ y0 y1 y2 y3, LeO (impl_AreOwnPlaces.j0 k y0 y1 y2 y3) (impl_AreOwnPlaces.j0 (k + 1) y0 y1 y2 y3)) ∧ (∀ y0 y1 y2 y3 y4, LeO (impl_AreOwnPlaces.l0 k y0 y1 y2 y3 y4) (impl_AreOwnPlaces.l0 (k + 1) y0 y1 y2 y3 y4))
  | 0 => ⟨fun _ _ _ _ r h => by simp [impl_AreOwnPlaces.j0] at h, fun _ _ _ _ _ r h => by simp [impl_AreOwnPlaces.l0] at h⟩
  | k + 1 => by
    obtain ⟨ih0, ih1⟩ := impl_AreOwnPlaces.mono_l k
    refine ⟨?_, ?_⟩
    · intro y0 y1 y2 y3
      unfold impl_AreOwnPlaces.j0
      repeat' first
      | (with_reducible exact ih0 _ _ _ _)
      | (with_reducible exact ih1 _ _ _ _ _)
      | (with_reducible exact impl_IsHyper.mono _ _ _)
      | (with_reducible exact impl_distinct.mono _ _)
      | (with_reducible exact slices_Contains_int_int.mono _ _ _)
      | (with_reducible exact LeO.refl _)
      | (with_reducible exact LeO.none _)
      | (with_reducible refine LeO.ite ?_ ?_)
      | (with_reducible refine LeO.bind ?_ (fun _ => ?_))
      | exact ih0 _ _ _ _
      | exact ih1 _ _ _ _ _
      | exact impl_IsHyper.mono _ _ _
      | exact impl_distinct.mono _ _
      | exact slices_Contains_int_int.mono _ _ _
      | exact LeO.none _
      | refine LeO.ite ?_ ?_
      | refine LeO.bind ?_ (fun _ => ?_)
    · intro y0 y1 y2 y3 y4
      unfold impl_AreOwnPlaces.l0
      repeat' first
      | (with_reducible exact ih0 _ _ _ _)
      | (with_reducible exact ih1 _ _ _ _ _)
      | (with_reducible exact impl_IsHyper.mono _ _ _)
      | (with_reducible exact impl_distinct.mono _ _)
      | (with_reducible exact slices_Contains_int_int.mono _ _ _)
      | (with_reducible exact LeO.refl _)
      | (with_reducible exact LeO.none _)
      | (with_reducible refine LeO.ite ?_ ?_)
      | (with_reducible refine LeO.bind ?_ (fun _ => ?_))
      | exact ih0 _ _ _ _
      | exact ih1 _ _ _ _ _
      | exact impl_IsHyper.mono _ _ _
      | exact impl_distinct.mono _ _
      | exact slices_Contains_int_int.mono _ _ _
      | exact LeO.none _
      | refine LeO.ite ?_ ?_
      | refine LeO.bind ?_ (fun _ => ?_)
theorem impl_AreOwnPlaces.mono : ∀ a0 a1 a2 k, LeO (impl_AreOwnPlaces.f k a0 a1 a2) (impl_AreOwnPlaces.f (k + 1) a0 a1 a2) := by
  intro a0 a1 a2 k
  obtain ⟨ih0, ih1⟩ := impl_AreOwnPlaces.mono_l k
  unfold impl_AreOwnPlaces.f
  repeat' first
      | (with_reducible exact ih0 _ _ _ _)
      | (with_reducible exact ih1 _ _ _ _ _)
      | (with_reducible exact impl_IsHyper.mono _ _ _)
      | (with_reducible exact impl_distinct.mono _ _)
      | (with_reducible exact slices_Contains_int_int.mono _ _ _)
      | (with_reducible exact LeO.refl _)
      | (with_reducible exact LeO.none _)
      | (with_reducible refine LeO.ite ?_ ?_)
      | (with_reducible refine LeO.bind ?_ (fun _ => ?_))
      | exact ih0 _ _ _ _
      | exact ih1 _ _ _ _ _
      | exact impl_IsHyper.mono _ _ _
      | exact impl_distinct.mono _ _
      | exact slices_Contains_int_int.mono _ _ _
      | exact LeO.none _
      | refine LeO.ite ?_ ?_
      | refine LeO.bind ?_ (fun _ => ?_)
noncomputable def impl_AreOwnPlaces.J0 (y0 : List Int) (y1 : Bool) (y2 : Int) (y3 : List (List Int)) : Option (Bool × Bool) := lim fun k => impl_AreOwnPlaces.j0 k y0 y1 y2 y3
theorem impl_AreOwnPlaces.J0_sup (y0 : List Int) (y1 : Bool) (y2 : Int) (y3 : List (List Int)) : Sup (fun k => impl_AreOwnPlaces.j0 k y0 y1 y2 y3) (impl_AreOwnPlaces.J0 y0 y1 y2 y3) := Sup.of_mono fun k => (impl_AreOwnPlaces.mono_l k).1 y0 y1 y2 y3
noncomputable def impl_AreOwnPlaces.L0 (y0 : List Int) (y1 : Int) (y2 : Int) (y3 : Int) (y4 : List (List Int)) : Option (Bool × Bool) := lim fun k => impl_AreOwnPlaces.l0 k y0 y1 y2 y3 y4
theorem impl_AreOwnPlaces.L0_sup (y0 : List Int) (y1 : Int) (y2 : Int) (y3 : Int) (y4 : List (List Int)) : Sup (fun k => impl_AreOwnPlaces.l0 k y0 y1 y2 y3 y4) (impl_AreOwnPlaces.L0 y0 y1 y2 y3 y4) := Sup.of_mono fun k => (impl_AreOwnPlaces.mono_l k).2 y0 y1 y2 y3 y4
noncomputable def impl_AreOwnPlaces.F (a0_0 : Int) (l0_1 : List (List Int)) (l1 : List Int) : Option (Bool × Bool) := lim fun k => impl_AreOwnPlaces.f k a0_0 l0_1 l1
theorem impl_AreOwnPlaces.F_sup (a0_0 : Int) (l0_1 : List (List Int)) (l1 : List Int) : Sup (fun k => impl_AreOwnPlaces.f k a0_0 l0_1 l1) (impl_AreOwnPlaces.F a0_0 l0_1 l1) := Sup.of_mono fun k => impl_AreOwnPlaces.mono a0_0 l0_1 l1 k
theorem impl_AreOwnPlaces.J0_eq (x1 : List Int) (x21 : Bool) (x366000 : Int) (x366001 : List (List Int)) : impl_AreOwnPlaces.J0 x1 x21 x366000 x366001 = if x21 = true then (some (false, true)) else (impl_AreOwnPlaces.L0 x1 (x1.length : Int) 0 x366000 x366001) := by
  refine Sup.unique (impl_AreOwnPlaces.J0_sup x1 x21 x366000 x366001) (Sup.shift (fun k => (impl_AreOwnPlaces.mono_l k).1 x1 x21 x366000 x366001) (Sup.congr (g' := fun k => if x21 = true then (some (false, true)) else (impl_AreOwnPlaces.l0 k x1 (x1.length : Int) 0 x366000 x366001)) (fun k => by first | rfl | simp only [impl_AreOwnPlaces.j0]) ?_))
  repeat' first
    | (with_reducible exact impl_AreOwnPlaces.J0_sup _ _ _ _)
    | (with_reducible exact impl_AreOwnPlaces.L0_sup _ _ _ _ _)
    | (with_reducible exact impl_IsHyper.F_sup _ _)
    | (with_reducible exact slices_Contains_int_int.F_sup _ _)
    | (with_reducible exact impl_distinct.F_sup _)
    | (with_reducible refine Sup.ite ?_ ?_)
    | (with_reducible refine Sup.bind ?_ (fun _ => ?_))
    | (with_reducible exact Sup.const _)
    | exact impl_AreOwnPlaces.J0_sup _ _ _ _
    | exact impl_AreOwnPlaces.L0_sup _ _ _ _ _
    | exact impl_IsHyper.F_sup _ _
    | exact slices_Contains_int_int.F_sup _ _
    | exact impl_distinct.F_sup _
    | exact Sup.const _
theorem impl_AreOwnPlaces.L0_eq (x22 : List Int) (x23 : Int) (x24 : Int) (x366000 : Int) (x366001 : List (List Int)) : impl_AreOwnPlaces.L0 x22 x23 x24 x366000 x366001 = if x24 < x23 then (if 0 ≤ x24 then (if x24 < (x22.length : Int) then (if x24 < (x366001.length : Int) then ((slices_Contains_int_int.F (rd_L1 x366001 x24) (rd x22 x24)).bind fun t370 => (if t370 = true then (impl_AreOwnPlaces.L0 x22 x23 (wrap64 (x24 + 1)) x366000 x366001) else (some (false, true)))) else (none)) else (none)) else (none)) else (some (true, true)) := by
  refine Sup.unique (impl_AreOwnPlaces.L0_sup x22 x23 x24 x366000 x366001) (Sup.shift (fun k => (impl_AreOwnPlaces.mono_l k).2 x22 x23 x24 x366000 x366001) (Sup.congr (g' := fun k => if x24 < x23 then (if 0 ≤ x24 then (if x24 < (x22.length : Int) then (if x24 < (x366001.length : Int) then ((slices_Contains_int_int.f k (rd_L1 x366001 x24) (rd x22 x24)).bind fun t370 => (if t370 = true then (impl_AreOwnPlaces.l0 k x22 x23 (wrap64 (x24 + 1)) x366000 x366001) else (some (false, true)))) else (none)) else (none)) else (none)) else (some (true, true))) (fun k => by first | rfl | simp only [impl_AreOwnPlaces.l0]) ?_))
  repeat' first
    | (with_reducible exact impl_AreOwnPlaces.J0_sup _ _ _ _)
    | (with_reducible exact impl_AreOwnPlaces.L0_sup _ _ _ _ _)
    | (with_reducible exact impl_IsHyper.F_sup _ _)
    | (with_reducible exact slices_Contains_int_int.F_sup _ _)
    | (with_reducible exact impl_distinct.F_sup _)
    | (with_reducible refine Sup.ite ?_ ?_)
    | (with_reducible refine Sup.bind ?_ (fun _ => ?_))
    | (with_reducible exact Sup.const _)
    | exact impl_AreOwnPlaces.J0_sup _ _ _ _
    | exact impl_AreOwnPlaces.L0_sup _ _ _ _ _
    | exact impl_IsHyper.F_sup _ _
    | exact slices_Contains_int_int.F_sup _ _
    | exact impl_distinct.F_sup _
    | exact Sup.const _
theorem impl_AreOwnPlaces.F_eq (a0_0 : Int) (l0_1 : List (List Int)) (l1 : List Int) : impl_AreOwnPlaces.F a0_0 l0_1 l1 = (impl_IsHyper.F a0_0 l0_1).bind fun t366 => (if t366 = true then (if (l1.length : Int) = (l0_1.length : Int) then ((impl_distinct.F l1).bind fun t367 => (impl_AreOwnPlaces.J0 l1 (!t367) a0_0 l0_1)) else (impl_AreOwnPlaces.J0 l1 true a0_0 l0_1)) else (some (false, false))) := by
  refine Sup.unique (impl_AreOwnPlaces.F_sup a0_0 l0_1 l1) (Sup.congr (g' := fun k => (impl_IsHyper.f k a0_0 l0_1).bind fun t366 => (if t366 = true then (if (l1.length : Int) = (l0_1.length : Int) then ((impl_distinct.f k l1).bind fun t367 => (impl_AreOwnPlaces.j0 k l1 (!t367) a0_0 l0_1)) else (impl_AreOwnPlaces.j0 k l1 true a0_0 l0_1)) else (some (false, false)))) (fun k => by first | rfl | simp only [impl_AreOwnPlaces.f]) ?_)
  repeat' first
    | (with_reducible exact impl_AreOwnPlaces.J0_sup _ _ _ _)
    | (with_reducible exact impl_AreOwnPlaces.L0_sup _ _ _ _ _)
    | (with_reducible exact impl_IsHyper.F_sup _ _)
    | (with_reducible exact slices_Contains_int_int.F_sup _ _)
    | (with_reducible exact impl_distinct.F_sup _)
    | (with_reducible refine Sup.ite ?_ ?_)
    | (with_reducible refine Sup.bind ?_ (fun _ => ?_))
    | (with_reducible exact Sup.const _)
    | exact impl_AreOwnPlaces.J0_sup _ _ _ _
    | exact impl_AreOwnPlaces.L0_sup _ _ _ _ _
    | exact impl_IsHyper.F_sup _ _
    | exact slices_Contains_int_int.F_sup _ _
    | exact impl_distinct.F_sup _
    | exact Sup.const _
set_option maxHeartbeats 8000000 in
set_option maxRecDepth 100000 in
theorem impl_AreOwnPlaces.calls (k : Nat) (a0_0 : Int) (A0_1 : Option Addr) (c0_1 : Nat) (l0_1 : List (List Int)) (A1 : Option Addr) (c1 : Nat) (l1 : List Int) (r1 : Bool) (r2 : Bool) (w : World) (hr0_1 : Kd.C (Kd.slice 3 (Kd.int .i64)) w A0_1 l0_1.length l0_1) (hc0_1 : l0_1.length ≤ c0_1) (hr1 : Kd.C (Kd.int .i64) w A1 l1.length l1) (hc1 : l1.length ≤ c1) (h : impl_AreOwnPlaces.f k a0_0 l0_1 l1 = some (r1, r2)) :
    Calls Try.prog 32 #[.agg #[.int .i64 a0_0, .slice A0_1 l0_1.length c0_1], .slice A1 l1.length c1] w fun e w' => e = .returned (.tuple #[.bool r1, .bool r2]) ∧ Below w.heap.size w w' := by
  have hu29 := Try.underlying29
  have HR0_1 := Aside0.mk hr0_1
  have HC0_1 := Aside0.mk hc0_1
  clear hr0_1 hc0_1
  have HR1 := Aside0.mk hr1
  have HC1 := Aside0.mk hc1
  clear hr1 hc1
  have HB := Aside0.mk (Below.refl w.heap.size w)
  have H : ((impl_IsHyper.f k a0_0 l0_1).bind fun t366 => (if t366 = true then (if (l1.length : Int) = (l0_1.length : Int) then ((impl_distinct.f k l1).bind fun t367 => (impl_AreOwnPlaces.j0 k l1 (!t367) a0_0 l0_1)) else (impl_AreOwnPlaces.j0 k l1 true a0_0 l0_1)) else (some (false, false)))) = some (r1, r2) := h
  clear h
  replace H := Option.bind_eq_some_iff.mp H
  obtain ⟨t366, A30, H⟩ := H
  replace H : (if t366 = true then (if (l1.length : Int) = (l0_1.length : Int) then ((impl_distinct.f k l1).bind fun t367 => (impl_AreOwnPlaces.j0 k l1 (!t367) a0_0 l0_1)) else (impl_AreOwnPlaces.j0 k l1 true a0_0 l0_1)) else (some (false, false))) = some (r1, r2) := H
  have A3 := Aside0.mk A30
  clear A30
  by_cases c4 : t366 = true
  ·subst c4
   have H1 : (if (l1.length : Int) = (l0_1.length : Int) then ((impl_distinct.f k l1).bind fun t367 => (impl_AreOwnPlaces.j0 k l1 (!t367) a0_0 l0_1)) else (impl_AreOwnPlaces.j0 k l1 true a0_0 l0_1)) = some (r1, r2) := by rw [if_pos rfl] at H; exact H
   clear H
   have H := H1
   clear H1
   have HC5 := Aside0.mk H
   clear H
   go_enter Try.func32, Try.ntmps32
   go_upto_region 3 with (first | ((with_reducible refine gate_dst (N := 2) rfl ?_); refine box_event ?hg (N := 2) ?hd (cs := #[.int .i64 a0_0, .slice A0_1 l0_1.length c0_1]) (t := 29) ?hr ?_; (case hd => rfl); (case hg => rfl); (case hr => first | (go_simp; done) | (go_simp; rfl)); intro gb365 hg w6 hbox hb; have n0_ := Aside0.mk (below_step (by repeat (first | (with_reducible first | exact HB.out | apply below_alloc | apply pw_below_drewN | apply below_drew1) | exact HB.out)) hb); have n1_ := Aside0.mk (hbox); have n2_ := Aside0.mk ((by rw [hg]; exact (below_size (by repeat (first | (with_reducible first | exact HB.out | apply below_alloc | apply pw_below_drewN | apply below_drew1) | exact HB.out))) : w.heap.size ≤ gb365)); have n3_ := Aside0.mk ((by rw [hg]; exact (below_size (by repeat (first | (with_reducible first | exact HB.out | apply below_alloc | apply pw_below_drewN | apply below_drew1) | exact HB.out))) : w.heap.size ≤ gb365)); clear HB; have HB := n0_; have BK365 := n1_; have GW365 := n2_; have GE365 := n3_; clear n0_ n1_ n2_ n3_; clear hb hbox hg; have hcz7_0 : w6.cell? ⟨gb365, 0, none⟩ = some (.int .i64 a0_0) := (blk_cell BK365.out 0).trans rfl; have hcz7_1 : w6.cell? ⟨gb365, 1, none⟩ = some (.slice A0_1 l0_1.length c0_1) := (blk_cell BK365.out 1).trans rfl; have hfz7_0 := blk_frozen BK365.out 0; have hfz7_1 := blk_frozen BK365.out 1) | ((with_reducible refine gate_callee (f := 71) rfl ?_); refine goesL_ (some 9) rfl rfl Try.func71 (by kernel_rfl) rfl #[.agg #[.int .i64 a0_0, .slice A0_1 l0_1.length c0_1]] rfl (by (try simp only [List.map_toArray, List.map_cons, List.map_nil]); first | done | rfl | (simp only [List.length_drop, List.length_take]; rfl)) ?_; (with_reducible refine (impl_IsHyper.calls k a0_0 _ _ l0_1 true _ ?side1 ?side2 A3.out).mono ?_); (case side1 => repeat (first | exact (Kd.C_below HR0_1.out HB.out) | (with_reducible refine Kd.C_alloc ?_ _) | (with_reducible refine Kd.C_drewN ?_ _) | (with_reducible refine Kd.C_drew ?_))); (case side2 => exact HC0_1.out); rintro e w8 ⟨rfl, hb⟩; refine ⟨_, rfl, ?_⟩; have n0_ := Aside0.mk (blk_below (g := gb365) (o := .cells #[.int .i64 a0_0, .slice A0_1 l0_1.length c0_1] 29 (0, 0)) (by (with_reducible repeat (first | refine blk_drewN ?_ _ | refine blk_drew ?_ | refine blk_alloc ?_ _)); exact BK365.out) hb); have n1_ := Aside0.mk (below_step (by repeat (first | (with_reducible first | exact HB.out | apply below_alloc | apply pw_below_drewN | apply below_drew1 | refine below_set ?_ GE365.out) | exact HB.out)) hb); clear BK365; clear HB; have BK365 := n0_; have HB := n1_; clear n0_ n1_; (try clear hb); (try clear hb2); (try clear hk); (try clear hi)))
   (try simp only [Act.put, List.setIfInBounds_toArray, List.set_cons_zero, List.set_cons_succ])
   go_cut [21] (fun v21 wc => ∃ (kq : Nat) (x21_4 : Bool), v21 = .bool x21_4 ∧ Aside0 (impl_AreOwnPlaces.j0 kq l1 x21_4 a0_0 l0_1 = some (r1, r2)) ∧ Aside0 (kq ≤ k) ∧ Aside0 (wc.heap[gb365]? = some (.cells #[.int .i64 a0_0, (.slice A0_1 l0_1.length c0_1)] 29 (0, 0))) ∧ Aside0 (Below w.heap.size w wc))
   case first =>
    have H := HC5.out
    clear HC5
    by_cases c9 : (l1.length : Int) = (l0_1.length : Int)
    ·rw [if_pos c9] at H
     have c9b0 : ((l1.length : Int) == (l0_1.length : Int)) = true := beq_iff_eq.mpr c9
     have c9b1 : ((l1.length : Int) != (l0_1.length : Int)) = false := bne_eq_false_iff_eq.mpr c9
     have c9b2 : (l1.length == l0_1.length) = true := by first | simpa using c9 | (simp at c9 ⊢; omega)
     clear c9
     (first | rw [c9b0] | (simp only [i64_w, i32_w]; rw [c9b0]) | skip)
     replace H := Option.bind_eq_some_iff.mp H
     obtain ⟨t367, A100, H⟩ := H
     replace H : (impl_AreOwnPlaces.j0 k l1 (!t367) a0_0 l0_1) = some (r1, r2) := H
     have A10 := Aside0.mk A100
     clear A100
     have H' := Aside0.mk H
     clear H
     have hcz11_0 : w8.cell? ⟨gb365, 0, none⟩ = some (.int .i64 a0_0) := (blk_cell BK365.out 0).trans rfl
     have hcz11_1 : w8.cell? ⟨gb365, 1, none⟩ = some (.slice A0_1 l0_1.length c0_1) := (blk_cell BK365.out 1).trans rfl
     have hfz11_0 := blk_frozen BK365.out 0
     have hfz11_1 := blk_frozen BK365.out 1
     go_wp2_with (first | (go_at_call 81; (with_reducible refine (impl_distinct.calls k _ _ l1 t367 _ ?side1 ?side2 A10.out).mono ?_); (case side1 => repeat (first | exact (Kd.C_below HR1.out HB.out) | (with_reducible refine Kd.C_alloc ?_ _) | (with_reducible refine Kd.C_drewN ?_ _) | (with_reducible refine Kd.C_drew ?_))); (case side2 => exact HC1.out); rintro e w12 ⟨rfl, hb⟩; have n0_ := Aside0.mk (blk_below (g := gb365) (o := .cells #[.int .i64 a0_0, .slice A0_1 l0_1.length c0_1] 29 (0, 0)) (by (with_reducible repeat (first | refine blk_drewN ?_ _ | refine blk_drew ?_ | refine blk_alloc ?_ _)); exact BK365.out) hb); have n1_ := Aside0.mk (below_step (by repeat (first | (with_reducible first | exact HB.out | apply below_alloc | apply pw_below_drewN | apply below_drew1 | refine below_set ?_ GE365.out) | exact HB.out)) hb); clear BK365; clear HB; have BK365 := n0_; have HB := n1_; clear n0_ n1_; (try clear hb); (try clear hb2); (try clear hk); (try clear hi)))
     go_meet
     case rel => exact ⟨_, (!t367), (by first | rfl | (simp; done) | (simp [*]; done)), H', ⟨by first | omega | exact Nat.le_refl _⟩, ⟨by (with_reducible repeat (first | refine blk_drewN ?_ _ | refine blk_drew ?_ | refine blk_alloc ?_ _)); exact BK365.out⟩, ⟨by repeat (first | (with_reducible first | exact HB.out | apply below_alloc | apply pw_below_drewN | apply below_drew1 | refine below_set ?_ GE365.out) | exact HB.out)⟩⟩
    ·rw [if_neg c9] at H
     have c9b0 : ((l1.length : Int) == (l0_1.length : Int)) = false := beq_eq_false_iff_ne.mpr c9
     have c9b1 : ((l1.length : Int) != (l0_1.length : Int)) = true := bne_iff_ne.mpr c9
     have c9b2 : (l1.length == l0_1.length) = false := by first | simpa using c9 | (simp at c9 ⊢; omega)
     (first | rw [c9b0] | (simp only [i64_w, i32_w]; rw [c9b0]) | skip)
     have H' := Aside0.mk H
     clear H
     have hcz13_0 : w8.cell? ⟨gb365, 0, none⟩ = some (.int .i64 a0_0) := (blk_cell BK365.out 0).trans rfl
     have hcz13_1 : w8.cell? ⟨gb365, 1, none⟩ = some (.slice A0_1 l0_1.length c0_1) := (blk_cell BK365.out 1).trans rfl
     have hfz13_0 := blk_frozen BK365.out 0
     have hfz13_1 := blk_frozen BK365.out 1
     go_wp2
     go_meet
     case rel => exact ⟨_, (true), (by first | rfl | (simp; done) | (simp [*]; done)), H', ⟨by first | omega | exact Nat.le_refl _⟩, ⟨by (with_reducible repeat (first | refine blk_drewN ?_ _ | refine blk_drew ?_ | refine blk_alloc ?_ _)); exact BK365.out⟩, ⟨by repeat (first | (with_reducible first | exact HB.out | apply below_alloc | apply pw_below_drewN | apply below_drew1 | refine below_set ?_ GE365.out) | exact HB.out)⟩⟩
   case rest =>
    clear HC5
    try clear c1
    try clear p2
    try clear c3
    try clear c4
    try clear c7
    try clear c9
    try clear c9b0
    try clear c9b1
    try clear c9b2
    try clear hcz11_0
    try clear hcz11_1
    try clear hcz13_0
    try clear hcz13_1
    try clear hcz7_0
    try clear hcz7_1
    try clear hfz11_0
    try clear hfz11_1
    try clear hfz13_0
    try clear hfz13_1
    try clear hfz7_0
    try clear hfz7_1
    obtain ⟨kq, x21_4, rfl, HA, HJ4, BK365, HB⟩ := hcut
    cases kq with
    | zero => exact absurd HA.out (by simp [impl_AreOwnPlaces.j0])
    | succ kj4 =>
     have H := HA.out
     clear HA
     simp only [impl_AreOwnPlaces.j0] at H
     by_cases c14 : x21_4 = true
     ·subst c14
      have H1 : (some (false, true)) = some (r1, r2) := by rw [if_pos rfl] at H; exact H
      clear H
      have H := H1
      clear H1
      simp only [Option.some.injEq, Prod.mk.injEq] at H
      obtain ⟨rfl, rfl⟩ := H
      go_wp2
      go_ret2
      exact ⟨by first | rfl | (simp [errW_none, errW_some] <;> rfl) | (simp [*, errW_none, errW_some] <;> rfl), by repeat (first | (with_reducible first | exact HB.out | apply below_alloc | apply pw_below_drewN | apply below_drew1 | refine below_set ?_ GE365.out) | exact HB.out)⟩
     ·replace c14 := Bool.eq_false_iff.mpr c14
      subst c14
      have H1 : (impl_AreOwnPlaces.l0 kj4 l1 (l1.length : Int) 0 a0_0 l0_1) = some (r1, r2) := by rw [if_neg (show ¬ (false = true) by decide)] at H; exact H
      clear H
      have H := H1
      clear H1
      have H' := Aside0.mk H
      clear H
      go_wp2
      go_loopg [24] kj4 (fun kq v24 w' => ∃ (x24_2 : Int), v24 = .int .i64 x24_2 ∧ Aside0 (impl_AreOwnPlaces.l0 kq l1 (l1.length : Int) x24_2 a0_0 l0_1 = some (r1, r2)) ∧ Aside0 (kq ≤ kj4) ∧ Aside0 (w'.heap[gb365]? = some (.cells #[.int .i64 a0_0, (.slice A0_1 l0_1.length c0_1)] 29 (0, 0))) ∧ Aside0 (Below w.heap.size w w'))
      case atStart => exact ⟨(0), (by first | rfl | (simp; done) | (simp [*]; done)), H', ⟨Nat.le_refl _⟩, ⟨by (with_reducible repeat (first | refine blk_drewN ?_ _ | refine blk_drew ?_ | refine blk_alloc ?_ _)); exact BK365.out⟩, ⟨by repeat (first | (with_reducible first | exact HB.out | apply below_alloc | apply pw_below_drewN | apply below_drew1 | refine below_set ?_ GE365.out) | exact HB.out)⟩⟩
      case round =>
       clear H'
       try clear c1
       try clear p2
       try clear c3
       try clear c4
       try clear c7
       try clear c9
       try clear c9b0
       try clear c9b1
       try clear c9b2
       try clear c14
       try clear hcz11_0
       try clear hcz11_1
       try clear hcz13_0
       try clear hcz13_1
       try clear hcz7_0
       try clear hcz7_1
       try clear hfz11_0
       try clear hfz11_1
       try clear hfz13_0
       try clear hfz13_1
       try clear hfz7_0
       try clear hfz7_1
       try clear p2
       obtain ⟨x24_2, rfl, HA, HK2, BK365, HB⟩ := hrel
       cases gk with
       | zero => exact absurd HA.out (by simp [impl_AreOwnPlaces.l0])
       | succ k2 =>
        have H := HA.out
        clear HA
        simp only [impl_AreOwnPlaces.l0] at H
        by_cases c15 : x24_2 < (l1.length : Int)
        ·rw [if_pos c15] at H
         have c15b0 : decide (x24_2 < (l1.length : Int)) = true := decide_eq_true c15
         clear c15
         by_cases c16 : 0 ≤ x24_2
         ·rw [if_pos c16] at H
          have c16b0 : decide (0 ≤ x24_2) = true := decide_eq_true c16
          clear c16
          by_cases c17 : x24_2 < (l1.length : Int)
          ·rw [if_pos c17] at H
           have c17b0 : decide (x24_2 < (l1.length : Int)) = true := decide_eq_true c17
           clear c17
           by_cases c18 : x24_2 < (l0_1.length : Int)
           ·rw [if_pos c18] at H
            have c18b0 : decide (x24_2 < (l0_1.length : Int)) = true := decide_eq_true c18
            clear c18
            replace H := Option.bind_eq_some_iff.mp H
            obtain ⟨t370, A190, H⟩ := H
            replace H : (if t370 = true then (impl_AreOwnPlaces.l0 k2 l1 (l1.length : Int) (wrap64 (x24_2 + 1)) a0_0 l0_1) else (some (false, true))) = some (r1, r2) := H
            have A19 := Aside0.mk A190
            clear A190
            by_cases c20 : t370 = true
            ·subst c20
             have H1 : (impl_AreOwnPlaces.l0 k2 l1 (l1.length : Int) (wrap64 (x24_2 + 1)) a0_0 l0_1) = some (r1, r2) := by rw [if_pos rfl] at H; exact H
             clear H
             have H := H1
             clear H1
             have H' := Aside0.mk H
             clear H
             have p368 : 0 ≤ (x24_2 : Int) := of_decide_eq_true (by first | (with_reducible assumption) | assumption)
             have q368 : x24_2 < (l1.length : Int) := of_decide_eq_true (by first | (with_reducible assumption) | assumption)
             obtain ⟨ad368, e368, hx368_0⟩ := Kd.at_int HR1.out x24_2 p368 q368
             cases e368
             replace hx368_0 := (HB.out.cell (World.block_lt_of_cell? w _ hx368_0)).trans hx368_0
             replace p368 := eq_true p368
             replace q368 := eq_true q368
             have hcz21_0 : wr.cell? ⟨gb365, 0, none⟩ = some (.int .i64 a0_0) := (blk_cell BK365.out 0).trans rfl
             have hcz21_1 : wr.cell? ⟨gb365, 1, none⟩ = some (.slice A0_1 l0_1.length c0_1) := (blk_cell BK365.out 1).trans rfl
             have hfz21_0 := blk_frozen BK365.out 0
             have hfz21_1 := blk_frozen BK365.out 1
             have p369 : 0 ≤ (x24_2 : Int) := of_decide_eq_true (by first | (with_reducible assumption) | assumption)
             have q369 : x24_2 < (l0_1.length : Int) := of_decide_eq_true (by first | (with_reducible assumption) | assumption)
             obtain ⟨ad369, A369_0, c369_0, e369, hx369_0, hl369_0, hi369_0⟩ := at_L1 HR0_1.out x24_2 p369 q369
             cases e369
             replace hx369_0 := (HB.out.cell (World.block_lt_of_cell? w _ hx369_0)).trans hx369_0
             have HR369_0 := Aside0.mk hi369_0
             have HC369_0 := Aside0.mk hl369_0
             clear hi369_0 hl369_0
             replace p369 := eq_true p369
             replace q369 := eq_true q369
             go_wp2_with (first | ((with_reducible refine gate_callee (f := 77) rfl ?_); refine goesL_ (some 35) rfl rfl Try.func77 (by kernel_rfl) rfl #[.slice A369_0 (rd_L1 l0_1 x24_2).length c369_0, .int .i64 (rd l1 x24_2)] rfl (by (try simp only [List.map_toArray, List.map_cons, List.map_nil]); first | done | rfl | (simp only [List.length_drop, List.length_take]; rfl)) ?_; (with_reducible refine (slices_Contains_int_int.calls k2 _ _ (rd_L1 l0_1 x24_2) (rd l1 x24_2) true _ ?side1 ?side2 A19.out).mono ?_); (case side1 => repeat (first | exact (Kd.C_below HR369_0.out HB.out) | (with_reducible refine Kd.C_alloc ?_ _) | (with_reducible refine Kd.C_drewN ?_ _) | (with_reducible refine Kd.C_drew ?_))); (case side2 => exact HC369_0.out); rintro e w' ⟨rfl, ⟨nd, rfl⟩⟩; refine ⟨_, rfl, ?_⟩))
             go_roundg k2
             case measure => have := HJ4.out; have := HK2.out; omega
             case rel => exact ⟨(wrap64 (x24_2 + 1)), (by first | rfl | (simp; done) | (simp [*]; done)), H', ⟨by have := HJ4.out; have := HK2.out; omega⟩, ⟨by (with_reducible repeat (first | refine blk_drewN ?_ _ | refine blk_drew ?_ | refine blk_alloc ?_ _)); exact BK365.out⟩, ⟨by repeat (first | (with_reducible first | exact HB.out | apply below_alloc | apply pw_below_drewN | apply below_drew1 | refine below_set ?_ GE365.out) | exact HB.out)⟩⟩
            ·replace c20 := Bool.eq_false_iff.mpr c20
             subst c20
             have H1 : (some (false, true)) = some (r1, r2) := by rw [if_neg (show ¬ (false = true) by decide)] at H; exact H
             clear H
             have H := H1
             clear H1
             simp only [Option.some.injEq, Prod.mk.injEq] at H
             obtain ⟨rfl, rfl⟩ := H
             have p368 : 0 ≤ (x24_2 : Int) := of_decide_eq_true (by first | (with_reducible assumption) | assumption)
             have q368 : x24_2 < (l1.length : Int) := of_decide_eq_true (by first | (with_reducible assumption) | assumption)
             obtain ⟨ad368, e368, hx368_0⟩ := Kd.at_int HR1.out x24_2 p368 q368
             cases e368
             replace hx368_0 := (HB.out.cell (World.block_lt_of_cell? w _ hx368_0)).trans hx368_0
             replace p368 := eq_true p368
             replace q368 := eq_true q368
             have hcz22_0 : wr.cell? ⟨gb365, 0, none⟩ = some (.int .i64 a0_0) := (blk_cell BK365.out 0).trans rfl
             have hcz22_1 : wr.cell? ⟨gb365, 1, none⟩ = some (.slice A0_1 l0_1.length c0_1) := (blk_cell BK365.out 1).trans rfl
             have hfz22_0 := blk_frozen BK365.out 0
             have hfz22_1 := blk_frozen BK365.out 1
             have p369 : 0 ≤ (x24_2 : Int) := of_decide_eq_true (by first | (with_reducible assumption) | assumption)
             have q369 : x24_2 < (l0_1.length : Int) := of_decide_eq_true (by first | (with_reducible assumption) | assumption)
             obtain ⟨ad369, A369_0, c369_0, e369, hx369_0, hl369_0, hi369_0⟩ := at_L1 HR0_1.out x24_2 p369 q369
             cases e369
             replace hx369_0 := (HB.out.cell (World.block_lt_of_cell? w _ hx369_0)).trans hx369_0
             have HR369_0 := Aside0.mk hi369_0
             have HC369_0 := Aside0.mk hl369_0
             clear hi369_0 hl369_0
             replace p369 := eq_true p369
             replace q369 := eq_true q369
             go_wp2_with (first | ((with_reducible refine gate_callee (f := 77) rfl ?_); refine goesL_ (some 35) rfl rfl Try.func77 (by kernel_rfl) rfl #[.slice A369_0 (rd_L1 l0_1 x24_2).length c369_0, .int .i64 (rd l1 x24_2)] rfl (by (try simp only [List.map_toArray, List.map_cons, List.map_nil]); first | done | rfl | (simp only [List.length_drop, List.length_take]; rfl)) ?_; (with_reducible refine (slices_Contains_int_int.calls k2 _ _ (rd_L1 l0_1 x24_2) (rd l1 x24_2) false _ ?side1 ?side2 A19.out).mono ?_); (case side1 => repeat (first | exact (Kd.C_below HR369_0.out HB.out) | (with_reducible refine Kd.C_alloc ?_ _) | (with_reducible refine Kd.C_drewN ?_ _) | (with_reducible refine Kd.C_drew ?_))); (case side2 => exact HC369_0.out); rintro e w' ⟨rfl, ⟨nd, rfl⟩⟩; refine ⟨_, rfl, ?_⟩))
             go_ret2
             exact ⟨by first | rfl | (simp [errW_none, errW_some] <;> rfl) | (simp [*, errW_none, errW_some] <;> rfl), by repeat (first | (with_reducible first | exact HB.out | apply below_alloc | apply pw_below_drewN | apply below_drew1 | refine below_set ?_ GE365.out) | exact HB.out)⟩
           ·rw [if_neg c18] at H
            exact absurd H (by simp)
          ·rw [if_neg c17] at H
           exact absurd H (by simp)
         ·rw [if_neg c16] at H
          exact absurd H (by simp)
        ·rw [if_neg c15] at H
         have c15b0 : decide (x24_2 < (l1.length : Int)) = false := decide_eq_false c15
         clear c15
         simp only [Option.some.injEq, Prod.mk.injEq] at H
         obtain ⟨rfl, rfl⟩ := H
         go_wp2
         go_ret2
         exact ⟨by first | rfl | (simp [errW_none, errW_some] <;> rfl) | (simp [*, errW_none, errW_some] <;> rfl), by repeat (first | (with_reducible first | exact HB.out | apply below_alloc | apply pw_below_drewN | apply below_drew1 | refine below_set ?_ GE365.out) | exact HB.out)⟩
  ·replace c4 := Bool.eq_false_iff.mpr c4
   subst c4
   have H1 : (some (false, false)) = some (r1, r2) := by rw [if_neg (show ¬ (false = true) by decide)] at H; exact H
   clear H
   have H := H1
   clear H1
   simp only [Option.some.injEq, Prod.mk.injEq] at H
   obtain ⟨rfl, rfl⟩ := H
   go_enter Try.func32, Try.ntmps32
   go_wp2_with (first | ((with_reducible refine gate_dst (N := 2) rfl ?_); refine box_event ?hg (N := 2) ?hd (cs := #[.int .i64 a0_0, .slice A0_1 l0_1.length c0_1]) (t := 29) ?hr ?_; (case hd => rfl); (case hg => rfl); (case hr => first | (go_simp; done) | (go_simp; rfl)); intro gb365 hg w23 hbox hb; have n0_ := Aside0.mk (below_step (by repeat (first | (with_reducible first | exact HB.out | apply below_alloc | apply pw_below_drewN | apply below_drew1) | exact HB.out)) hb); have n1_ := Aside0.mk (hbox); have n2_ := Aside0.mk ((by rw [hg]; exact (below_size (by repeat (first | (with_reducible first | exact HB.out | apply below_alloc | apply pw_below_drewN | apply below_drew1) | exact HB.out))) : w.heap.size ≤ gb365)); have n3_ := Aside0.mk ((by rw [hg]; exact (below_size (by repeat (first | (with_reducible first | exact HB.out | apply below_alloc | apply pw_below_drewN | apply below_drew1) | exact HB.out))) : w.heap.size ≤ gb365)); clear HB; have HB := n0_; have BK365 := n1_; have GW365 := n2_; have GE365 := n3_; clear n0_ n1_ n2_ n3_; clear hb hbox hg; have hcz24_0 : w23.cell? ⟨gb365, 0, none⟩ = some (.int .i64 a0_0) := (blk_cell BK365.out 0).trans rfl; have hcz24_1 : w23.cell? ⟨gb365, 1, none⟩ = some (.slice A0_1 l0_1.length c0_1) := (blk_cell BK365.out 1).trans rfl; have hfz24_0 := blk_frozen BK365.out 0; have hfz24_1 := blk_frozen BK365.out 1) | ((with_reducible refine gate_callee (f := 71) rfl ?_); refine goesL_ (some 9) rfl rfl Try.func71 (by kernel_rfl) rfl #[.agg #[.int .i64 a0_0, .slice A0_1 l0_1.length c0_1]] rfl (by (try simp only [List.map_toArray, List.map_cons, List.map_nil]); first | done | rfl | (simp only [List.length_drop, List.length_take]; rfl)) ?_; (with_reducible refine (impl_IsHyper.calls k a0_0 _ _ l0_1 false _ ?side1 ?side2 A3.out).mono ?_); (case side1 => repeat (first | exact (Kd.C_below HR0_1.out HB.out) | (with_reducible refine Kd.C_alloc ?_ _) | (with_reducible refine Kd.C_drewN ?_ _) | (with_reducible refine Kd.C_drew ?_))); (case side2 => exact HC0_1.out); rintro e w25 ⟨rfl, hb⟩; refine ⟨_, rfl, ?_⟩; have n0_ := Aside0.mk (blk_below (g := gb365) (o := .cells #[.int .i64 a0_0, .slice A0_1 l0_1.length c0_1] 29 (0, 0)) (by (with_reducible repeat (first | refine blk_drewN ?_ _ | refine blk_drew ?_ | refine blk_alloc ?_ _)); exact BK365.out) hb); have n1_ := Aside0.mk (below_step (by repeat (first | (with_reducible first | exact HB.out | apply below_alloc | apply pw_below_drewN | apply below_drew1 | refine below_set ?_ GE365.out) | exact HB.out)) hb); clear BK365; clear HB; have BK365 := n0_; have HB := n1_; clear n0_ n1_; (try clear hb); (try clear hb2); (try clear hk); (try clear hi)))
   go_ret2
   exact ⟨by first | rfl | (simp [errW_none, errW_some] <;> rfl) | (simp [*, errW_none, errW_some] <;> rfl), by repeat (first | (with_reducible first | exact HB.out | apply below_alloc | apply pw_below_drewN | apply below_drew1 | refine below_set ?_ GE365.out) | exact HB.out)⟩
/-! ### laws_FnExactAreOwnPlaces: function 6 -/
def laws_FnExactAreOwnPlaces.f (k : Nat) (a0_0 : Int) (l0_1 : List (List Int)) (l1 : List Int) : Option (Bool) := if (l1.length : Int) > 1048576 then (some true) else ((laws_szHyper.f k a0_0 l0_1 1048576).bind fun t372 => (if t372 < 0 then (some true) else ((laws_toHyper.f k a0_0 l0_1).bind fun bt373 => ((laws_toIntS.f k l1).bind fun t377 => ((spec_AreOwnPlaces.f k bt373.1 bt373.2 t377).bind fun bt380 => ((laws_toHyper.f k a0_0 l0_1).bind fun bt382 => ((laws_toIntS.f k l1).bind fun t387 => ((impl_AreOwnPlaces.f k bt382.1 bt382.2 t387).bind fun bt390 => (if (bt390.1 != bt380.1) = true then (none) else (if (bt390.2 != bt380.2) = true then (none) else ((laws_toHyper.f k a0_0 l0_1).bind fun bt392 => ((laws_eqHyper.f k bt382.1 bt382.2 bt392.1 bt392.2).bind fun t396 => (if t396 = true then ((laws_toIntS.f k l1).bind fun t397 => ((laws_eqIntS.f k t387 t397).bind fun t400 => (if t400 = true then (some true) else (none)))) else (none))))))))))))))
theorem laws_FnExactAreOwnPlaces.mono : ∀ a0 a1 a2 k, LeO (laws_FnExactAreOwnPlaces.f k a0 a1 a2) (laws_FnExactAreOwnPlaces.f (k + 1) a0 a1 a2) := by
  intro a0 a1 a2 k
  unfold laws_FnExactAreOwnPlaces.f
  repeat' first
      | (with_reducible exact impl_AreOwnPlaces.mono _ _ _ _)
      | (with_reducible exact laws_eqHyper.mono _ _ _ _ _)
      | (with_reducible exact laws_eqIntS.mono _ _ _)
      | (with_reducible exact laws_szHyper.mono _ _ _ _)
      | (with_reducible exact laws_toHyper.mono _ _ _)
      | (with_reducible exact laws_toIntS.mono _ _)
      | (with_reducible exact spec_AreOwnPlaces.mono _ _ _ _)
      | (with_reducible exact LeO.refl _)
      | (with_reducible exact LeO.none _)
      | (with_reducible refine LeO.ite ?_ ?_)
      | (with_reducible refine LeO.bind ?_ (fun _ => ?_))
      | exact impl_AreOwnPlaces.mono _ _ _ _
      | exact laws_eqHyper.mono _ _ _ _ _
      | exact laws_eqIntS.mono _ _ _
      | exact laws_szHyper.mono _ _ _ _
      | exact laws_toHyper.mono _ _ _
      | exact laws_toIntS.mono _ _
      | exact spec_AreOwnPlaces.mono _ _ _ _
      | exact LeO.none _
      | refine LeO.ite ?_ ?_
      | refine LeO.bind ?_ (fun _ => ?_)
noncomputable def laws_FnExactAreOwnPlaces.F (a0_0 : Int) (l0_1 : List (List Int)) (l1 : List Int) : Option (Bool) := lim fun k => laws_FnExactAreOwnPlaces.f k a0_0 l0_1 l1
theorem laws_FnExactAreOwnPlaces.F_sup (a0_0 : Int) (l0_1 : List (List Int)) (l1 : List Int) : Sup (fun k => laws_FnExactAreOwnPlaces.f k a0_0 l0_1 l1) (laws_FnExactAreOwnPlaces.F a0_0 l0_1 l1) := Sup.of_mono fun k => laws_FnExactAreOwnPlaces.mono a0_0 l0_1 l1 k
theorem laws_FnExactAreOwnPlaces.F_eq (a0_0 : Int) (l0_1 : List (List Int)) (l1 : List Int) : laws_FnExactAreOwnPlaces.F a0_0 l0_1 l1 = if (l1.length : Int) > 1048576 then (some true) else ((laws_szHyper.F a0_0 l0_1 1048576).bind fun t372 => (if t372 < 0 then (some true) else ((laws_toHyper.F a0_0 l0_1).bind fun bt373 => ((laws_toIntS.F l1).bind fun t377 => ((spec_AreOwnPlaces.F bt373.1 bt373.2 t377).bind fun bt380 => ((laws_toHyper.F a0_0 l0_1).bind fun bt382 => ((laws_toIntS.F l1).bind fun t387 => ((impl_AreOwnPlaces.F bt382.1 bt382.2 t387).bind fun bt390 => (if (bt390.1 != bt380.1) = true then (none) else (if (bt390.2 != bt380.2) = true then (none) else ((laws_toHyper.F a0_0 l0_1).bind fun bt392 => ((laws_eqHyper.F bt382.1 bt382.2 bt392.1 bt392.2).bind fun t396 => (if t396 = true then ((laws_toIntS.F l1).bind fun t397 => ((laws_eqIntS.F t387 t397).bind fun t400 => (if t400 = true then (some true) else (none)))) else (none)))))))))))))) := by
  refine Sup.unique (laws_FnExactAreOwnPlaces.F_sup a0_0 l0_1 l1) (Sup.congr (g' := fun k => if (l1.length : Int) > 1048576 then (some true) else ((laws_szHyper.f k a0_0 l0_1 1048576).bind fun t372 => (if t372 < 0 then (some true) else ((laws_toHyper.f k a0_0 l0_1).bind fun bt373 => ((laws_toIntS.f k l1).bind fun t377 => ((spec_AreOwnPlaces.f k bt373.1 bt373.2 t377).bind fun bt380 => ((laws_toHyper.f k a0_0 l0_1).bind fun bt382 => ((laws_toIntS.f k l1).bind fun t387 => ((impl_AreOwnPlaces.f k bt382.1 bt382.2 t387).bind fun bt390 => (if (bt390.1 != bt380.1) = true then (none) else (if (bt390.2 != bt380.2) = true then (none) else ((laws_toHyper.f k a0_0 l0_1).bind fun bt392 => ((laws_eqHyper.f k bt382.1 bt382.2 bt392.1 bt392.2).bind fun t396 => (if t396 = true then ((laws_toIntS.f k l1).bind fun t397 => ((laws_eqIntS.f k t387 t397).bind fun t400 => (if t400 = true then (some true) else (none)))) else (none))))))))))))))) (fun k => by first | rfl | simp only [laws_FnExactAreOwnPlaces.f]) ?_)
  repeat' first
    | (with_reducible exact laws_szHyper.F_sup _ _ _)
    | (with_reducible exact laws_toHyper.F_sup _ _)
    | (with_reducible exact laws_eqIntS.F_sup _ _)
    | (with_reducible exact laws_eqHyper.F_sup _ _ _ _)
    | (with_reducible exact laws_toIntS.F_sup _)
    | (with_reducible exact spec_AreOwnPlaces.F_sup _ _ _)
    | (with_reducible exact impl_AreOwnPlaces.F_sup _ _ _)
    | (with_reducible refine Sup.ite ?_ ?_)
    | (with_reducible refine Sup.bind ?_ (fun _ => ?_))
    | (with_reducible exact Sup.const _)
    | exact laws_szHyper.F_sup _ _ _
    | exact laws_toHyper.F_sup _ _
    | exact laws_eqIntS.F_sup _ _
    | exact laws_eqHyper.F_sup _ _ _ _
    | exact laws_toIntS.F_sup _
    | exact spec_AreOwnPlaces.F_sup _ _ _
    | exact impl_AreOwnPlaces.F_sup _ _ _
    | exact Sup.const _
set_option maxHeartbeats 8000000 in
set_option maxRecDepth 100000 in
theorem laws_FnExactAreOwnPlaces.calls (k : Nat) (a0_0 : Int) (A0_1 : Option Addr) (c0_1 : Nat) (l0_1 : List (List Int)) (A1 : Option Addr) (c1 : Nat) (l1 : List Int) (r : Bool) (w : World) (hr0_1 : Kd.C (Kd.slice 3 (Kd.int .i64)) w A0_1 l0_1.length l0_1) (hc0_1 : l0_1.length ≤ c0_1) (hr1 : Kd.C (Kd.int .i64) w A1 l1.length l1) (hc1 : l1.length ≤ c1) (h : laws_FnExactAreOwnPlaces.f k a0_0 l0_1 l1 = some r) :
    Calls Try.prog 6 #[.agg #[.int .i64 a0_0, .slice A0_1 l0_1.length c0_1], .slice A1 l1.length c1] w fun e w' => e = .returned (.bool r) ∧ Below w.heap.size w w' := by
  have hu24 := Try.underlying24
  have hu29 := Try.underlying29
  have HR0_1 := Aside0.mk hr0_1
  have HC0_1 := Aside0.mk hc0_1
  clear hr0_1 hc0_1
  have HR1 := Aside0.mk hr1
  have HC1 := Aside0.mk hc1
  clear hr1 hc1
  have HB := Aside0.mk (Below.refl w.heap.size w)
  have H : (if (l1.length : Int) > 1048576 then (some true) else ((laws_szHyper.f k a0_0 l0_1 1048576).bind fun t372 => (if t372 < 0 then (some true) else ((laws_toHyper.f k a0_0 l0_1).bind fun bt373 => ((laws_toIntS.f k l1).bind fun t377 => ((spec_AreOwnPlaces.f k bt373.1 bt373.2 t377).bind fun bt380 => ((laws_toHyper.f k a0_0 l0_1).bind fun bt382 => ((laws_toIntS.f k l1).bind fun t387 => ((impl_AreOwnPlaces.f k bt382.1 bt382.2 t387).bind fun bt390 => (if (bt390.1 != bt380.1) = true then (none) else (if (bt390.2 != bt380.2) = true then (none) else ((laws_toHyper.f k a0_0 l0_1).bind fun bt392 => ((laws_eqHyper.f k bt382.1 bt382.2 bt392.1 bt392.2).bind fun t396 => (if t396 = true then ((laws_toIntS.f k l1).bind fun t397 => ((laws_eqIntS.f k t387 t397).bind fun t400 => (if t400 = true then (some true) else (none)))) else (none))))))))))))))) = some r := h
  clear h
  by_cases c3 : (l1.length : Int) > 1048576
  ·rw [if_pos c3] at H
   have c3b0 : decide (1048576 < (l1.length : Int)) = true := decide_eq_true c3
   have c3b1 : decide (1048576 < l1.length) = true := decide_eq_true (by omega)
   clear c3
   obtain rfl := Option.some.inj H
   go_enter Try.func6, Try.ntmps6
   go_wp2_with (first | ((with_reducible refine gate_dst (N := 2) rfl ?_); refine box_event ?hg (N := 2) ?hd (cs := #[.int .i64 a0_0, .slice A0_1 l0_1.length c0_1]) (t := 24) ?hr ?_; (case hd => rfl); (case hg => rfl); (case hr => first | (go_simp; done) | (go_simp; rfl)); intro gb371 hg w4 hbox hb; have n0_ := Aside0.mk (below_step (by repeat (first | (with_reducible first | exact HB.out | apply below_alloc | apply pw_below_drewN | apply below_drew1) | exact HB.out)) hb); have n1_ := Aside0.mk (hbox); have n2_ := Aside0.mk ((by rw [hg]; exact (below_size (by repeat (first | (with_reducible first | exact HB.out | apply below_alloc | apply pw_below_drewN | apply below_drew1) | exact HB.out))) : w.heap.size ≤ gb371)); have n3_ := Aside0.mk ((by rw [hg]; exact (below_size (by repeat (first | (with_reducible first | exact HB.out | apply below_alloc | apply pw_below_drewN | apply below_drew1) | exact HB.out))) : w.heap.size ≤ gb371)); clear HB; have HB := n0_; have BK371 := n1_; have GW371 := n2_; have GE371 := n3_; clear n0_ n1_ n2_ n3_; clear hb hbox hg))
   go_ret
   exact ⟨by first | rfl | (simp [errW_none, errW_some] <;> rfl) | (simp [*, errW_none, errW_some] <;> rfl), by repeat (first | (with_reducible first | exact HB.out | apply below_alloc | apply pw_below_drewN | apply below_drew1 | refine below_set ?_ GE371.out) | exact HB.out)⟩
  ·rw [if_neg c3] at H
   have c3b0 : decide (1048576 < (l1.length : Int)) = false := decide_eq_false c3
   have c3b1 : decide (1048576 < l1.length) = false := decide_eq_false (by omega)
   clear c3
   replace H := Option.bind_eq_some_iff.mp H
   obtain ⟨t372, A50, H⟩ := H
   replace H : (if t372 < 0 then (some true) else ((laws_toHyper.f k a0_0 l0_1).bind fun bt373 => ((laws_toIntS.f k l1).bind fun t377 => ((spec_AreOwnPlaces.f k bt373.1 bt373.2 t377).bind fun bt380 => ((laws_toHyper.f k a0_0 l0_1).bind fun bt382 => ((laws_toIntS.f k l1).bind fun t387 => ((impl_AreOwnPlaces.f k bt382.1 bt382.2 t387).bind fun bt390 => (if (bt390.1 != bt380.1) = true then (none) else (if (bt390.2 != bt380.2) = true then (none) else ((laws_toHyper.f k a0_0 l0_1).bind fun bt392 => ((laws_eqHyper.f k bt382.1 bt382.2 bt392.1 bt392.2).bind fun t396 => (if t396 = true then ((laws_toIntS.f k l1).bind fun t397 => ((laws_eqIntS.f k t387 t397).bind fun t400 => (if t400 = true then (some true) else (none)))) else (none))))))))))))) = some r := H
   have A5 := Aside0.mk A50
   clear A50
   by_cases c6 : t372 < 0
   ·rw [if_pos c6] at H
    have c6b0 : decide (t372 < 0) = true := decide_eq_true c6
    clear c6
    obtain rfl := Option.some.inj H
    go_enter Try.func6, Try.ntmps6
    go_wp2_with (first | ((with_reducible refine gate_dst (N := 2) rfl ?_); refine box_event ?hg (N := 2) ?hd (cs := #[.int .i64 a0_0, .slice A0_1 l0_1.length c0_1]) (t := 24) ?hr ?_; (case hd => rfl); (case hg => rfl); (case hr => first | (go_simp; done) | (go_simp; rfl)); intro gb371 hg w7 hbox hb; have n0_ := Aside0.mk (below_step (by repeat (first | (with_reducible first | exact HB.out | apply below_alloc | apply pw_below_drewN | apply below_drew1) | exact HB.out)) hb); have n1_ := Aside0.mk (hbox); have n2_ := Aside0.mk ((by rw [hg]; exact (below_size (by repeat (first | (with_reducible first | exact HB.out | apply below_alloc | apply pw_below_drewN | apply below_drew1) | exact HB.out))) : w.heap.size ≤ gb371)); have n3_ := Aside0.mk ((by rw [hg]; exact (below_size (by repeat (first | (with_reducible first | exact HB.out | apply below_alloc | apply pw_below_drewN | apply below_drew1) | exact HB.out))) : w.heap.size ≤ gb371)); clear HB; have HB := n0_; have BK371 := n1_; have GW371 := n2_; have GE371 := n3_; clear n0_ n1_ n2_ n3_; clear hb hbox hg; have hcz8_0 : w7.cell? ⟨gb371, 0, none⟩ = some (.int .i64 a0_0) := (blk_cell BK371.out 0).trans rfl; have hcz8_1 : w7.cell? ⟨gb371, 1, none⟩ = some (.slice A0_1 l0_1.length c0_1) := (blk_cell BK371.out 1).trans rfl; have hfz8_0 := blk_frozen BK371.out 0; have hfz8_1 := blk_frozen BK371.out 1) | ((with_reducible refine gate_callee (f := 17) rfl ?_); refine goesL_ (some 17) rfl rfl Try.func17 (by kernel_rfl) rfl #[.agg #[.int .i64 a0_0, .slice A0_1 l0_1.length c0_1], .int .i64 1048576] rfl (by (try simp only [List.map_toArray, List.map_cons, List.map_nil]); first | done | rfl | (simp only [List.length_drop, List.length_take]; rfl)) ?_; (with_reducible refine (laws_szHyper.calls k a0_0 _ _ l0_1 1048576 t372 _ ?side1 ?side2 A5.out).mono ?_); (case side1 => repeat (first | exact (Kd.C_below HR0_1.out HB.out) | (with_reducible refine Kd.C_alloc ?_ _) | (with_reducible refine Kd.C_drewN ?_ _) | (with_reducible refine Kd.C_drew ?_))); (case side2 => exact HC0_1.out); rintro e w9 ⟨rfl, hb⟩; refine ⟨_, rfl, ?_⟩; have n0_ := Aside0.mk (blk_below (g := gb371) (o := .cells #[.int .i64 a0_0, .slice A0_1 l0_1.length c0_1] 24 (0, 0)) (by (with_reducible repeat (first | refine blk_drewN ?_ _ | refine blk_drew ?_ | refine blk_alloc ?_ _)); exact BK371.out) hb); have n1_ := Aside0.mk (below_step (by repeat (first | (with_reducible first | exact HB.out | apply below_alloc | apply pw_below_drewN | apply below_drew1 | refine below_set ?_ GE371.out) | exact HB.out)) hb); clear BK371; clear HB; have BK371 := n0_; have HB := n1_; clear n0_ n1_; (try clear hb); (try clear hb2); (try clear hk); (try clear hi)))
    go_ret
    exact ⟨by first | rfl | (simp [errW_none, errW_some] <;> rfl) | (simp [*, errW_none, errW_some] <;> rfl), by repeat (first | (with_reducible first | exact HB.out | apply below_alloc | apply pw_below_drewN | apply below_drew1 | refine below_set ?_ GE371.out) | exact HB.out)⟩
   ·rw [if_neg c6] at H
    have c6b0 : decide (t372 < 0) = false := decide_eq_false c6
    clear c6
    replace H := Option.bind_eq_some_iff.mp H
    obtain ⟨⟨t373, t374⟩, A100, H⟩ := H
    replace H : ((laws_toIntS.f k l1).bind fun t377 => ((spec_AreOwnPlaces.f k t373 t374 t377).bind fun bt380 => ((laws_toHyper.f k a0_0 l0_1).bind fun bt382 => ((laws_toIntS.f k l1).bind fun t387 => ((impl_AreOwnPlaces.f k bt382.1 bt382.2 t387).bind fun bt390 => (if (bt390.1 != bt380.1) = true then (none) else (if (bt390.2 != bt380.2) = true then (none) else ((laws_toHyper.f k a0_0 l0_1).bind fun bt392 => ((laws_eqHyper.f k bt382.1 bt382.2 bt392.1 bt392.2).bind fun t396 => (if t396 = true then ((laws_toIntS.f k l1).bind fun t397 => ((laws_eqIntS.f k t387 t397).bind fun t400 => (if t400 = true then (some true) else (none)))) else (none))))))))))) = some r := H
    have A10 := Aside0.mk A100
    clear A100
    replace H := Option.bind_eq_some_iff.mp H
    obtain ⟨t377, A110, H⟩ := H
    replace H : ((spec_AreOwnPlaces.f k t373 t374 t377).bind fun bt380 => ((laws_toHyper.f k a0_0 l0_1).bind fun bt382 => ((laws_toIntS.f k l1).bind fun t387 => ((impl_AreOwnPlaces.f k bt382.1 bt382.2 t387).bind fun bt390 => (if (bt390.1 != bt380.1) = true then (none) else (if (bt390.2 != bt380.2) = true then (none) else ((laws_toHyper.f k a0_0 l0_1).bind fun bt392 => ((laws_eqHyper.f k bt382.1 bt382.2 bt392.1 bt392.2).bind fun t396 => (if t396 = true then ((laws_toIntS.f k l1).bind fun t397 => ((laws_eqIntS.f k t387 t397).bind fun t400 => (if t400 = true then (some true) else (none)))) else (none)))))))))) = some r := H
    have A11 := Aside0.mk A110
    clear A110
    replace H := Option.bind_eq_some_iff.mp H
    obtain ⟨⟨t380, t381⟩, A120, H⟩ := H
    replace H : ((laws_toHyper.f k a0_0 l0_1).bind fun bt382 => ((laws_toIntS.f k l1).bind fun t387 => ((impl_AreOwnPlaces.f k bt382.1 bt382.2 t387).bind fun bt390 => (if (bt390.1 != t380) = true then (none) else (if (bt390.2 != t381) = true then (none) else ((laws_toHyper.f k a0_0 l0_1).bind fun bt392 => ((laws_eqHyper.f k bt382.1 bt382.2 bt392.1 bt392.2).bind fun t396 => (if t396 = true then ((laws_toIntS.f k l1).bind fun t397 => ((laws_eqIntS.f k t387 t397).bind fun t400 => (if t400 = true then (some true) else (none)))) else (none))))))))) = some r := H
    have A12 := Aside0.mk A120
    clear A120
    replace H := Option.bind_eq_some_iff.mp H
    obtain ⟨⟨t382, t383⟩, A130, H⟩ := H
    replace H : ((laws_toIntS.f k l1).bind fun t387 => ((impl_AreOwnPlaces.f k t382 t383 t387).bind fun bt390 => (if (bt390.1 != t380) = true then (none) else (if (bt390.2 != t381) = true then (none) else ((laws_toHyper.f k a0_0 l0_1).bind fun bt392 => ((laws_eqHyper.f k t382 t383 bt392.1 bt392.2).bind fun t396 => (if t396 = true then ((laws_toIntS.f k l1).bind fun t397 => ((laws_eqIntS.f k t387 t397).bind fun t400 => (if t400 = true then (some true) else (none)))) else (none)))))))) = some r := H
    have A13 := Aside0.mk A130
    clear A130
    replace H := Option.bind_eq_some_iff.mp H
    obtain ⟨t387, A140, H⟩ := H
    replace H : ((impl_AreOwnPlaces.f k t382 t383 t387).bind fun bt390 => (if (bt390.1 != t380) = true then (none) else (if (bt390.2 != t381) = true then (none) else ((laws_toHyper.f k a0_0 l0_1).bind fun bt392 => ((laws_eqHyper.f k t382 t383 bt392.1 bt392.2).bind fun t396 => (if t396 = true then ((laws_toIntS.f k l1).bind fun t397 => ((laws_eqIntS.f k t387 t397).bind fun t400 => (if t400 = true then (some true) else (none)))) else (none))))))) = some r := H
    have A14 := Aside0.mk A140
    clear A140
    replace H := Option.bind_eq_some_iff.mp H
    obtain ⟨⟨t390, t391⟩, A150, H⟩ := H
    replace H : (if (t390 != t380) = true then (none) else (if (t391 != t381) = true then (none) else ((laws_toHyper.f k a0_0 l0_1).bind fun bt392 => ((laws_eqHyper.f k t382 t383 bt392.1 bt392.2).bind fun t396 => (if t396 = true then ((laws_toIntS.f k l1).bind fun t397 => ((laws_eqIntS.f k t387 t397).bind fun t400 => (if t400 = true then (some true) else (none)))) else (none)))))) = some r := H
    have A15 := Aside0.mk A150
    clear A150
    by_cases c16 : (t390 != t380) = true
    ·rw [if_pos c16] at H
     exact absurd H (by simp)
    ·rw [if_neg c16] at H
     have c16b0 : (t390 != t380) = false := by simpa using c16
     (try (have c16b1 : decide (t390 = t380) = true := by simpa using c16))
     (try (have c16b2 : (t390 == t380) = true := by simpa using c16))
     clear c16
     by_cases c17 : (t391 != t381) = true
     ·rw [if_pos c17] at H
      exact absurd H (by simp)
     ·rw [if_neg c17] at H
      have c17b0 : (t391 != t381) = false := by simpa using c17
      (try (have c17b1 : decide (t391 = t381) = true := by simpa using c17))
      (try (have c17b2 : (t391 == t381) = true := by simpa using c17))
      clear c17
      replace H := Option.bind_eq_some_iff.mp H
      obtain ⟨⟨t392, t393⟩, A180, H⟩ := H
      replace H : ((laws_eqHyper.f k t382 t383 t392 t393).bind fun t396 => (if t396 = true then ((laws_toIntS.f k l1).bind fun t397 => ((laws_eqIntS.f k t387 t397).bind fun t400 => (if t400 = true then (some true) else (none)))) else (none))) = some r := H
      have A18 := Aside0.mk A180
      clear A180
      replace H := Option.bind_eq_some_iff.mp H
      obtain ⟨t396, A190, H⟩ := H
      replace H : (if t396 = true then ((laws_toIntS.f k l1).bind fun t397 => ((laws_eqIntS.f k t387 t397).bind fun t400 => (if t400 = true then (some true) else (none)))) else (none)) = some r := H
      have A19 := Aside0.mk A190
      clear A190
      by_cases c20 : t396 = true
      ·subst c20
       have H1 : ((laws_toIntS.f k l1).bind fun t397 => ((laws_eqIntS.f k t387 t397).bind fun t400 => (if t400 = true then (some true) else (none)))) = some r := by rw [if_pos rfl] at H; exact H
       clear H
       have H := H1
       clear H1
       replace H := Option.bind_eq_some_iff.mp H
       obtain ⟨t397, A210, H⟩ := H
       replace H : ((laws_eqIntS.f k t387 t397).bind fun t400 => (if t400 = true then (some true) else (none))) = some r := H
       have A21 := Aside0.mk A210
       clear A210
       replace H := Option.bind_eq_some_iff.mp H
       obtain ⟨t400, A220, H⟩ := H
       replace H : (if t400 = true then (some true) else (none)) = some r := H
       have A22 := Aside0.mk A220
       clear A220
       by_cases c23 : t400 = true
       ·subst c23
        have H1 : (some true) = some r := by rw [if_pos rfl] at H; exact H
        clear H
        have H := H1
        clear H1
        obtain rfl := Option.some.inj H
        go_enter Try.func6, Try.ntmps6
        try go_wp2_with (first | ((with_reducible refine gate_dst (N := 2) rfl ?_); refine box_event ?hg (N := 2) ?hd (cs := #[.int .i64 a0_0, .slice A0_1 l0_1.length c0_1]) (t := 24) ?hr ?_; (case hd => rfl); (case hg => rfl); (case hr => first | (go_simp; done) | (go_simp; rfl)); intro gb371 hg w24 hbox hb; have n0_ := Aside0.mk (below_step (by repeat (first | (with_reducible first | exact HB.out | apply below_alloc | apply pw_below_drewN | apply below_drew1) | exact HB.out)) hb); have n1_ := Aside0.mk (hbox); have n2_ := Aside0.mk ((by rw [hg]; exact (below_size (by repeat (first | (with_reducible first | exact HB.out | apply below_alloc | apply pw_below_drewN | apply below_drew1) | exact HB.out))) : w.heap.size ≤ gb371)); have n3_ := Aside0.mk ((by rw [hg]; exact (below_size (by repeat (first | (with_reducible first | exact HB.out | apply below_alloc | apply pw_below_drewN | apply below_drew1) | exact HB.out))) : w.heap.size ≤ gb371)); clear HB; have HB := n0_; have BK371 := n1_; have GW371 := n2_; have GE371 := n3_; clear n0_ n1_ n2_ n3_; clear hb hbox hg; have hcz25_0 : w24.cell? ⟨gb371, 0, none⟩ = some (.int .i64 a0_0) := (blk_cell BK371.out 0).trans rfl; have hcz25_1 : w24.cell? ⟨gb371, 1, none⟩ = some (.slice A0_1 l0_1.length c0_1) := (blk_cell BK371.out 1).trans rfl; have hfz25_0 := blk_frozen BK371.out 0; have hfz25_1 := blk_frozen BK371.out 1) | ((with_reducible refine gate_callee (f := 17) rfl ?_); refine goesL_ (some 17) rfl rfl Try.func17 (by kernel_rfl) rfl #[.agg #[.int .i64 a0_0, .slice A0_1 l0_1.length c0_1], .int .i64 1048576] rfl (by (try simp only [List.map_toArray, List.map_cons, List.map_nil]); first | done | rfl | (simp only [List.length_drop, List.length_take]; rfl)) ?_; (with_reducible refine (laws_szHyper.calls k a0_0 _ _ l0_1 1048576 t372 _ ?side1 ?side2 A5.out).mono ?_); (case side1 => repeat (first | exact (Kd.C_below HR0_1.out HB.out) | (with_reducible refine Kd.C_alloc ?_ _) | (with_reducible refine Kd.C_drewN ?_ _) | (with_reducible refine Kd.C_drew ?_))); (case side2 => exact HC0_1.out); rintro e w26 ⟨rfl, hb⟩; refine ⟨_, rfl, ?_⟩; have n0_ := Aside0.mk (blk_below (g := gb371) (o := .cells #[.int .i64 a0_0, .slice A0_1 l0_1.length c0_1] 24 (0, 0)) (by (with_reducible repeat (first | refine blk_drewN ?_ _ | refine blk_drew ?_ | refine blk_alloc ?_ _)); exact BK371.out) hb); have n1_ := Aside0.mk (below_step (by repeat (first | (with_reducible first | exact HB.out | apply below_alloc | apply pw_below_drewN | apply below_drew1 | refine below_set ?_ GE371.out) | exact HB.out)) hb); clear BK371; clear HB; have BK371 := n0_; have HB := n1_; clear n0_ n1_; (try clear hb); (try clear hb2); (try clear hk); (try clear hi); have hcz27_0 : w26.cell? ⟨gb371, 0, none⟩ = some (.int .i64 a0_0) := (blk_cell BK371.out 0).trans rfl; have hcz27_1 : w26.cell? ⟨gb371, 1, none⟩ = some (.slice A0_1 l0_1.length c0_1) := (blk_cell BK371.out 1).trans rfl; have hfz27_0 := blk_frozen BK371.out 0; have hfz27_1 := blk_frozen BK371.out 1) | ((with_reducible refine gate_callee (f := 19) rfl ?_); refine goesL_ (some 22) rfl rfl Try.func19 (by kernel_rfl) rfl #[.agg #[.int .i64 a0_0, .slice A0_1 l0_1.length c0_1]] rfl (by (try simp only [List.map_toArray, List.map_cons, List.map_nil]); first | done | rfl | (simp only [List.length_drop, List.length_take]; rfl)) ?_; (with_reducible refine (laws_toHyper.calls k a0_0 _ _ l0_1 t373 t374 _ ?side1 ?side2 A10.out).mono ?_); (case side1 => repeat (first | exact (Kd.C_below HR0_1.out HB.out) | (with_reducible refine Kd.C_alloc ?_ _) | (with_reducible refine Kd.C_drewN ?_ _) | (with_reducible refine Kd.C_drew ?_))); (case side2 => exact HC0_1.out); rintro e w28 ⟨v375, rfl, ho0, hb⟩; refine ⟨_, rfl, ?_⟩; have n0_ := Aside0.mk (Kd.S_lower ho0 (below_size (by repeat (first | (with_reducible first | exact HB.out | apply below_alloc | apply pw_below_drewN | apply below_drew1 | refine below_set ?_ GE371.out) | exact HB.out)))); have n1_ := Aside0.mk (blk_below (g := gb371) (o := .cells #[.int .i64 a0_0, .slice A0_1 l0_1.length c0_1] 24 (0, 0)) (by (with_reducible repeat (first | refine blk_drewN ?_ _ | refine blk_drew ?_ | refine blk_alloc ?_ _)); exact BK371.out) hb); have n2_ := Aside0.mk (below_step (by repeat (first | (with_reducible first | exact HB.out | apply below_alloc | apply pw_below_drewN | apply below_drew1 | refine below_set ?_ GE371.out) | exact HB.out)) hb); clear BK371; clear HB; have HO376 := n0_; have BK371 := n1_; have HB := n2_; clear n0_ n1_ n2_; (try clear hb); (try clear hb2); (try clear hk); (try clear hi); (try clear ho0)) | ((with_reducible refine gate_callee (f := 29) rfl ?_); refine goesL_ (some 24) rfl rfl Try.func29 (by kernel_rfl) rfl #[.slice A1 l1.length c1] rfl (by (try simp only [List.map_toArray, List.map_cons, List.map_nil]); first | done | rfl | (simp only [List.length_drop, List.length_take]; rfl)) ?_; (with_reducible refine (laws_toIntS.calls k _ _ l1 t377 _ ?side1 ?side2 A11.out).mono ?_); (case side1 => repeat (first | exact (Kd.C_below HR1.out HB.out) | (with_reducible refine Kd.C_alloc ?_ _) | (with_reducible refine Kd.C_drewN ?_ _) | (with_reducible refine Kd.C_drew ?_))); (case side2 => exact HC1.out); rintro e w29 ⟨v378, rfl, ho0, hb⟩; refine ⟨_, rfl, ?_⟩; have n0_ := Aside0.mk (Kd.S_elder' (by (with_reducible repeat (first | apply Kd.S_alloc | apply Kd.S_drewN | apply Kd.S_drew)); exact HO376.out) (Kd.R_base ho0) hb); have n1_ := Aside0.mk (Kd.R_lower ho0 (below_size (by repeat (first | (with_reducible first | exact HB.out | apply below_alloc | apply pw_below_drewN | apply below_drew1 | refine below_set ?_ GE371.out) | exact HB.out)))); have n2_ := Aside0.mk (blk_below (g := gb371) (o := .cells #[.int .i64 a0_0, .slice A0_1 l0_1.length c0_1] 24 (0, 0)) (by (with_reducible repeat (first | refine blk_drewN ?_ _ | refine blk_drew ?_ | refine blk_alloc ?_ _)); exact BK371.out) hb); have n3_ := Aside0.mk (below_step (by repeat (first | (with_reducible first | exact HB.out | apply below_alloc | apply pw_below_drewN | apply below_drew1 | refine below_set ?_ GE371.out) | exact HB.out)) hb); clear HO376; clear BK371; clear HB; have HO376 := n0_; have HO379 := n1_; have BK371 := n2_; have HB := n3_; clear n0_ n1_ n2_ n3_; (try clear hb); (try clear hb2); (try clear hk); (try clear hi); (try clear ho0); obtain ⟨Ao30, co30, eo30⟩ := Kd.S_slice HO376.out; subst eo30; obtain ⟨Ao31, co31, eo31⟩ := Kd.R_slice HO379.out; subst eo31) | ((with_reducible refine gate_callee (f := 31) rfl ?_); refine goesL_ (some 25) rfl rfl Try.func31 (by kernel_rfl) rfl #[.agg #[.int .i64 t373, .slice Ao30 t374.length co30], .slice Ao31 t377.length co31] rfl (by (try simp only [List.map_toArray, List.map_cons, List.map_nil]); first | done | rfl | (simp only [List.length_drop, List.length_take]; rfl)) ?_; (with_reducible refine (spec_AreOwnPlaces.calls k t373 _ _ t374 _ _ t377 t380 t381 _ ?side1 ?side2 ?side3 ?side4 A12.out).mono ?_); (case side1 => repeat (first | exact (Kd.S_reads' HO376.out).2.2 | (with_reducible refine Kd.C_alloc ?_ _) | (with_reducible refine Kd.C_drewN ?_ _) | (with_reducible refine Kd.C_drew ?_))); (case side2 => exact (Kd.S_reads' HO376.out).2.1); (case side3 => repeat (first | exact (Kd.R_reads' HO379.out).2.2 | (with_reducible refine Kd.C_alloc ?_ _) | (with_reducible refine Kd.C_drewN ?_ _) | (with_reducible refine Kd.C_drew ?_))); (case side4 => exact (Kd.R_reads' HO379.out).2.1); rintro e w32 ⟨rfl, hb⟩; refine ⟨_, rfl, ?_⟩; have n0_ := Aside0.mk (Kd.S_below (by (with_reducible repeat (first | apply Kd.S_alloc | apply Kd.S_drewN | apply Kd.S_drew)); exact HO376.out) hb); have n1_ := Aside0.mk (Kd.R_below (by (with_reducible repeat (first | apply Kd.R_alloc | apply Kd.R_drewN | apply Kd.R_drew)); exact HO379.out) hb); have n2_ := Aside0.mk (blk_below (g := gb371) (o := .cells #[.int .i64 a0_0, .slice A0_1 l0_1.length c0_1] 24 (0, 0)) (by (with_reducible repeat (first | refine blk_drewN ?_ _ | refine blk_drew ?_ | refine blk_alloc ?_ _)); exact BK371.out) hb); have n3_ := Aside0.mk (below_step (by repeat (first | (with_reducible first | exact HB.out | apply below_alloc | apply pw_below_drewN | apply below_drew1 | refine below_set ?_ GE371.out) | exact HB.out)) hb); clear HO376; clear HO379; clear BK371; clear HB; have HO376 := n0_; have HO379 := n1_; have BK371 := n2_; have HB := n3_; clear n0_ n1_ n2_ n3_; (try clear hb); (try clear hb2); (try clear hk); (try clear hi); have hcz33_0 : w32.cell? ⟨gb371, 0, none⟩ = some (.int .i64 a0_0) := (blk_cell BK371.out 0).trans rfl; have hcz33_1 : w32.cell? ⟨gb371, 1, none⟩ = some (.slice A0_1 l0_1.length c0_1) := (blk_cell BK371.out 1).trans rfl; have hfz33_0 := blk_frozen BK371.out 0; have hfz33_1 := blk_frozen BK371.out 1) | ((with_reducible refine gate_callee (f := 19) rfl ?_); refine goesL_ (some 29) rfl rfl Try.func19 (by kernel_rfl) rfl #[.agg #[.int .i64 a0_0, .slice A0_1 l0_1.length c0_1]] rfl (by (try simp only [List.map_toArray, List.map_cons, List.map_nil]); first | done | rfl | (simp only [List.length_drop, List.length_take]; rfl)) ?_; (with_reducible refine (laws_toHyper.calls k a0_0 _ _ l0_1 t382 t383 _ ?side1 ?side2 A13.out).mono ?_); (case side1 => repeat (first | exact (Kd.C_below HR0_1.out HB.out) | (with_reducible refine Kd.C_alloc ?_ _) | (with_reducible refine Kd.C_drewN ?_ _) | (with_reducible refine Kd.C_drew ?_))); (case side2 => exact HC0_1.out); rintro e w34 ⟨v384, rfl, ho0, hb⟩; refine ⟨_, rfl, ?_⟩; have n0_ := Aside0.mk (Kd.S_elder' (by (with_reducible repeat (first | apply Kd.S_alloc | apply Kd.S_drewN | apply Kd.S_drew)); exact HO376.out) (Kd.S_base ho0) hb); have n1_ := Aside0.mk (Kd.R_below (by (with_reducible repeat (first | apply Kd.R_alloc | apply Kd.R_drewN | apply Kd.R_drew)); exact HO379.out) hb); have n2_ := Aside0.mk (Kd.S_lower (Kd.S_new' (Kd.S_new' ho0 (Kd.S_lt (by (with_reducible repeat (first | apply Kd.S_alloc | apply Kd.S_drewN | apply Kd.S_drew)); exact HO376.out))) (Kd.R_lt (by (with_reducible repeat (first | apply Kd.R_alloc | apply Kd.R_drewN | apply Kd.R_drew)); exact HO379.out))) (below_size (by repeat (first | (with_reducible first | exact HB.out | apply below_alloc | apply pw_below_drewN | apply below_drew1 | refine below_set ?_ GE371.out) | exact HB.out)))); have n3_ := Aside0.mk (blk_below (g := gb371) (o := .cells #[.int .i64 a0_0, .slice A0_1 l0_1.length c0_1] 24 (0, 0)) (by (with_reducible repeat (first | refine blk_drewN ?_ _ | refine blk_drew ?_ | refine blk_alloc ?_ _)); exact BK371.out) hb); have n4_ := Aside0.mk (below_step (by repeat (first | (with_reducible first | exact HB.out | apply below_alloc | apply pw_below_drewN | apply below_drew1 | refine below_set ?_ GE371.out) | exact HB.out)) hb); clear HO376; clear HO379; clear BK371; clear HB; have HO376 := n0_; have HO379 := n1_; have HO385 := n2_; have BK371 := n3_; have HB := n4_; clear n0_ n1_ n2_ n3_ n4_; (try clear hb); (try clear hb2); (try clear hk); (try clear hi); (try clear ho0)) | ((with_reducible refine gate_dst (N := 8) rfl ?_); refine box_event ?hg (N := 8) ?hd (cs := #[.int .i64 0, .slice none 0 0]) (t := 29) ?hr ?_; (case hd => rfl); (case hg => rfl); (case hr => first | (go_simp; done) | (go_simp; rfl)); intro gb386 hg w35 hbox hb; have n0_ := Aside0.mk (Kd.S_below (by (with_reducible repeat (first | apply Kd.S_alloc | apply Kd.S_drewN | apply Kd.S_drew)); exact HO376.out) hb); have n1_ := Aside0.mk (Kd.R_below (by (with_reducible repeat (first | apply Kd.R_alloc | apply Kd.R_drewN | apply Kd.R_drew)); exact HO379.out) hb); have n2_ := Aside0.mk (Kd.S_below (by (with_reducible repeat (first | apply Kd.S_alloc | apply Kd.S_drewN | apply Kd.S_drew)); exact HO385.out) hb); have n3_ := Aside0.mk (blk_below (g := gb371) (o := .cells #[.int .i64 a0_0, .slice A0_1 l0_1.length c0_1] 24 (0, 0)) (by (with_reducible repeat (first | refine blk_drewN ?_ _ | refine blk_drew ?_ | refine blk_alloc ?_ _)); exact BK371.out) hb); have n4_ := Aside0.mk (below_step (by repeat (first | (with_reducible first | exact HB.out | apply below_alloc | apply pw_below_drewN | apply below_drew1 | refine below_set ?_ GE371.out) | exact HB.out)) hb); have n5_ := Aside0.mk (hbox); have n6_ := Aside0.mk ((by rw [hg]; exact (below_size (by repeat (first | (with_reducible first | exact HB.out | apply below_alloc | apply pw_below_drewN | apply below_drew1 | refine below_set ?_ GE371.out) | exact HB.out))) : w.heap.size ≤ gb386)); have n7_ := Aside0.mk ((by rw [hg]; exact (below_size (by repeat (first | (with_reducible first | exact HB.out | apply below_alloc | apply pw_below_drewN | apply below_drew1 | refine below_set ?_ GE371.out) | exact HB.out))) : w.heap.size ≤ gb386)); have n8_ := Aside0.mk ((by rw [hg]; exact Nat.ne_of_lt (blk_lt (g := gb371) (o := .cells #[.int .i64 a0_0, .slice A0_1 l0_1.length c0_1] 24 (0, 0)) (by (with_reducible repeat (first | refine blk_drewN ?_ _ | refine blk_drew ?_ | refine blk_alloc ?_ _)); exact BK371.out)) : gb371 ≠ gb386)); have n9_ := Aside0.mk ((by rw [hg]; exact Nat.ne_of_gt (blk_lt (g := gb371) (o := .cells #[.int .i64 a0_0, .slice A0_1 l0_1.length c0_1] 24 (0, 0)) (by (with_reducible repeat (first | refine blk_drewN ?_ _ | refine blk_drew ?_ | refine blk_alloc ?_ _)); exact BK371.out)) : gb386 ≠ gb371)); clear HO376; clear HO379; clear HO385; clear BK371; clear HB; have HO376 := n0_; have HO379 := n1_; have HO385 := n2_; have BK371 := n3_; have HB := n4_; have BK386 := n5_; have GW386 := n6_; have GE386 := n7_; have NB371_386 := n8_; have NB386_371 := n9_; clear n0_ n1_ n2_ n3_ n4_ n5_ n6_ n7_ n8_ n9_; clear hb hbox hg; have hnb36 := NB386_371.out; have hnc36 := NB371_386.out; have hcz37_0 : w35.cell? ⟨gb386, 0, none⟩ = some (.int .i64 0) := (blk_cell BK386.out 0).trans rfl; have hcz37_1 : w35.cell? ⟨gb386, 1, none⟩ = some (.slice none 0 0) := (blk_cell BK386.out 1).trans rfl; have hfz37_0 := blk_frozen BK386.out 0; have hfz37_1 := blk_frozen BK386.out 1; obtain ⟨Ao38, co38, eo38⟩ := Kd.S_slice HO385.out; subst eo38) | ((with_reducible refine gate_callee (f := 29) rfl ?_); refine goesL_ (some 31) rfl rfl Try.func29 (by kernel_rfl) rfl #[.slice A1 l1.length c1] rfl (by (try simp only [List.map_toArray, List.map_cons, List.map_nil]); first | done | rfl | (simp only [List.length_drop, List.length_take]; rfl)) ?_; (with_reducible refine (laws_toIntS.calls k _ _ l1 t387 _ ?side1 ?side2 A14.out).mono ?_); (case side1 => exact Kd.C_below HR1.out (by repeat (first | (with_reducible first | exact HB.out | apply below_alloc | apply pw_below_drewN | apply below_drew1 | refine below_set ?_ GE371.out | refine below_set ?_ GE386.out) | exact HB.out))); (case side2 => exact HC1.out); rintro e w39 ⟨v388, rfl, ho0, hb⟩; refine ⟨_, rfl, ?_⟩; have n0_ := Aside0.mk (Kd.S_elder' (by (with_reducible repeat (first | apply Kd.S_alloc | apply Kd.S_drewN | apply Kd.S_drew)); exact (Kd.S_mono (Kd.S_far (p := ⟨gb386, 1, none⟩) (Kd.S_far (p := ⟨gb386, 0, none⟩) (Kd.S_types HO376.out BK386.out (by decide)) (fun _ hk => hk.2) (.int .i64 t382)) (fun _ hk => hk.2) (.slice Ao38 t383.length co38)) (fun _ h_ => h_.1))) (Kd.R_base ho0) hb); have n1_ := Aside0.mk (Kd.R_elder' (by (with_reducible repeat (first | apply Kd.R_alloc | apply Kd.R_drewN | apply Kd.R_drew)); exact (Kd.R_mono (Kd.R_far (p := ⟨gb386, 1, none⟩) (Kd.R_far (p := ⟨gb386, 0, none⟩) (Kd.R_types HO379.out BK386.out (by decide)) (fun _ hk => hk.2) (.int .i64 t382)) (fun _ hk => hk.2) (.slice Ao38 t383.length co38)) (fun _ h_ => h_.1))) (Kd.R_base ho0) hb); have n2_ := Aside0.mk (Kd.S_elder' (by (with_reducible repeat (first | apply Kd.S_alloc | apply Kd.S_drewN | apply Kd.S_drew)); exact (Kd.S_mono (Kd.S_far (p := ⟨gb386, 1, none⟩) (Kd.S_far (p := ⟨gb386, 0, none⟩) (Kd.S_types HO385.out BK386.out (by decide)) (fun _ hk => hk.2) (.int .i64 t382)) (fun _ hk => hk.2) (.slice Ao38 t383.length co38)) (fun _ h_ => h_.1))) (Kd.R_base ho0) hb); have n3_ := Aside0.mk (Kd.R_lower (Kd.R_new' ho0 (Kd.R_lt (by (with_reducible repeat (first | apply Kd.R_alloc | apply Kd.R_drewN | apply Kd.R_drew)); exact (Kd.R_mono (Kd.R_far (p := ⟨gb386, 1, none⟩) (Kd.R_far (p := ⟨gb386, 0, none⟩) (Kd.R_types HO379.out BK386.out (by decide)) (fun _ hk => hk.2) (.int .i64 t382)) (fun _ hk => hk.2) (.slice Ao38 t383.length co38)) (fun _ h_ => h_.1))))) (below_size (by repeat (first | (with_reducible first | exact HB.out | apply below_alloc | apply pw_below_drewN | apply below_drew1 | refine below_set ?_ GE371.out | refine below_set ?_ GE386.out) | exact HB.out)))); have n4_ := Aside0.mk (blk_below (g := gb371) (o := .cells #[.int .i64 a0_0, .slice A0_1 l0_1.length c0_1] 24 (0, 0)) (by (with_reducible repeat (first | refine blk_drewN ?_ _ | refine blk_drew ?_ | refine blk_alloc ?_ _)); refine blk_far ?_ NB371_386.out _; (with_reducible repeat (first | refine blk_drewN ?_ _ | refine blk_drew ?_ | refine blk_alloc ?_ _)); refine blk_far ?_ NB371_386.out _; (with_reducible repeat (first | refine blk_drewN ?_ _ | refine blk_drew ?_ | refine blk_alloc ?_ _)); exact BK371.out) hb); have n5_ := Aside0.mk (blk_below (g := gb386) (o := .cells #[.int .i64 t382, .slice Ao38 t383.length co38] 29 (0, 0)) (by (with_reducible repeat (first | refine blk_drewN ?_ _ | refine blk_drew ?_ | refine blk_alloc ?_ _)); refine blk_put (cs := #[.int .i64 t382, .slice none 0 0]) ?_ 1 _ rfl; (with_reducible repeat (first | refine blk_drewN ?_ _ | refine blk_drew ?_ | refine blk_alloc ?_ _)); refine blk_put (cs := #[.int .i64 0, .slice none 0 0]) ?_ 0 _ rfl; (with_reducible repeat (first | refine blk_drewN ?_ _ | refine blk_drew ?_ | refine blk_alloc ?_ _)); exact BK386.out) hb); have n6_ := Aside0.mk (below_step (by repeat (first | (with_reducible first | exact HB.out | apply below_alloc | apply pw_below_drewN | apply below_drew1 | refine below_set ?_ GE371.out | refine below_set ?_ GE386.out) | exact HB.out)) hb); clear HO376; clear HO379; clear HO385; clear BK371; clear BK386; clear HB; have HO376 := n0_; have HO379 := n1_; have HO385 := n2_; have HO389 := n3_; have BK371 := n4_; have BK386 := n5_; have HB := n6_; clear n0_ n1_ n2_ n3_ n4_ n5_ n6_; (try clear hb); (try clear hb2); (try clear hk); (try clear hi); (try clear ho0); have hcz40_0 : w39.cell? ⟨gb386, 0, none⟩ = some (.int .i64 t382) := (blk_cell BK386.out 0).trans rfl; have hcz40_1 : w39.cell? ⟨gb386, 1, none⟩ = some (.slice Ao38 t383.length co38) := (blk_cell BK386.out 1).trans rfl; have hfz40_0 := blk_frozen BK386.out 0; have hfz40_1 := blk_frozen BK386.out 1; obtain ⟨Ao41, co41, eo41⟩ := Kd.R_slice HO389.out; subst eo41) | ((with_reducible refine gate_callee (f := 32) rfl ?_); refine goesL_ (some 35) rfl rfl Try.func32 (by kernel_rfl) rfl #[.agg #[.int .i64 t382, .slice Ao38 t383.length co38], .slice Ao41 t387.length co41] rfl (by (try simp only [List.map_toArray, List.map_cons, List.map_nil]); first | done | rfl | (simp only [List.length_drop, List.length_take]; rfl)) ?_; (with_reducible refine (impl_AreOwnPlaces.calls k t382 _ _ t383 _ _ t387 t390 t391 _ ?side1 ?side2 ?side3 ?side4 A15.out).mono ?_); (case side1 => repeat (first | exact (Kd.S_reads' HO385.out).2.2 | (with_reducible refine Kd.C_alloc ?_ _) | (with_reducible refine Kd.C_drewN ?_ _) | (with_reducible refine Kd.C_drew ?_))); (case side2 => exact (Kd.S_reads' HO385.out).2.1); (case side3 => repeat (first | exact (Kd.R_reads' HO389.out).2.2 | (with_reducible refine Kd.C_alloc ?_ _) | (with_reducible refine Kd.C_drewN ?_ _) | (with_reducible refine Kd.C_drew ?_))); (case side4 => exact (Kd.R_reads' HO389.out).2.1); rintro e w42 ⟨rfl, hb⟩; refine ⟨_, rfl, ?_⟩; have n0_ := Aside0.mk (Kd.S_below (by (with_reducible repeat (first | apply Kd.S_alloc | apply Kd.S_drewN | apply Kd.S_drew)); exact HO376.out) hb); have n1_ := Aside0.mk (Kd.R_below (by (with_reducible repeat (first | apply Kd.R_alloc | apply Kd.R_drewN | apply Kd.R_drew)); exact HO379.out) hb); have n2_ := Aside0.mk (Kd.S_below (by (with_reducible repeat (first | apply Kd.S_alloc | apply Kd.S_drewN | apply Kd.S_drew)); exact HO385.out) hb); have n3_ := Aside0.mk (Kd.R_below (by (with_reducible repeat (first | apply Kd.R_alloc | apply Kd.R_drewN | apply Kd.R_drew)); exact HO389.out) hb); have n4_ := Aside0.mk (blk_below (g := gb371) (o := .cells #[.int .i64 a0_0, .slice A0_1 l0_1.length c0_1] 24 (0, 0)) (by (with_reducible repeat (first | refine blk_drewN ?_ _ | refine blk_drew ?_ | refine blk_alloc ?_ _)); exact BK371.out) hb); have n5_ := Aside0.mk (blk_below (g := gb386) (o := .cells #[.int .i64 t382, .slice Ao38 t383.length co38] 29 (0, 0)) (by (with_reducible repeat (first | refine blk_drewN ?_ _ | refine blk_drew ?_ | refine blk_alloc ?_ _)); exact BK386.out) hb); have n6_ := Aside0.mk (below_step (by repeat (first | (with_reducible first | exact HB.out | apply below_alloc | apply pw_below_drewN | apply below_drew1 | refine below_set ?_ GE371.out | refine below_set ?_ GE386.out) | exact HB.out)) hb); clear HO376; clear HO379; clear HO385; clear HO389; clear BK371; clear BK386; clear HB; have HO376 := n0_; have HO379 := n1_; have HO385 := n2_; have HO389 := n3_; have BK371 := n4_; have BK386 := n5_; have HB := n6_; clear n0_ n1_ n2_ n3_ n4_ n5_ n6_; (try clear hb); (try clear hb2); (try clear hk); (try clear hi)))
        have n0_ := Aside0.mk (Kd.S_drew HO376.out)
        have n1_ := Aside0.mk (Kd.R_drew HO379.out)
        have n2_ := Aside0.mk (Kd.S_drew HO385.out)
        have n3_ := Aside0.mk (Kd.R_drew HO389.out)
        have n4_ := Aside0.mk (blk_drew BK371.out)
        have n5_ := Aside0.mk (blk_drew BK386.out)
        have n6_ := Aside0.mk (below_drew1 HB.out)
        clear HO376
        clear HO379
        clear HO385
        clear HO389
        clear BK371
        clear BK386
        clear HB
        have HO376 := n0_
        have HO379 := n1_
        have HO385 := n2_
        have HO389 := n3_
        have BK371 := n4_
        have BK386 := n5_
        have HB := n6_
        clear n0_ n1_ n2_ n3_ n4_ n5_ n6_
        refine start_ (n := 5) (S := fun w' => w'.cell? ⟨gb386, 0, none⟩ = some (.int .i64 t382) ∧ w'.cell? ⟨gb386, 1, none⟩ = some (.slice Ao38 t383.length co38) ∧ w'.cell? ⟨gb371, 0, none⟩ = some (.int .i64 a0_0) ∧ w'.cell? ⟨gb371, 1, none⟩ = some (.slice A0_1 l0_1.length c0_1)) (ds := []) #[false, false, false, false, false] (by kernel_rfl) rfl rfl ⟨(blk_cell BK386.out 0).trans rfl, (blk_cell BK386.out 1).trans rfl, (blk_cell BK371.out 0).trans rfl, (blk_cell BK371.out 1).trans rfl⟩ (fun hHeld => ?_)
        generalize w42.drew = w43 at HO376 HO379 HO385 HO389 BK371 BK386 HB hHeld ⊢
        refine take_ (i := 0) (N := some 46) (v := ?_) (a' := ?_) (bsA 5 1) rfl rfl (by kernel_rfl) (fun _ _ _ h => h) (Or.inl ⟨by rfl, ?_⟩) hHeld ?_ ?_
        rotate_left
        ·rintro w' ⟨s0, s1, s2, s3⟩
         go_simp
         with_reducible rfl
        rotate_left
        ·simp only [Act.put, List.setIfInBounds_toArray, List.set_cons_zero, List.set_cons_succ, i64_w]
         rfl
        refine take_ (i := 1) (N := some 47) (v := ?_) (a' := ?_) (bsA 5 3) rfl rfl (by kernel_rfl) (fun _ _ _ h => h) (Or.inl ⟨by rfl, ?_⟩) hHeld ?_ ?_
        rotate_left
        ·rintro w' ⟨s0, s1, s2, s3⟩
         go_simp
         with_reducible rfl
        rotate_left
        ·simp only [Act.put, List.setIfInBounds_toArray, List.set_cons_zero, List.set_cons_succ, i64_w]
         rfl
        refine one_ (i := 2) (N := some 48) (bsA 5 7) rfl rfl (by kernel_rfl) (by decide) (fun K hK => ?_)
        refine goes_ Try.func19 (by kernel_rfl) rfl #[.agg #[.int .i64 a0_0, .slice A0_1 l0_1.length c0_1]] (by rfl) rfl rfl (by (try simp only [List.map_toArray, List.map_cons, List.map_nil]); first | done | rfl | (simp only [List.length_drop, List.length_take]; rfl)) ?_
        with_reducible refine (laws_toHyper.calls k a0_0 _ _ l0_1 t392 t393 _ ?side1 ?side2 A18.out).mono ?_
        (case side1 => repeat (first | exact (Kd.C_below HR0_1.out HB.out) | (with_reducible refine Kd.C_alloc ?_ _) | (with_reducible refine Kd.C_drewN ?_ _) | (with_reducible refine Kd.C_drew ?_)))
        (case side2 => exact HC0_1.out)
        rintro e w44 ⟨v394, rfl, ho0, hb⟩
        refine ⟨_, rfl, ?_⟩
        have n0_ := Aside0.mk (Kd.S_elder' (by (with_reducible repeat (first | apply Kd.S_alloc | apply Kd.S_drewN | apply Kd.S_drew)); exact HO376.out) (Kd.S_base ho0) hb)
        have n1_ := Aside0.mk (Kd.R_below (by (with_reducible repeat (first | apply Kd.R_alloc | apply Kd.R_drewN | apply Kd.R_drew)); exact HO379.out) hb)
        have n2_ := Aside0.mk (Kd.S_elder' (by (with_reducible repeat (first | apply Kd.S_alloc | apply Kd.S_drewN | apply Kd.S_drew)); exact HO385.out) (Kd.S_base ho0) hb)
        have n3_ := Aside0.mk (Kd.R_below (by (with_reducible repeat (first | apply Kd.R_alloc | apply Kd.R_drewN | apply Kd.R_drew)); exact HO389.out) hb)
        have n4_ := Aside0.mk (Kd.S_lower (Kd.S_new' (Kd.S_new' (Kd.S_new' (Kd.S_new' ho0 (Kd.S_lt (by (with_reducible repeat (first | apply Kd.S_alloc | apply Kd.S_drewN | apply Kd.S_drew)); exact HO376.out))) (Kd.R_lt (by (with_reducible repeat (first | apply Kd.R_alloc | apply Kd.R_drewN | apply Kd.R_drew)); exact HO379.out))) (Kd.S_lt (by (with_reducible repeat (first | apply Kd.S_alloc | apply Kd.S_drewN | apply Kd.S_drew)); exact HO385.out))) (Kd.R_lt (by (with_reducible repeat (first | apply Kd.R_alloc | apply Kd.R_drewN | apply Kd.R_drew)); exact HO389.out))) (below_size (by repeat (first | (with_reducible first | exact HB.out | apply below_alloc | apply pw_below_drewN | apply below_drew1 | refine below_set ?_ GE371.out | refine below_set ?_ GE386.out) | exact HB.out))))
        have n5_ := Aside0.mk (blk_below (g := gb371) (o := .cells #[.int .i64 a0_0, .slice A0_1 l0_1.length c0_1] 24 (0, 0)) (by (with_reducible repeat (first | refine blk_drewN ?_ _ | refine blk_drew ?_ | refine blk_alloc ?_ _)); exact BK371.out) hb)
        have n6_ := Aside0.mk (blk_below (g := gb386) (o := .cells #[.int .i64 t382, .slice Ao38 t383.length co38] 29 (0, 0)) (by (with_reducible repeat (first | refine blk_drewN ?_ _ | refine blk_drew ?_ | refine blk_alloc ?_ _)); exact BK386.out) hb)
        have n7_ := Aside0.mk (below_step (by repeat (first | (with_reducible first | exact HB.out | apply below_alloc | apply pw_below_drewN | apply below_drew1 | refine below_set ?_ GE371.out | refine below_set ?_ GE386.out) | exact HB.out)) hb)
        clear HO376
        clear HO379
        clear HO385
        clear HO389
        clear BK371
        clear BK386
        clear HB
        have HO376 := n0_
        have HO379 := n1_
        have HO385 := n2_
        have HO389 := n3_
        have HO395 := n4_
        have BK371 := n5_
        have BK386 := n6_
        have HB := n7_
        clear n0_ n1_ n2_ n3_ n4_ n5_ n6_ n7_
        (try clear hb)
        (try clear hb2)
        (try clear hk)
        (try clear hi)
        (try clear ho0)
        obtain ⟨Ao45, co45, eo45⟩ := Kd.S_slice HO395.out
        (first | subst eo45 | (injection eo45 with f1_ f2_ f3_; have f4_ := f1_.symm; have f5_ := f3_.symm; clear f1_ f2_ f3_; subst f4_; subst f5_))
        refine hK.out _ _ ⟨(blk_cell BK386.out 0).trans rfl, (blk_cell BK386.out 1).trans rfl, (blk_cell BK371.out 0).trans rfl, (blk_cell BK371.out 1).trans rfl⟩ (fun hHeld => ?_)
        clear hK K
        refine norm_ (a' := ?_) ?_ ?_
        rotate_left
        ·show Act.put _ (some 48) _ = _
         simp only [Act.put, List.setIfInBounds_toArray, List.set_cons_zero, List.set_cons_succ, i64_w]
         rfl
        refine one_ (i := 3) (N := some 49) (bsA 5 15) rfl rfl (by kernel_rfl) (by decide) (fun K hK => ?_)
        refine goes_ Try.func22 (by kernel_rfl) rfl #[.agg #[.int .i64 t382, .slice Ao38 t383.length co38], .agg #[.int .i64 t392, .slice Ao45 t393.length co45]] (by rfl) rfl rfl (by (try simp only [List.map_toArray, List.map_cons, List.map_nil]); first | done | rfl | (simp only [List.length_drop, List.length_take]; rfl)) ?_
        with_reducible refine (laws_eqHyper.calls k t382 _ _ t383 t392 _ _ t393 true _ ?side1 ?side2 ?side3 ?side4 A19.out).mono ?_
        (case side1 => repeat (first | exact (Kd.S_reads' HO385.out).2.2 | (with_reducible refine Kd.C_alloc ?_ _) | (with_reducible refine Kd.C_drewN ?_ _) | (with_reducible refine Kd.C_drew ?_)))
        (case side2 => exact (Kd.S_reads' HO385.out).2.1)
        (case side3 => repeat (first | exact (Kd.S_reads' HO395.out).2.2 | (with_reducible refine Kd.C_alloc ?_ _) | (with_reducible refine Kd.C_drewN ?_ _) | (with_reducible refine Kd.C_drew ?_)))
        (case side4 => exact (Kd.S_reads' HO395.out).2.1)
        rintro e w46 ⟨rfl, hb⟩
        refine ⟨_, rfl, ?_⟩
        have n0_ := Aside0.mk (Kd.S_below (by (with_reducible repeat (first | apply Kd.S_alloc | apply Kd.S_drewN | apply Kd.S_drew)); exact HO376.out) hb)
        have n1_ := Aside0.mk (Kd.R_below (by (with_reducible repeat (first | apply Kd.R_alloc | apply Kd.R_drewN | apply Kd.R_drew)); exact HO379.out) hb)
        have n2_ := Aside0.mk (Kd.S_below (by (with_reducible repeat (first | apply Kd.S_alloc | apply Kd.S_drewN | apply Kd.S_drew)); exact HO385.out) hb)
        have n3_ := Aside0.mk (Kd.R_below (by (with_reducible repeat (first | apply Kd.R_alloc | apply Kd.R_drewN | apply Kd.R_drew)); exact HO389.out) hb)
        have n4_ := Aside0.mk (Kd.S_below (by (with_reducible repeat (first | apply Kd.S_alloc | apply Kd.S_drewN | apply Kd.S_drew)); exact HO395.out) hb)
        have n5_ := Aside0.mk (blk_below (g := gb371) (o := .cells #[.int .i64 a0_0, .slice A0_1 l0_1.length c0_1] 24 (0, 0)) (by (with_reducible repeat (first | refine blk_drewN ?_ _ | refine blk_drew ?_ | refine blk_alloc ?_ _)); exact BK371.out) hb)
        have n6_ := Aside0.mk (blk_below (g := gb386) (o := .cells #[.int .i64 t382, .slice Ao38 t383.length co38] 29 (0, 0)) (by (with_reducible repeat (first | refine blk_drewN ?_ _ | refine blk_drew ?_ | refine blk_alloc ?_ _)); exact BK386.out) hb)
        have n7_ := Aside0.mk (below_step (by repeat (first | (with_reducible first | exact HB.out | apply below_alloc | apply pw_below_drewN | apply below_drew1 | refine below_set ?_ GE371.out | refine below_set ?_ GE386.out) | exact HB.out)) hb)
        clear HO376
        clear HO379
        clear HO385
        clear HO389
        clear HO395
        clear BK371
        clear BK386
        clear HB
        have HO376 := n0_
        have HO379 := n1_
        have HO385 := n2_
        have HO389 := n3_
        have HO395 := n4_
        have BK371 := n5_
        have BK386 := n6_
        have HB := n7_
        clear n0_ n1_ n2_ n3_ n4_ n5_ n6_ n7_
        (try clear hb)
        (try clear hb2)
        (try clear hk)
        (try clear hi)
        refine hK.out _ _ ⟨(blk_cell BK386.out 0).trans rfl, (blk_cell BK386.out 1).trans rfl, (blk_cell BK371.out 0).trans rfl, (blk_cell BK371.out 1).trans rfl⟩ (fun hHeld => ?_)
        clear hK K
        refine norm_ (a' := ?_) ?_ ?_
        rotate_left
        ·show Act.put _ (some 49) _ = _
         simp only [Act.put, List.setIfInBounds_toArray, List.set_cons_zero, List.set_cons_succ, i64_w]
         rfl
        refine pure_ (i := 4) (N := some 50) (v := ?_) (a' := ?_) (bsA 5 31) rfl rfl (by kernel_rfl) (fun _ _ _ h => h) (Or.inl ⟨by rfl, ?_⟩) ?_ ?_
        rotate_left
        ·intro w'
         go_simp
         with_reducible rfl
        rotate_left
        ·simp only [Act.put, List.setIfInBounds_toArray, List.set_cons_zero, List.set_cons_succ, i64_w]
         rfl
        refine done_ (by kernel_rfl) ?_
        try go_wp2_with (first | ((with_reducible refine gate_callee (f := 29) rfl ?_); refine goesL_ (some 53) rfl rfl Try.func29 (by kernel_rfl) rfl #[.slice A1 l1.length c1] rfl (by (try simp only [List.map_toArray, List.map_cons, List.map_nil]); first | done | rfl | (simp only [List.length_drop, List.length_take]; rfl)) ?_; (with_reducible refine (laws_toIntS.calls k _ _ l1 t397 _ ?side1 ?side2 A21.out).mono ?_); (case side1 => repeat (first | exact (Kd.C_below HR1.out HB.out) | (with_reducible refine Kd.C_alloc ?_ _) | (with_reducible refine Kd.C_drewN ?_ _) | (with_reducible refine Kd.C_drew ?_))); (case side2 => exact HC1.out); rintro e w47 ⟨v398, rfl, ho0, hb⟩; refine ⟨_, rfl, ?_⟩; have n0_ := Aside0.mk (Kd.S_elder' (by (with_reducible repeat (first | apply Kd.S_alloc | apply Kd.S_drewN | apply Kd.S_drew)); exact HO376.out) (Kd.R_base ho0) hb); have n1_ := Aside0.mk (Kd.R_elder' (by (with_reducible repeat (first | apply Kd.R_alloc | apply Kd.R_drewN | apply Kd.R_drew)); exact HO379.out) (Kd.R_base ho0) hb); have n2_ := Aside0.mk (Kd.S_elder' (by (with_reducible repeat (first | apply Kd.S_alloc | apply Kd.S_drewN | apply Kd.S_drew)); exact HO385.out) (Kd.R_base ho0) hb); have n3_ := Aside0.mk (Kd.R_elder' (by (with_reducible repeat (first | apply Kd.R_alloc | apply Kd.R_drewN | apply Kd.R_drew)); exact HO389.out) (Kd.R_base ho0) hb); have n4_ := Aside0.mk (Kd.S_elder' (by (with_reducible repeat (first | apply Kd.S_alloc | apply Kd.S_drewN | apply Kd.S_drew)); exact HO395.out) (Kd.R_base ho0) hb); have n5_ := Aside0.mk (Kd.R_lower (Kd.R_new' (Kd.R_new' ho0 (Kd.R_lt (by (with_reducible repeat (first | apply Kd.R_alloc | apply Kd.R_drewN | apply Kd.R_drew)); exact HO379.out))) (Kd.R_lt (by (with_reducible repeat (first | apply Kd.R_alloc | apply Kd.R_drewN | apply Kd.R_drew)); exact HO389.out))) (below_size (by repeat (first | (with_reducible first | exact HB.out | apply below_alloc | apply pw_below_drewN | apply below_drew1 | refine below_set ?_ GE371.out | refine below_set ?_ GE386.out) | exact HB.out)))); have n6_ := Aside0.mk (blk_below (g := gb371) (o := .cells #[.int .i64 a0_0, .slice A0_1 l0_1.length c0_1] 24 (0, 0)) (by (with_reducible repeat (first | refine blk_drewN ?_ _ | refine blk_drew ?_ | refine blk_alloc ?_ _)); exact BK371.out) hb); have n7_ := Aside0.mk (blk_below (g := gb386) (o := .cells #[.int .i64 t382, .slice Ao38 t383.length co38] 29 (0, 0)) (by (with_reducible repeat (first | refine blk_drewN ?_ _ | refine blk_drew ?_ | refine blk_alloc ?_ _)); exact BK386.out) hb); have n8_ := Aside0.mk (below_step (by repeat (first | (with_reducible first | exact HB.out | apply below_alloc | apply pw_below_drewN | apply below_drew1 | refine below_set ?_ GE371.out | refine below_set ?_ GE386.out) | exact HB.out)) hb); clear HO376; clear HO379; clear HO385; clear HO389; clear HO395; clear BK371; clear BK386; clear HB; have HO376 := n0_; have HO379 := n1_; have HO385 := n2_; have HO389 := n3_; have HO395 := n4_; have HO399 := n5_; have BK371 := n6_; have BK386 := n7_; have HB := n8_; clear n0_ n1_ n2_ n3_ n4_ n5_ n6_ n7_ n8_; (try clear hb); (try clear hb2); (try clear hk); (try clear hi); (try clear ho0); obtain ⟨Ao48, co48, eo48⟩ := Kd.R_slice HO399.out; subst eo48) | ((with_reducible refine gate_callee (f := 21) rfl ?_); refine goesL_ (some 54) rfl rfl Try.func21 (by kernel_rfl) rfl #[.slice Ao41 t387.length co41, .slice Ao48 t397.length co48] rfl (by (try simp only [List.map_toArray, List.map_cons, List.map_nil]); first | done | rfl | (simp only [List.length_drop, List.length_take]; rfl)) ?_; (with_reducible refine (laws_eqIntS.calls k _ _ t387 _ _ t397 true _ ?side1 ?side2 ?side3 ?side4 A22.out).mono ?_); (case side1 => repeat (first | exact (Kd.R_reads' HO389.out).2.2 | (with_reducible refine Kd.C_alloc ?_ _) | (with_reducible refine Kd.C_drewN ?_ _) | (with_reducible refine Kd.C_drew ?_))); (case side2 => exact (Kd.R_reads' HO389.out).2.1); (case side3 => repeat (first | exact (Kd.R_reads' HO399.out).2.2 | (with_reducible refine Kd.C_alloc ?_ _) | (with_reducible refine Kd.C_drewN ?_ _) | (with_reducible refine Kd.C_drew ?_))); (case side4 => exact (Kd.R_reads' HO399.out).2.1); rintro e w' ⟨rfl, ⟨nd, rfl⟩⟩; refine ⟨_, rfl, ?_⟩))
        go_ret
        exact ⟨by first | rfl | (simp [errW_none, errW_some] <;> rfl) | (simp [*, errW_none, errW_some] <;> rfl), by repeat (first | (with_reducible first | exact HB.out | apply below_alloc | apply pw_below_drewN | apply below_drew1 | refine below_set ?_ GE371.out | refine below_set ?_ GE386.out) | exact HB.out)⟩
       ·replace c23 := Bool.eq_false_iff.mpr c23
        subst c23
        have H1 : (none) = some r := by rw [if_neg (show ¬ (false = true) by decide)] at H; exact H
        clear H
        have H := H1
        clear H1
        exact absurd H (by simp)
      ·replace c20 := Bool.eq_false_iff.mpr c20
       subst c20
       have H1 : (none) = some r := by rw [if_neg (show ¬ (false = true) by decide)] at H; exact H
       clear H
       have H := H1
       clear H1
       exact absurd H (by simp)

/-- What is to be shown of laws_FnExactAreOwnPlaces: plain. -/
def laws_FnExactAreOwnPlaces.Pure : Prop := ∀ (a0_0 : Int) (l0_1 : List (List Int)) (l1 : List Int), (wfI .i64) a0_0 → (wfL (wfL (wfI .i64))) l0_1 → (wfL (wfI .i64)) l1 → ∃ k, laws_FnExactAreOwnPlaces.f k a0_0 l0_1 l1 = some true
theorem laws_FnExactAreOwnPlaces.walk (P : laws_FnExactAreOwnPlaces.Pure) (a0_0 : Int) (A0_1 : Option Addr) (c0_1 : Nat) (l0_1 : List (List Int)) (A1 : Option Addr) (c1 : Nat) (l1 : List Int) (w : World) (hr0_1 : Kd.C (Kd.slice 3 (Kd.int .i64)) w A0_1 l0_1.length l0_1) (hc0_1 : l0_1.length ≤ c0_1) (hr1 : Kd.C (Kd.int .i64) w A1 l1.length l1) (hc1 : l1.length ≤ c1) (hw0_0 : (wfI .i64) a0_0) (hw0_1 : (wfL (wfL (wfI .i64))) l0_1) (hw1 : (wfL (wfI .i64)) l1) :
    Calls Try.prog 6 #[.agg #[.int .i64 a0_0, .slice A0_1 l0_1.length c0_1], .slice A1 l1.length c1] w fun e w' => e = .returned (.bool true) ∧ Below w.heap.size w w' := by
  obtain ⟨k, h⟩ := P a0_0 l0_1 l1 hw0_0 hw0_1 hw1
  refine (laws_FnExactAreOwnPlaces.calls k a0_0 A0_1 c0_1 l0_1 A1 c1 l1 true w hr0_1 hc0_1 hr1 hc1 h).mono ?_
  rintro e w' ⟨rfl, hd⟩
  exact ⟨rfl, hd⟩
end Go.Proofs.Ytlcedciocmjggaa.X
