/- Written by a program of this session: what functions of the given program compute, and that their calls do so. -/
import Derived.Test.YtdlbdocpofnfjaaXx0
import Derived.Test.YtdlbdocpofnfjaaXg1a0a
import Derived.Test.YtdlbdocpofnfjaaXg3fea
import Derived.Test.YtdlbdocpofnfjaaXg3feb
import Derived.Test.YtdlbdocpofnfjaaXg3fec
import Derived.Test.YtdlbdocpofnfjaaXg3ffa
import Derived.Test.YtdlbdocpofnfjaaXg3ffb
namespace Go.Proofs.Ytdlbdocpofnfjaa.X
open Go.RowKit Go.Proofs.YtdlbdocpofnfjaaW.PrintWords Go.Proofs.YtdlbdocpofnfjaaW.PrintLast Go.Proofs.YtdlbdocpofnfjaaW.PrintMore
attribute [local go_sem] max2_int min2_int max_two min_two max_three min_three max_four min_four   -- for this text's walks alone
set_option linter.unusedVariables false
set_option linter.unusedSimpArgs false
/-! ### spec_l1Has: function 68 -/
def spec_l1Has.l0 : Nat → Int → List Int → Int → Int → Option (Bool)
  | 0, _, _, _, _ => none
  | k + 1, x1, x7, x8, x9 => if x9 < x8 then (if 0 ≤ x9 then (if x9 < (x7.length : Int) then (if (rd x7 x9) = x1 then (some true) else (spec_l1Has.l0 k x1 x7 x8 (wrap64 (x9 + 1)))) else (none)) else (none)) else (some false)
def spec_l1Has.f (k : Nat) (l0 : List Int) (a1 : Int) : Option (Bool) := spec_l1Has.l0 k a1 l0 (l0.length : Int) 0
theorem spec_l1Has.mono_l : ∀ k, (∀ y0 y1 y2 y3, LeO (spec_l1Has.l0 k y0 y1 y2 y3) (spec_l1Has.l0 (k + 1) y0 y1 y2 y3))
  | 0 => fun _ _ _ _ r h => by simp [spec_l1Has.l0] at h
  | k + 1 => by
    have ih0 := spec_l1Has.mono_l k
    · intro y0 y1 y2 y3
      unfold spec_l1Has.l0
      repeat' first
      | (with_reducible exact ih0 _ _ _ _)
      | (with_reducible exact LeO.refl _)
      | (with_reducible exact LeO.none _)
      | (with_reducible refine LeO.ite ?_ ?_)
      | (with_reducible refine LeO.bind ?_ (fun _ => ?_))
      | exact ih0 _ _ _ _
      | exact LeO.none _
      | refine LeO.ite ?_ ?_
      | refine LeO.bind ?_ (fun _ => ?_)
theorem spec_l1Has.mono : ∀ a0 a1 k, LeO (spec_l1Has.f k a0 a1) (spec_l1Has.f (k + 1) a0 a1) := by
  intro a0 a1 k
  have ih0 := spec_l1Has.mono_l k
  unfold spec_l1Has.f
  repeat' first
      | (with_reducible exact ih0 _ _ _ _)
      | (with_reducible exact LeO.refl _)
      | (with_reducible exact LeO.none _)
      | (with_reducible refine LeO.ite ?_ ?_)
      | (with_reducible refine LeO.bind ?_ (fun _ => ?_))
      | exact ih0 _ _ _ _
      | exact LeO.none _
      | refine LeO.ite ?_ ?_
      | refine LeO.bind ?_ (fun _ => ?_)
noncomputable def spec_l1Has.L0 (y0 : Int) (y1 : List Int) (y2 : Int) (y3 : Int) : Option (Bool) := lim fun k => spec_l1Has.l0 k y0 y1 y2 y3
theorem spec_l1Has.L0_sup (y0 : Int) (y1 : List Int) (y2 : Int) (y3 : Int) : Sup (fun k => spec_l1Has.l0 k y0 y1 y2 y3) (spec_l1Has.L0 y0 y1 y2 y3) := Sup.of_mono fun k => spec_l1Has.mono_l k y0 y1 y2 y3
noncomputable def spec_l1Has.F (l0 : List Int) (a1 : Int) : Option (Bool) := lim fun k => spec_l1Has.f k l0 a1
theorem spec_l1Has.F_sup (l0 : List Int) (a1 : Int) : Sup (fun k => spec_l1Has.f k l0 a1) (spec_l1Has.F l0 a1) := Sup.of_mono fun k => spec_l1Has.mono l0 a1 k
theorem spec_l1Has.L0_eq (x1 : Int) (x7 : List Int) (x8 : Int) (x9 : Int) : spec_l1Has.L0 x1 x7 x8 x9 = if x9 < x8 then (if 0 ≤ x9 then (if x9 < (x7.length : Int) then (if (rd x7 x9) = x1 then (some true) else (spec_l1Has.L0 x1 x7 x8 (wrap64 (x9 + 1)))) else (none)) else (none)) else (some false) := by
  refine Sup.unique (spec_l1Has.L0_sup x1 x7 x8 x9) (Sup.shift (fun k => spec_l1Has.mono_l k x1 x7 x8 x9) (Sup.congr (g' := fun k => if x9 < x8 then (if 0 ≤ x9 then (if x9 < (x7.length : Int) then (if (rd x7 x9) = x1 then (some true) else (spec_l1Has.l0 k x1 x7 x8 (wrap64 (x9 + 1)))) else (none)) else (none)) else (some false)) (fun k => by first | rfl | simp only [spec_l1Has.l0]) ?_))
  repeat' first
    | (with_reducible exact spec_l1Has.L0_sup _ _ _ _)
    | (with_reducible refine Sup.ite ?_ ?_)
    | (with_reducible refine Sup.bind ?_ (fun _ => ?_))
    | (with_reducible exact Sup.const _)
    | exact spec_l1Has.L0_sup _ _ _ _
    | exact Sup.const _
theorem spec_l1Has.F_eq (l0 : List Int) (a1 : Int) : spec_l1Has.F l0 a1 = spec_l1Has.L0 a1 l0 (l0.length : Int) 0 := by
  refine Sup.unique (spec_l1Has.F_sup l0 a1) (Sup.congr (g' := fun k => spec_l1Has.l0 k a1 l0 (l0.length : Int) 0) (fun k => by first | rfl | simp only [spec_l1Has.f]) ?_)
  repeat' first
    | (with_reducible exact spec_l1Has.L0_sup _ _ _ _)
    | (with_reducible refine Sup.ite ?_ ?_)
    | (with_reducible refine Sup.bind ?_ (fun _ => ?_))
    | (with_reducible exact Sup.const _)
    | exact spec_l1Has.L0_sup _ _ _ _
    | exact Sup.const _
set_option maxHeartbeats 8000000 in
set_option maxRecDepth 100000 in
theorem spec_l1Has.calls (k : Nat) (A0 : Option Addr) (c0 : Nat) (l0 : List Int) (a1 : Int) (r : Bool) (w : World) (hr0 : Kd.C (Kd.int .i64) w A0 l0.length l0) (hc0 : l0.length ≤ c0) (h : spec_l1Has.f k l0 a1 = some r) :
    Calls Try.prog 68 #[.slice A0 l0.length c0, .int .i64 a1] w fun e w' => e = .returned (.bool r) ∧ Drawn0 w w' := by
  have HR0 := Aside0.mk hr0
  have HC0 := Aside0.mk hc0
  clear hr0 hc0
  have H : (spec_l1Has.l0 k a1 l0 (l0.length : Int) 0) = some r := h
  clear h
  have H' := Aside0.mk H
  clear H
  go_enter Try.func68, Try.ntmps68
  go_wp2
  go_loopg [9] k (fun kq v9 w' => ∃ (x9_1 : Int), v9 = .int .i64 x9_1 ∧ Aside0 (spec_l1Has.l0 kq a1 l0 (l0.length : Int) x9_1 = some r) ∧ Aside0 (kq ≤ k) ∧ Drawn0 w w')
  case atStart => exact ⟨(0), (by first | rfl | (simp; done) | (simp [*]; done)), H', ⟨Nat.le_refl _⟩, by repeat (first | exact Drawn0.refl _ | apply Drawn0.step)⟩
  case round =>
   clear H'
   try clear p2
   obtain ⟨x9_1, rfl, HA, HK1, ⟨m1, rfl⟩⟩ := hrel
   cases gk with
   | zero => exact absurd HA.out (by simp [spec_l1Has.l0])
   | succ k1 =>
    have H := HA.out
    clear HA
    simp only [spec_l1Has.l0] at H
    by_cases c3 : x9_1 < (l0.length : Int)
    ·rw [if_pos c3] at H
     have c3b0 : decide (x9_1 < (l0.length : Int)) = true := decide_eq_true c3
     clear c3
     by_cases c4 : 0 ≤ x9_1
     ·rw [if_pos c4] at H
      have c4b0 : decide (0 ≤ x9_1) = true := decide_eq_true c4
      clear c4
      by_cases c5 : x9_1 < (l0.length : Int)
      ·rw [if_pos c5] at H
       have c5b0 : decide (x9_1 < (l0.length : Int)) = true := decide_eq_true c5
       clear c5
       by_cases c6 : (rd l0 x9_1) = a1
       ·rw [if_pos c6] at H
        have c6b0 : ((rd l0 x9_1) == a1) = true := beq_iff_eq.mpr c6
        have c6b1 : ((rd l0 x9_1) != a1) = false := bne_eq_false_iff_eq.mpr c6
        clear c6
        obtain rfl := Option.some.inj H
        have p641 : 0 ≤ (x9_1 : Int) := of_decide_eq_true (by first | (with_reducible assumption) | assumption)
        have q641 : x9_1 < (l0.length : Int) := of_decide_eq_true (by first | (with_reducible assumption) | assumption)
        obtain ⟨ad641, e641, hx641_0⟩ := Kd.at_int HR0.out x9_1 p641 q641
        cases e641
        replace p641 := eq_true p641
        replace q641 := eq_true q641
        go_wp2
        go_ret
        exact ⟨by first | rfl | (simp; done) | (simp [*]; done), by repeat (first | exact Drawn0.refl _ | apply Drawn0.step)⟩
       ·rw [if_neg c6] at H
        have c6b0 : ((rd l0 x9_1) == a1) = false := beq_eq_false_iff_ne.mpr c6
        have c6b1 : ((rd l0 x9_1) != a1) = true := bne_iff_ne.mpr c6
        have H' := Aside0.mk H
        clear H
        have p641 : 0 ≤ (x9_1 : Int) := of_decide_eq_true (by first | (with_reducible assumption) | assumption)
        have q641 : x9_1 < (l0.length : Int) := of_decide_eq_true (by first | (with_reducible assumption) | assumption)
        obtain ⟨ad641, e641, hx641_0⟩ := Kd.at_int HR0.out x9_1 p641 q641
        cases e641
        replace p641 := eq_true p641
        replace q641 := eq_true q641
        go_wp2
        go_roundg k1
        case measure => have := HK1.out; omega
        case rel => exact ⟨(wrap64 (x9_1 + 1)), (by first | rfl | (simp; done) | (simp [*]; done)), H', ⟨by have := HK1.out; omega⟩, by repeat (first | exact Drawn0.refl _ | apply Drawn0.step)⟩
      ·rw [if_neg c5] at H
       exact absurd H (by simp)
     ·rw [if_neg c4] at H
      exact absurd H (by simp)
    ·rw [if_neg c3] at H
     have c3b0 : decide (x9_1 < (l0.length : Int)) = false := decide_eq_false c3
     clear c3
     obtain rfl := Option.some.inj H
     go_wp2
     go_ret
     exact ⟨by first | rfl | (simp; done) | (simp [*]; done), by repeat (first | exact Drawn0.refl _ | apply Drawn0.step)⟩
/-! ### spec_HasNumber: function 35 -/
def spec_HasNumber.f (k : Nat) (a0_0 : Int) (a0_1 : Int) (a0_2 : Int) (a0_3 : Int) (l0_4 : List Int) (a0_5 : Int) (l0_6 : List Int) (a1 : Int) : Option (Bool × Bool) := (spec_spAsked.f k a0_0 a0_1 a0_2 a0_3 l0_4 a0_5 l0_6 a1).bind fun t643 => (if t643 = true then ((spec_spList.f k a0_0 a0_1 a0_2 a0_3 l0_4 a0_5 l0_6).bind fun t644 => ((spec_l1Has.f k t644 a1).bind fun t647 => (some (t647, true)))) else (some (false, false)))
theorem spec_HasNumber.mono : ∀ a0 a1 a2 a3 a4 a5 a6 a7 k, LeO (spec_HasNumber.f k a0 a1 a2 a3 a4 a5 a6 a7) (spec_HasNumber.f (k + 1) a0 a1 a2 a3 a4 a5 a6 a7) := by
  intro a0 a1 a2 a3 a4 a5 a6 a7 k
  unfold spec_HasNumber.f
  repeat' first
      | (with_reducible exact spec_l1Has.mono _ _ _)
      | (with_reducible exact spec_spAsked.mono _ _ _ _ _ _ _ _ _)
      | (with_reducible exact spec_spList.mono _ _ _ _ _ _ _ _)
      | (with_reducible exact LeO.refl _)
      | (with_reducible exact LeO.none _)
      | (with_reducible refine LeO.ite ?_ ?_)
      | (with_reducible refine LeO.bind ?_ (fun _ => ?_))
      | exact spec_l1Has.mono _ _ _
      | exact spec_spAsked.mono _ _ _ _ _ _ _ _ _
      | exact spec_spList.mono _ _ _ _ _ _ _ _
      | exact LeO.none _
      | refine LeO.ite ?_ ?_
      | refine LeO.bind ?_ (fun _ => ?_)
noncomputable def spec_HasNumber.F (a0_0 : Int) (a0_1 : Int) (a0_2 : Int) (a0_3 : Int) (l0_4 : List Int) (a0_5 : Int) (l0_6 : List Int) (a1 : Int) : Option (Bool × Bool) := lim fun k => spec_HasNumber.f k a0_0 a0_1 a0_2 a0_3 l0_4 a0_5 l0_6 a1
theorem spec_HasNumber.F_sup (a0_0 : Int) (a0_1 : Int) (a0_2 : Int) (a0_3 : Int) (l0_4 : List Int) (a0_5 : Int) (l0_6 : List Int) (a1 : Int) : Sup (fun k => spec_HasNumber.f k a0_0 a0_1 a0_2 a0_3 l0_4 a0_5 l0_6 a1) (spec_HasNumber.F a0_0 a0_1 a0_2 a0_3 l0_4 a0_5 l0_6 a1) := Sup.of_mono fun k => spec_HasNumber.mono a0_0 a0_1 a0_2 a0_3 l0_4 a0_5 l0_6 a1 k
theorem spec_HasNumber.F_eq (a0_0 : Int) (a0_1 : Int) (a0_2 : Int) (a0_3 : Int) (l0_4 : List Int) (a0_5 : Int) (l0_6 : List Int) (a1 : Int) : spec_HasNumber.F a0_0 a0_1 a0_2 a0_3 l0_4 a0_5 l0_6 a1 = (spec_spAsked.F a0_0 a0_1 a0_2 a0_3 l0_4 a0_5 l0_6 a1).bind fun t643 => (if t643 = true then ((spec_spList.F a0_0 a0_1 a0_2 a0_3 l0_4 a0_5 l0_6).bind fun t644 => ((spec_l1Has.F t644 a1).bind fun t647 => (some (t647, true)))) else (some (false, false))) := by
  refine Sup.unique (spec_HasNumber.F_sup a0_0 a0_1 a0_2 a0_3 l0_4 a0_5 l0_6 a1) (Sup.congr (g' := fun k => (spec_spAsked.f k a0_0 a0_1 a0_2 a0_3 l0_4 a0_5 l0_6 a1).bind fun t643 => (if t643 = true then ((spec_spList.f k a0_0 a0_1 a0_2 a0_3 l0_4 a0_5 l0_6).bind fun t644 => ((spec_l1Has.f k t644 a1).bind fun t647 => (some (t647, true)))) else (some (false, false)))) (fun k => by first | rfl | simp only [spec_HasNumber.f]) ?_)
  repeat' first
    | (with_reducible exact spec_spList.F_sup _ _ _ _ _ _ _)
    | (with_reducible exact spec_spAsked.F_sup _ _ _ _ _ _ _ _)
    | (with_reducible exact spec_l1Has.F_sup _ _)
    | (with_reducible refine Sup.ite ?_ ?_)
    | (with_reducible refine Sup.bind ?_ (fun _ => ?_))
    | (with_reducible exact Sup.const _)
    | exact spec_spList.F_sup _ _ _ _ _ _ _
    | exact spec_spAsked.F_sup _ _ _ _ _ _ _ _
    | exact spec_l1Has.F_sup _ _
    | exact Sup.const _
set_option maxHeartbeats 8000000 in
set_option maxRecDepth 100000 in
theorem spec_HasNumber.calls (k : Nat) (a0_0 : Int) (a0_1 : Int) (a0_2 : Int) (a0_3 : Int) (A0_4 : Option Addr) (c0_4 : Nat) (l0_4 : List Int) (a0_5 : Int) (A0_6 : Option Addr) (c0_6 : Nat) (l0_6 : List Int) (a1 : Int) (r1 : Bool) (r2 : Bool) (w : World) (hr0_4 : Kd.C (Kd.int .i64) w A0_4 l0_4.length l0_4) (hc0_4 : l0_4.length ≤ c0_4) (hr0_6 : Kd.C (Kd.int .i64) w A0_6 l0_6.length l0_6) (hc0_6 : l0_6.length ≤ c0_6) (h : spec_HasNumber.f k a0_0 a0_1 a0_2 a0_3 l0_4 a0_5 l0_6 a1 = some (r1, r2)) :
    Calls Try.prog 35 #[.agg #[.int .i64 a0_0, .int .i64 a0_1, .int .i64 a0_2, .int .i64 a0_3, .slice A0_4 l0_4.length c0_4, .int .i64 a0_5, .slice A0_6 l0_6.length c0_6], .int .i64 a1] w fun e w' => e = .returned (.tuple #[.bool r1, .bool r2]) ∧ Below w.heap.size w w' := by
  have hu26 := Try.underlying26
  have HR0_4 := Aside0.mk hr0_4
  have HC0_4 := Aside0.mk hc0_4
  clear hr0_4 hc0_4
  have HR0_6 := Aside0.mk hr0_6
  have HC0_6 := Aside0.mk hc0_6
  clear hr0_6 hc0_6
  have HB := Aside0.mk (Below.refl w.heap.size w)
  have H : ((spec_spAsked.f k a0_0 a0_1 a0_2 a0_3 l0_4 a0_5 l0_6 a1).bind fun t643 => (if t643 = true then ((spec_spList.f k a0_0 a0_1 a0_2 a0_3 l0_4 a0_5 l0_6).bind fun t644 => ((spec_l1Has.f k t644 a1).bind fun t647 => (some (t647, true)))) else (some (false, false)))) = some (r1, r2) := h
  clear h
  replace H := Option.bind_eq_some_iff.mp H
  obtain ⟨t643, A30, H⟩ := H
  replace H : (if t643 = true then ((spec_spList.f k a0_0 a0_1 a0_2 a0_3 l0_4 a0_5 l0_6).bind fun t644 => ((spec_l1Has.f k t644 a1).bind fun t647 => (some (t647, true)))) else (some (false, false))) = some (r1, r2) := H
  have A3 := Aside0.mk A30
  clear A30
  by_cases c4 : t643 = true
  ·subst c4
   have H1 : ((spec_spList.f k a0_0 a0_1 a0_2 a0_3 l0_4 a0_5 l0_6).bind fun t644 => ((spec_l1Has.f k t644 a1).bind fun t647 => (some (t647, true)))) = some (r1, r2) := by rw [if_pos rfl] at H; exact H
   clear H
   have H := H1
   clear H1
   replace H := Option.bind_eq_some_iff.mp H
   obtain ⟨t644, A50, H⟩ := H
   replace H : ((spec_l1Has.f k t644 a1).bind fun t647 => (some (t647, true))) = some (r1, r2) := H
   have A5 := Aside0.mk A50
   clear A50
   replace H := Option.bind_eq_some_iff.mp H
   obtain ⟨t647, A60, H⟩ := H
   replace H : (some (t647, true)) = some (r1, r2) := H
   have A6 := Aside0.mk A60
   clear A60
   simp only [Option.some.injEq, Prod.mk.injEq] at H
   obtain ⟨rfl, rfl⟩ := H
   go_enter Try.func35, Try.ntmps35
   go_wp2_with (first | ((with_reducible refine gate_dst (N := 2) rfl ?_); refine box_event ?hg (N := 2) ?hd (cs := #[.int .i64 a0_0, .int .i64 a0_1, .int .i64 a0_2, .int .i64 a0_3, .slice A0_4 l0_4.length c0_4, .int .i64 a0_5, .slice A0_6 l0_6.length c0_6]) (t := 26) ?hr ?_; (case hd => rfl); (case hg => rfl); (case hr => first | (go_simp; done) | (go_simp; rfl)); intro gb642 hg w7 hbox hb; have n0_ := Aside0.mk (below_step (by repeat (first | (with_reducible first | exact HB.out | apply below_alloc | apply pw_below_drewN | apply below_drew1) | exact HB.out)) hb); have n1_ := Aside0.mk (hbox); have n2_ := Aside0.mk ((by rw [hg]; exact (below_size (by repeat (first | (with_reducible first | exact HB.out | apply below_alloc | apply pw_below_drewN | apply below_drew1) | exact HB.out))) : w.heap.size ≤ gb642)); have n3_ := Aside0.mk ((by rw [hg]; exact (below_size (by repeat (first | (with_reducible first | exact HB.out | apply below_alloc | apply pw_below_drewN | apply below_drew1) | exact HB.out))) : w.heap.size ≤ gb642)); clear HB; have HB := n0_; have BK642 := n1_; have GW642 := n2_; have GE642 := n3_; clear n0_ n1_ n2_ n3_; clear hb hbox hg; have hcz8_0 : w7.cell? ⟨gb642, 0, none⟩ = some (.int .i64 a0_0) := (blk_cell BK642.out 0).trans rfl; have hcz8_1 : w7.cell? ⟨gb642, 1, none⟩ = some (.int .i64 a0_1) := (blk_cell BK642.out 1).trans rfl; have hcz8_2 : w7.cell? ⟨gb642, 2, none⟩ = some (.int .i64 a0_2) := (blk_cell BK642.out 2).trans rfl; have hcz8_3 : w7.cell? ⟨gb642, 3, none⟩ = some (.int .i64 a0_3) := (blk_cell BK642.out 3).trans rfl; have hcz8_4 : w7.cell? ⟨gb642, 4, none⟩ = some (.slice A0_4 l0_4.length c0_4) := (blk_cell BK642.out 4).trans rfl; have hcz8_5 : w7.cell? ⟨gb642, 5, none⟩ = some (.int .i64 a0_5) := (blk_cell BK642.out 5).trans rfl; have hcz8_6 : w7.cell? ⟨gb642, 6, none⟩ = some (.slice A0_6 l0_6.length c0_6) := (blk_cell BK642.out 6).trans rfl; have hfz8_0 := blk_frozen BK642.out 0; have hfz8_1 := blk_frozen BK642.out 1; have hfz8_2 := blk_frozen BK642.out 2; have hfz8_3 := blk_frozen BK642.out 3; have hfz8_4 := blk_frozen BK642.out 4; have hfz8_5 := blk_frozen BK642.out 5; have hfz8_6 := blk_frozen BK642.out 6) | ((with_reducible refine gate_callee (f := 67) rfl ?_); refine goesL_ (some 8) rfl rfl Try.func67 (by kernel_rfl) rfl #[.agg #[.int .i64 a0_0, .int .i64 a0_1, .int .i64 a0_2, .int .i64 a0_3, .slice A0_4 l0_4.length c0_4, .int .i64 a0_5, .slice A0_6 l0_6.length c0_6], .int .i64 a1] rfl (by (try simp only [List.map_toArray, List.map_cons, List.map_nil]); first | done | rfl | (simp only [List.length_drop, List.length_take]; rfl)) ?_; (with_reducible refine (spec_spAsked.calls k a0_0 a0_1 a0_2 a0_3 _ _ l0_4 a0_5 _ _ l0_6 a1 true _ ?side1 ?side2 ?side3 ?side4 A3.out).mono ?_); (case side1 => repeat (first | exact (Kd.C_below HR0_4.out HB.out) | (with_reducible refine Kd.C_alloc ?_ _) | (with_reducible refine Kd.C_drewN ?_ _) | (with_reducible refine Kd.C_drew ?_))); (case side2 => exact HC0_4.out); (case side3 => repeat (first | exact (Kd.C_below HR0_6.out HB.out) | (with_reducible refine Kd.C_alloc ?_ _) | (with_reducible refine Kd.C_drewN ?_ _) | (with_reducible refine Kd.C_drew ?_))); (case side4 => exact HC0_6.out); rintro e w9 ⟨rfl, hb⟩; refine ⟨_, rfl, ?_⟩; have n0_ := Aside0.mk (blk_below (g := gb642) (o := .cells #[.int .i64 a0_0, .int .i64 a0_1, .int .i64 a0_2, .int .i64 a0_3, .slice A0_4 l0_4.length c0_4, .int .i64 a0_5, .slice A0_6 l0_6.length c0_6] 26 (0, 0)) (by (with_reducible repeat (first | refine blk_drewN ?_ _ | refine blk_drew ?_ | refine blk_alloc ?_ _)); exact BK642.out) hb); have n1_ := Aside0.mk (below_step (by repeat (first | (with_reducible first | exact HB.out | apply below_alloc | apply pw_below_drewN | apply below_drew1 | refine below_set ?_ GE642.out) | exact HB.out)) hb); clear BK642; clear HB; have BK642 := n0_; have HB := n1_; clear n0_ n1_; (try clear hb); (try clear hb2); (try clear hk); (try clear hi); have hcz10_0 : w9.cell? ⟨gb642, 0, none⟩ = some (.int .i64 a0_0) := (blk_cell BK642.out 0).trans rfl; have hcz10_1 : w9.cell? ⟨gb642, 1, none⟩ = some (.int .i64 a0_1) := (blk_cell BK642.out 1).trans rfl; have hcz10_2 : w9.cell? ⟨gb642, 2, none⟩ = some (.int .i64 a0_2) := (blk_cell BK642.out 2).trans rfl; have hcz10_3 : w9.cell? ⟨gb642, 3, none⟩ = some (.int .i64 a0_3) := (blk_cell BK642.out 3).trans rfl; have hcz10_4 : w9.cell? ⟨gb642, 4, none⟩ = some (.slice A0_4 l0_4.length c0_4) := (blk_cell BK642.out 4).trans rfl; have hcz10_5 : w9.cell? ⟨gb642, 5, none⟩ = some (.int .i64 a0_5) := (blk_cell BK642.out 5).trans rfl; have hcz10_6 : w9.cell? ⟨gb642, 6, none⟩ = some (.slice A0_6 l0_6.length c0_6) := (blk_cell BK642.out 6).trans rfl; have hfz10_0 := blk_frozen BK642.out 0; have hfz10_1 := blk_frozen BK642.out 1; have hfz10_2 := blk_frozen BK642.out 2; have hfz10_3 := blk_frozen BK642.out 3; have hfz10_4 := blk_frozen BK642.out 4; have hfz10_5 := blk_frozen BK642.out 5; have hfz10_6 := blk_frozen BK642.out 6) | ((with_reducible refine gate_callee (f := 65) rfl ?_); refine goesL_ (some 11) rfl rfl Try.func65 (by kernel_rfl) rfl #[.agg #[.int .i64 a0_0, .int .i64 a0_1, .int .i64 a0_2, .int .i64 a0_3, .slice A0_4 l0_4.length c0_4, .int .i64 a0_5, .slice A0_6 l0_6.length c0_6]] rfl (by (try simp only [List.map_toArray, List.map_cons, List.map_nil]); first | done | rfl | (simp only [List.length_drop, List.length_take]; rfl)) ?_; (with_reducible refine (spec_spList.calls k a0_0 a0_1 a0_2 a0_3 _ _ l0_4 a0_5 _ _ l0_6 t644 _ ?side1 ?side2 ?side3 ?side4 A5.out).mono ?_); (case side1 => repeat (first | exact (Kd.C_below HR0_4.out HB.out) | (with_reducible refine Kd.C_alloc ?_ _) | (with_reducible refine Kd.C_drewN ?_ _) | (with_reducible refine Kd.C_drew ?_))); (case side2 => exact HC0_4.out); (case side3 => repeat (first | exact (Kd.C_below HR0_6.out HB.out) | (with_reducible refine Kd.C_alloc ?_ _) | (with_reducible refine Kd.C_drewN ?_ _) | (with_reducible refine Kd.C_drew ?_))); (case side4 => exact HC0_6.out); rintro e w11 ⟨v645, rfl, ho0, hb⟩; refine ⟨_, rfl, ?_⟩; have n0_ := Aside0.mk (Kd.R_lower ho0 (below_size (by repeat (first | (with_reducible first | exact HB.out | apply below_alloc | apply pw_below_drewN | apply below_drew1 | refine below_set ?_ GE642.out) | exact HB.out)))); have n1_ := Aside0.mk (blk_below (g := gb642) (o := .cells #[.int .i64 a0_0, .int .i64 a0_1, .int .i64 a0_2, .int .i64 a0_3, .slice A0_4 l0_4.length c0_4, .int .i64 a0_5, .slice A0_6 l0_6.length c0_6] 26 (0, 0)) (by (with_reducible repeat (first | refine blk_drewN ?_ _ | refine blk_drew ?_ | refine blk_alloc ?_ _)); exact BK642.out) hb); have n2_ := Aside0.mk (below_step (by repeat (first | (with_reducible first | exact HB.out | apply below_alloc | apply pw_below_drewN | apply below_drew1 | refine below_set ?_ GE642.out) | exact HB.out)) hb); clear BK642; clear HB; have HO646 := n0_; have BK642 := n1_; have HB := n2_; clear n0_ n1_ n2_; (try clear hb); (try clear hb2); (try clear hk); (try clear hi); (try clear ho0); obtain ⟨Ao12, co12, eo12⟩ := Kd.R_slice HO646.out; subst eo12) | ((with_reducible refine gate_callee (f := 68) rfl ?_); refine goesL_ (some 13) rfl rfl Try.func68 (by kernel_rfl) rfl #[.slice Ao12 t644.length co12, .int .i64 a1] rfl (by (try simp only [List.map_toArray, List.map_cons, List.map_nil]); first | done | rfl | (simp only [List.length_drop, List.length_take]; rfl)) ?_; (with_reducible refine (spec_l1Has.calls k _ _ t644 a1 t647 _ ?side1 ?side2 A6.out).mono ?_); (case side1 => repeat (first | exact (Kd.R_reads' HO646.out).2.2 | (with_reducible refine Kd.C_alloc ?_ _) | (with_reducible refine Kd.C_drewN ?_ _) | (with_reducible refine Kd.C_drew ?_))); (case side2 => exact (Kd.R_reads' HO646.out).2.1); rintro e w' ⟨rfl, ⟨nd, rfl⟩⟩; refine ⟨_, rfl, ?_⟩))
   go_ret2
   exact ⟨by first | rfl | (simp [errW_none, errW_some] <;> rfl) | (simp [*, errW_none, errW_some] <;> rfl), by repeat (first | (with_reducible first | exact HB.out | apply below_alloc | apply pw_below_drewN | apply below_drew1 | refine below_set ?_ GE642.out) | exact HB.out)⟩
  ·replace c4 := Bool.eq_false_iff.mpr c4
   subst c4
   have H1 : (some (false, false)) = some (r1, r2) := by rw [if_neg (show ¬ (false = true) by decide)] at H; exact H
   clear H
   have H := H1
   clear H1
   simp only [Option.some.injEq, Prod.mk.injEq] at H
   obtain ⟨rfl, rfl⟩ := H
   go_enter Try.func35, Try.ntmps35
   go_wp2_with (first | ((with_reducible refine gate_dst (N := 2) rfl ?_); refine box_event ?hg (N := 2) ?hd (cs := #[.int .i64 a0_0, .int .i64 a0_1, .int .i64 a0_2, .int .i64 a0_3, .slice A0_4 l0_4.length c0_4, .int .i64 a0_5, .slice A0_6 l0_6.length c0_6]) (t := 26) ?hr ?_; (case hd => rfl); (case hg => rfl); (case hr => first | (go_simp; done) | (go_simp; rfl)); intro gb642 hg w13 hbox hb; have n0_ := Aside0.mk (below_step (by repeat (first | (with_reducible first | exact HB.out | apply below_alloc | apply pw_below_drewN | apply below_drew1) | exact HB.out)) hb); have n1_ := Aside0.mk (hbox); have n2_ := Aside0.mk ((by rw [hg]; exact (below_size (by repeat (first | (with_reducible first | exact HB.out | apply below_alloc | apply pw_below_drewN | apply below_drew1) | exact HB.out))) : w.heap.size ≤ gb642)); have n3_ := Aside0.mk ((by rw [hg]; exact (below_size (by repeat (first | (with_reducible first | exact HB.out | apply below_alloc | apply pw_below_drewN | apply below_drew1) | exact HB.out))) : w.heap.size ≤ gb642)); clear HB; have HB := n0_; have BK642 := n1_; have GW642 := n2_; have GE642 := n3_; clear n0_ n1_ n2_ n3_; clear hb hbox hg; have hcz14_0 : w13.cell? ⟨gb642, 0, none⟩ = some (.int .i64 a0_0) := (blk_cell BK642.out 0).trans rfl; have hcz14_1 : w13.cell? ⟨gb642, 1, none⟩ = some (.int .i64 a0_1) := (blk_cell BK642.out 1).trans rfl; have hcz14_2 : w13.cell? ⟨gb642, 2, none⟩ = some (.int .i64 a0_2) := (blk_cell BK642.out 2).trans rfl; have hcz14_3 : w13.cell? ⟨gb642, 3, none⟩ = some (.int .i64 a0_3) := (blk_cell BK642.out 3).trans rfl; have hcz14_4 : w13.cell? ⟨gb642, 4, none⟩ = some (.slice A0_4 l0_4.length c0_4) := (blk_cell BK642.out 4).trans rfl; have hcz14_5 : w13.cell? ⟨gb642, 5, none⟩ = some (.int .i64 a0_5) := (blk_cell BK642.out 5).trans rfl; have hcz14_6 : w13.cell? ⟨gb642, 6, none⟩ = some (.slice A0_6 l0_6.length c0_6) := (blk_cell BK642.out 6).trans rfl; have hfz14_0 := blk_frozen BK642.out 0; have hfz14_1 := blk_frozen BK642.out 1; have hfz14_2 := blk_frozen BK642.out 2; have hfz14_3 := blk_frozen BK642.out 3; have hfz14_4 := blk_frozen BK642.out 4; have hfz14_5 := blk_frozen BK642.out 5; have hfz14_6 := blk_frozen BK642.out 6) | ((with_reducible refine gate_callee (f := 67) rfl ?_); refine goesL_ (some 8) rfl rfl Try.func67 (by kernel_rfl) rfl #[.agg #[.int .i64 a0_0, .int .i64 a0_1, .int .i64 a0_2, .int .i64 a0_3, .slice A0_4 l0_4.length c0_4, .int .i64 a0_5, .slice A0_6 l0_6.length c0_6], .int .i64 a1] rfl (by (try simp only [List.map_toArray, List.map_cons, List.map_nil]); first | done | rfl | (simp only [List.length_drop, List.length_take]; rfl)) ?_; (with_reducible refine (spec_spAsked.calls k a0_0 a0_1 a0_2 a0_3 _ _ l0_4 a0_5 _ _ l0_6 a1 false _ ?side1 ?side2 ?side3 ?side4 A3.out).mono ?_); (case side1 => repeat (first | exact (Kd.C_below HR0_4.out HB.out) | (with_reducible refine Kd.C_alloc ?_ _) | (with_reducible refine Kd.C_drewN ?_ _) | (with_reducible refine Kd.C_drew ?_))); (case side2 => exact HC0_4.out); (case side3 => repeat (first | exact (Kd.C_below HR0_6.out HB.out) | (with_reducible refine Kd.C_alloc ?_ _) | (with_reducible refine Kd.C_drewN ?_ _) | (with_reducible refine Kd.C_drew ?_))); (case side4 => exact HC0_6.out); rintro e w15 ⟨rfl, hb⟩; refine ⟨_, rfl, ?_⟩; have n0_ := Aside0.mk (blk_below (g := gb642) (o := .cells #[.int .i64 a0_0, .int .i64 a0_1, .int .i64 a0_2, .int .i64 a0_3, .slice A0_4 l0_4.length c0_4, .int .i64 a0_5, .slice A0_6 l0_6.length c0_6] 26 (0, 0)) (by (with_reducible repeat (first | refine blk_drewN ?_ _ | refine blk_drew ?_ | refine blk_alloc ?_ _)); exact BK642.out) hb); have n1_ := Aside0.mk (below_step (by repeat (first | (with_reducible first | exact HB.out | apply below_alloc | apply pw_below_drewN | apply below_drew1 | refine below_set ?_ GE642.out) | exact HB.out)) hb); clear BK642; clear HB; have BK642 := n0_; have HB := n1_; clear n0_ n1_; (try clear hb); (try clear hb2); (try clear hk); (try clear hi)))
   go_ret2
   exact ⟨by first | rfl | (simp [errW_none, errW_some] <;> rfl) | (simp [*, errW_none, errW_some] <;> rfl), by repeat (first | (with_reducible first | exact HB.out | apply below_alloc | apply pw_below_drewN | apply below_drew1 | refine below_set ?_ GE642.out) | exact HB.out)⟩
/-! ### slices_Index_int_int: function 103 -/
def slices_Index_int_int.l0 : Nat → List Int → Int → Int → Int → Option (Int)
  | 0, _, _, _, _ => none
  | k + 1, x0, x1, x7, x8 => if x8 < x7 then (if 0 ≤ x8 then (if x8 < (x0.length : Int) then (if x1 = (rd x0 x8) then (some x8) else (slices_Index_int_int.l0 k x0 x1 x7 (wrap64 (x8 + 1)))) else (none)) else (none)) else (some (-1))
def slices_Index_int_int.f (k : Nat) (l0 : List Int) (a1 : Int) : Option (Int) := slices_Index_int_int.l0 k l0 a1 (l0.length : Int) 0
theorem slices_Index_int_int.mono_l : ∀ k, (∀ y0 y1 y2 y3, LeO (slices_Index_int_int.l0 k y0 y1 y2 y3) (slices_Index_int_int.l0 (k + 1) y0 y1 y2 y3))
  | 0 => fun _ _ _ _ r h => by simp [slices_Index_int_int.l0] at h
  | k + 1 => by
    have ih0 := slices_Index_int_int.mono_l k
    · intro y0 y1 y2 y3
      unfold slices_Index_int_int.l0
      repeat' first
      | (with_reducible exact ih0 _ _ _ _)
      | (with_reducible exact LeO.refl _)
      | (with_reducible exact LeO.none _)
      | (with_reducible refine LeO.ite ?_ ?_)
      | (with_reducible refine LeO.bind ?_ (fun _ => ?_))
      | exact ih0 _ _ _ _
      | exact LeO.none _
      | refine LeO.ite ?_ ?_
      | refine LeO.bind ?_ (fun _ => ?_)
theorem slices_Index_int_int.mono : ∀ a0 a1 k, LeO (slices_Index_int_int.f k a0 a1) (slices_Index_int_int.f (k + 1) a0 a1) := by
  intro a0 a1 k
  have ih0 := slices_Index_int_int.mono_l k
  unfold slices_Index_int_int.f
  repeat' first
      | (with_reducible exact ih0 _ _ _ _)
      | (with_reducible exact LeO.refl _)
      | (with_reducible exact LeO.none _)
      | (with_reducible refine LeO.ite ?_ ?_)
      | (with_reducible refine LeO.bind ?_ (fun _ => ?_))
      | exact ih0 _ _ _ _
      | exact LeO.none _
      | refine LeO.ite ?_ ?_
      | refine LeO.bind ?_ (fun _ => ?_)
noncomputable def slices_Index_int_int.L0 (y0 : List Int) (y1 : Int) (y2 : Int) (y3 : Int) : Option (Int) := lim fun k => slices_Index_int_int.l0 k y0 y1 y2 y3
theorem slices_Index_int_int.L0_sup (y0 : List Int) (y1 : Int) (y2 : Int) (y3 : Int) : Sup (fun k => slices_Index_int_int.l0 k y0 y1 y2 y3) (slices_Index_int_int.L0 y0 y1 y2 y3) := Sup.of_mono fun k => slices_Index_int_int.mono_l k y0 y1 y2 y3
noncomputable def slices_Index_int_int.F (l0 : List Int) (a1 : Int) : Option (Int) := lim fun k => slices_Index_int_int.f k l0 a1
theorem slices_Index_int_int.F_sup (l0 : List Int) (a1 : Int) : Sup (fun k => slices_Index_int_int.f k l0 a1) (slices_Index_int_int.F l0 a1) := Sup.of_mono fun k => slices_Index_int_int.mono l0 a1 k
theorem slices_Index_int_int.L0_eq (x0 : List Int) (x1 : Int) (x7 : Int) (x8 : Int) : slices_Index_int_int.L0 x0 x1 x7 x8 = if x8 < x7 then (if 0 ≤ x8 then (if x8 < (x0.length : Int) then (if x1 = (rd x0 x8) then (some x8) else (slices_Index_int_int.L0 x0 x1 x7 (wrap64 (x8 + 1)))) else (none)) else (none)) else (some (-1)) := by
  refine Sup.unique (slices_Index_int_int.L0_sup x0 x1 x7 x8) (Sup.shift (fun k => slices_Index_int_int.mono_l k x0 x1 x7 x8) (Sup.congr (g' := fun k => if x8 < x7 then (if 0 ≤ x8 then (if x8 < (x0.length : Int) then (if x1 = (rd x0 x8) then (some x8) else (slices_Index_int_int.l0 k x0 x1 x7 (wrap64 (x8 + 1)))) else (none)) else (none)) else (some (-1))) (fun k => by first | rfl | simp only [slices_Index_int_int.l0]) ?_))
  repeat' first
    | (with_reducible exact slices_Index_int_int.L0_sup _ _ _ _)
    | (with_reducible refine Sup.ite ?_ ?_)
    | (with_reducible refine Sup.bind ?_ (fun _ => ?_))
    | (with_reducible exact Sup.const _)
    | exact slices_Index_int_int.L0_sup _ _ _ _
    | exact Sup.const _
theorem slices_Index_int_int.F_eq (l0 : List Int) (a1 : Int) : slices_Index_int_int.F l0 a1 = slices_Index_int_int.L0 l0 a1 (l0.length : Int) 0 := by
  refine Sup.unique (slices_Index_int_int.F_sup l0 a1) (Sup.congr (g' := fun k => slices_Index_int_int.l0 k l0 a1 (l0.length : Int) 0) (fun k => by first | rfl | simp only [slices_Index_int_int.f]) ?_)
  repeat' first
    | (with_reducible exact slices_Index_int_int.L0_sup _ _ _ _)
    | (with_reducible refine Sup.ite ?_ ?_)
    | (with_reducible refine Sup.bind ?_ (fun _ => ?_))
    | (with_reducible exact Sup.const _)
    | exact slices_Index_int_int.L0_sup _ _ _ _
    | exact Sup.const _
set_option maxHeartbeats 8000000 in
set_option maxRecDepth 100000 in
theorem slices_Index_int_int.calls (k : Nat) (A0 : Option Addr) (c0 : Nat) (l0 : List Int) (a1 : Int) (r : Int) (w : World) (hr0 : Kd.C (Kd.int .i64) w A0 l0.length l0) (hc0 : l0.length ≤ c0) (h : slices_Index_int_int.f k l0 a1 = some r) :
    Calls Try.prog 103 #[.slice A0 l0.length c0, .int .i64 a1] w fun e w' => e = .returned (.int .i64 r) ∧ Drawn0 w w' := by
  have HR0 := Aside0.mk hr0
  have HC0 := Aside0.mk hc0
  clear hr0 hc0
  have H : (slices_Index_int_int.l0 k l0 a1 (l0.length : Int) 0) = some r := h
  clear h
  have H' := Aside0.mk H
  clear H
  go_enter Try.func103, Try.ntmps103
  go_wp2
  go_loopg [8] k (fun kq v8 w' => ∃ (x8_1 : Int), v8 = .int .i64 x8_1 ∧ Aside0 (slices_Index_int_int.l0 kq l0 a1 (l0.length : Int) x8_1 = some r) ∧ Aside0 (kq ≤ k) ∧ Drawn0 w w')
  case atStart => exact ⟨(0), (by first | rfl | (simp; done) | (simp [*]; done)), H', ⟨Nat.le_refl _⟩, by repeat (first | exact Drawn0.refl _ | apply Drawn0.step)⟩
  case round =>
   clear H'
   try clear c1
   try clear p2
   obtain ⟨x8_1, rfl, HA, HK1, ⟨m1, rfl⟩⟩ := hrel
   cases gk with
   | zero => exact absurd HA.out (by simp [slices_Index_int_int.l0])
   | succ k1 =>
    have H := HA.out
    clear HA
    simp only [slices_Index_int_int.l0] at H
    by_cases c3 : x8_1 < (l0.length : Int)
    ·rw [if_pos c3] at H
     have c3b0 : decide (x8_1 < (l0.length : Int)) = true := decide_eq_true c3
     clear c3
     by_cases c4 : 0 ≤ x8_1
     ·rw [if_pos c4] at H
      have c4b0 : decide (0 ≤ x8_1) = true := decide_eq_true c4
      clear c4
      by_cases c5 : x8_1 < (l0.length : Int)
      ·rw [if_pos c5] at H
       have c5b0 : decide (x8_1 < (l0.length : Int)) = true := decide_eq_true c5
       clear c5
       by_cases c6 : a1 = (rd l0 x8_1)
       ·rw [if_pos c6] at H
        have c6b0 : (a1 == (rd l0 x8_1)) = true := beq_iff_eq.mpr c6
        have c6b1 : (a1 != (rd l0 x8_1)) = false := bne_eq_false_iff_eq.mpr c6
        clear c6
        obtain rfl := Option.some.inj H
        have p648 : 0 ≤ (x8_1 : Int) := of_decide_eq_true (by first | (with_reducible assumption) | assumption)
        have q648 : x8_1 < (l0.length : Int) := of_decide_eq_true (by first | (with_reducible assumption) | assumption)
        obtain ⟨ad648, e648, hx648_0⟩ := Kd.at_int HR0.out x8_1 p648 q648
        cases e648
        replace p648 := eq_true p648
        replace q648 := eq_true q648
        go_wp2
        go_ret
        exact ⟨by first | rfl | (simp; done) | (simp [*]; done), by repeat (first | exact Drawn0.refl _ | apply Drawn0.step)⟩
       ·rw [if_neg c6] at H
        have c6b0 : (a1 == (rd l0 x8_1)) = false := beq_eq_false_iff_ne.mpr c6
        have c6b1 : (a1 != (rd l0 x8_1)) = true := bne_iff_ne.mpr c6
        have H' := Aside0.mk H
        clear H
        have p648 : 0 ≤ (x8_1 : Int) := of_decide_eq_true (by first | (with_reducible assumption) | assumption)
        have q648 : x8_1 < (l0.length : Int) := of_decide_eq_true (by first | (with_reducible assumption) | assumption)
        obtain ⟨ad648, e648, hx648_0⟩ := Kd.at_int HR0.out x8_1 p648 q648
        cases e648
        replace p648 := eq_true p648
        replace q648 := eq_true q648
        go_wp2
        go_roundg k1
        case measure => have := HK1.out; omega
        case rel => exact ⟨(wrap64 (x8_1 + 1)), (by first | rfl | (simp; done) | (simp [*]; done)), H', ⟨by have := HK1.out; omega⟩, by repeat (first | exact Drawn0.refl _ | apply Drawn0.step)⟩
      ·rw [if_neg c5] at H
       exact absurd H (by simp)
     ·rw [if_neg c4] at H
      exact absurd H (by simp)
    ·rw [if_neg c3] at H
     have c3b0 : decide (x8_1 < (l0.length : Int)) = false := decide_eq_false c3
     clear c3
     obtain rfl := Option.some.inj H
     go_wp2
     go_ret
     exact ⟨by first | rfl | (simp; done) | (simp [*]; done), by repeat (first | exact Drawn0.refl _ | apply Drawn0.step)⟩
/-! ### slices_Contains_int_int: function 69 -/
def slices_Contains_int_int.f (k : Nat) (l0 : List Int) (a1 : Int) : Option (Bool) := (slices_Index_int_int.f k l0 a1).bind fun t649 => (some (decide (t649 ≥ 0)))
theorem slices_Contains_int_int.mono : ∀ a0 a1 k, LeO (slices_Contains_int_int.f k a0 a1) (slices_Contains_int_int.f (k + 1) a0 a1) := by
  intro a0 a1 k
  unfold slices_Contains_int_int.f
  repeat' first
      | (with_reducible exact slices_Index_int_int.mono _ _ _)
      | (with_reducible exact LeO.refl _)
      | (with_reducible exact LeO.none _)
      | (with_reducible refine LeO.ite ?_ ?_)
      | (with_reducible refine LeO.bind ?_ (fun _ => ?_))
      | exact slices_Index_int_int.mono _ _ _
      | exact LeO.none _
      | refine LeO.ite ?_ ?_
      | refine LeO.bind ?_ (fun _ => ?_)
noncomputable def slices_Contains_int_int.F (l0 : List Int) (a1 : Int) : Option (Bool) := lim fun k => slices_Contains_int_int.f k l0 a1
theorem slices_Contains_int_int.F_sup (l0 : List Int) (a1 : Int) : Sup (fun k => slices_Contains_int_int.f k l0 a1) (slices_Contains_int_int.F l0 a1) := Sup.of_mono fun k => slices_Contains_int_int.mono l0 a1 k
theorem slices_Contains_int_int.F_eq (l0 : List Int) (a1 : Int) : slices_Contains_int_int.F l0 a1 = (slices_Index_int_int.F l0 a1).bind fun t649 => (some (decide (t649 ≥ 0))) := by
  refine Sup.unique (slices_Contains_int_int.F_sup l0 a1) (Sup.congr (g' := fun k => (slices_Index_int_int.f k l0 a1).bind fun t649 => (some (decide (t649 ≥ 0)))) (fun k => by first | rfl | simp only [slices_Contains_int_int.f]) ?_)
  repeat' first
    | (with_reducible exact slices_Index_int_int.F_sup _ _)
    | (with_reducible refine Sup.ite ?_ ?_)
    | (with_reducible refine Sup.bind ?_ (fun _ => ?_))
    | (with_reducible exact Sup.const _)
    | exact slices_Index_int_int.F_sup _ _
    | exact Sup.const _
set_option maxHeartbeats 8000000 in
set_option maxRecDepth 100000 in
theorem slices_Contains_int_int.calls (k : Nat) (A0 : Option Addr) (c0 : Nat) (l0 : List Int) (a1 : Int) (r : Bool) (w : World) (hr0 : Kd.C (Kd.int .i64) w A0 l0.length l0) (hc0 : l0.length ≤ c0) (h : slices_Contains_int_int.f k l0 a1 = some r) :
    Calls Try.prog 69 #[.slice A0 l0.length c0, .int .i64 a1] w fun e w' => e = .returned (.bool r) ∧ Drawn0 w w' := by
  have HR0 := Aside0.mk hr0
  have HC0 := Aside0.mk hc0
  clear hr0 hc0
  have H : ((slices_Index_int_int.f k l0 a1).bind fun t649 => (some (decide (t649 ≥ 0)))) = some r := h
  clear h
  replace H := Option.bind_eq_some_iff.mp H
  obtain ⟨t649, A30, H⟩ := H
  replace H : (some (decide (t649 ≥ 0))) = some r := H
  have A3 := Aside0.mk A30
  clear A30
  obtain rfl := Option.some.inj H
  go_enter Try.func69, Try.ntmps69
  go_wp2_with (first | ((with_reducible refine gate_callee (f := 103) rfl ?_); refine goesL_ (some 7) rfl rfl Try.func103 (by kernel_rfl) rfl #[.slice A0 l0.length c0, .int .i64 a1] rfl (by (try simp only [List.map_toArray, List.map_cons, List.map_nil]); first | done | rfl | (simp only [List.length_drop, List.length_take]; rfl)) ?_; (with_reducible refine (slices_Index_int_int.calls k _ _ l0 a1 t649 _ ?side1 ?side2 A3.out).mono ?_); (case side1 => repeat (first | exact HR0.out | (with_reducible refine Kd.C_alloc ?_ _) | (with_reducible refine Kd.C_drewN ?_ _) | (with_reducible refine Kd.C_drew ?_))); (case side2 => exact HC0.out); rintro e w' ⟨rfl, ⟨nd, rfl⟩⟩; refine ⟨_, rfl, ?_⟩))
  go_ret
  exact ⟨by first | rfl | (simp; done) | (simp [*]; done), by repeat (first | exact Drawn0.refl _ | apply Drawn0.step)⟩
/-! ### impl_HasNumber: function 36 -/
def impl_HasNumber.f (k : Nat) (a0_0 : Int) (a0_1 : Int) (a0_2 : Int) (a0_3 : Int) (l0_4 : List Int) (a0_5 : Int) (l0_6 : List Int) (a1 : Int) : Option (Bool × Bool) := (impl_Sparse_numbers.f k a0_0 a0_1 a0_2 a0_3 l0_4 a0_5 l0_6).bind fun bt651 => (if bt651.2 = true then ((impl_in.f a1 0 (wrap64 (a0_1 - 1))).bind fun t655 => (if t655 = true then ((slices_Contains_int_int.f k bt651.1 a1).bind fun t656 => (some (t656, true))) else (some (false, false)))) else (some (false, false)))
theorem impl_HasNumber.mono : ∀ a0 a1 a2 a3 a4 a5 a6 a7 k, LeO (impl_HasNumber.f k a0 a1 a2 a3 a4 a5 a6 a7) (impl_HasNumber.f (k + 1) a0 a1 a2 a3 a4 a5 a6 a7) := by
  intro a0 a1 a2 a3 a4 a5 a6 a7 k
  unfold impl_HasNumber.f
  repeat' first
      | (with_reducible exact impl_Sparse_numbers.mono _ _ _ _ _ _ _ _)
      | (with_reducible exact slices_Contains_int_int.mono _ _ _)
      | (with_reducible exact LeO.refl _)
      | (with_reducible exact LeO.none _)
      | (with_reducible refine LeO.ite ?_ ?_)
      | (with_reducible refine LeO.bind ?_ (fun _ => ?_))
      | exact impl_Sparse_numbers.mono _ _ _ _ _ _ _ _
      | exact slices_Contains_int_int.mono _ _ _
      | exact LeO.none _
      | refine LeO.ite ?_ ?_
      | refine LeO.bind ?_ (fun _ => ?_)
noncomputable def impl_HasNumber.F (a0_0 : Int) (a0_1 : Int) (a0_2 : Int) (a0_3 : Int) (l0_4 : List Int) (a0_5 : Int) (l0_6 : List Int) (a1 : Int) : Option (Bool × Bool) := lim fun k => impl_HasNumber.f k a0_0 a0_1 a0_2 a0_3 l0_4 a0_5 l0_6 a1
theorem impl_HasNumber.F_sup (a0_0 : Int) (a0_1 : Int) (a0_2 : Int) (a0_3 : Int) (l0_4 : List Int) (a0_5 : Int) (l0_6 : List Int) (a1 : Int) : Sup (fun k => impl_HasNumber.f k a0_0 a0_1 a0_2 a0_3 l0_4 a0_5 l0_6 a1) (impl_HasNumber.F a0_0 a0_1 a0_2 a0_3 l0_4 a0_5 l0_6 a1) := Sup.of_mono fun k => impl_HasNumber.mono a0_0 a0_1 a0_2 a0_3 l0_4 a0_5 l0_6 a1 k
theorem impl_HasNumber.F_eq (a0_0 : Int) (a0_1 : Int) (a0_2 : Int) (a0_3 : Int) (l0_4 : List Int) (a0_5 : Int) (l0_6 : List Int) (a1 : Int) : impl_HasNumber.F a0_0 a0_1 a0_2 a0_3 l0_4 a0_5 l0_6 a1 = (impl_Sparse_numbers.F a0_0 a0_1 a0_2 a0_3 l0_4 a0_5 l0_6).bind fun bt651 => (if bt651.2 = true then ((impl_in.f a1 0 (wrap64 (a0_1 - 1))).bind fun t655 => (if t655 = true then ((slices_Contains_int_int.F bt651.1 a1).bind fun t656 => (some (t656, true))) else (some (false, false)))) else (some (false, false))) := by
  refine Sup.unique (impl_HasNumber.F_sup a0_0 a0_1 a0_2 a0_3 l0_4 a0_5 l0_6 a1) (Sup.congr (g' := fun k => (impl_Sparse_numbers.f k a0_0 a0_1 a0_2 a0_3 l0_4 a0_5 l0_6).bind fun bt651 => (if bt651.2 = true then ((impl_in.f a1 0 (wrap64 (a0_1 - 1))).bind fun t655 => (if t655 = true then ((slices_Contains_int_int.f k bt651.1 a1).bind fun t656 => (some (t656, true))) else (some (false, false)))) else (some (false, false)))) (fun k => by first | rfl | simp only [impl_HasNumber.f]) ?_)
  repeat' first
    | (with_reducible exact impl_Sparse_numbers.F_sup _ _ _ _ _ _ _)
    | (with_reducible exact slices_Contains_int_int.F_sup _ _)
    | (with_reducible refine Sup.ite ?_ ?_)
    | (with_reducible refine Sup.bind ?_ (fun _ => ?_))
    | (with_reducible exact Sup.const _)
    | exact impl_Sparse_numbers.F_sup _ _ _ _ _ _ _
    | exact slices_Contains_int_int.F_sup _ _
    | exact Sup.const _
set_option maxHeartbeats 8000000 in
set_option maxRecDepth 100000 in
theorem impl_HasNumber.calls (k : Nat) (a0_0 : Int) (a0_1 : Int) (a0_2 : Int) (a0_3 : Int) (A0_4 : Option Addr) (c0_4 : Nat) (l0_4 : List Int) (a0_5 : Int) (A0_6 : Option Addr) (c0_6 : Nat) (l0_6 : List Int) (a1 : Int) (r1 : Bool) (r2 : Bool) (w : World) (hr0_4 : Kd.C (Kd.int .i64) w A0_4 l0_4.length l0_4) (hc0_4 : l0_4.length ≤ c0_4) (hr0_6 : Kd.C (Kd.int .i64) w A0_6 l0_6.length l0_6) (hc0_6 : l0_6.length ≤ c0_6) (h : impl_HasNumber.f k a0_0 a0_1 a0_2 a0_3 l0_4 a0_5 l0_6 a1 = some (r1, r2)) :
    Calls Try.prog 36 #[.agg #[.int .i64 a0_0, .int .i64 a0_1, .int .i64 a0_2, .int .i64 a0_3, .slice A0_4 l0_4.length c0_4, .int .i64 a0_5, .slice A0_6 l0_6.length c0_6], .int .i64 a1] w fun e w' => e = .returned (.tuple #[.bool r1, .bool r2]) ∧ Below w.heap.size w w' := by
  have hu26 := Try.underlying26
  have HR0_4 := Aside0.mk hr0_4
  have HC0_4 := Aside0.mk hc0_4
  clear hr0_4 hc0_4
  have HR0_6 := Aside0.mk hr0_6
  have HC0_6 := Aside0.mk hc0_6
  clear hr0_6 hc0_6
  have HB := Aside0.mk (Below.refl w.heap.size w)
  have H : ((impl_Sparse_numbers.f k a0_0 a0_1 a0_2 a0_3 l0_4 a0_5 l0_6).bind fun bt651 => (if bt651.2 = true then ((impl_in.f a1 0 (wrap64 (a0_1 - 1))).bind fun t655 => (if t655 = true then ((slices_Contains_int_int.f k bt651.1 a1).bind fun t656 => (some (t656, true))) else (some (false, false)))) else (some (false, false)))) = some (r1, r2) := h
  clear h
  replace H := Option.bind_eq_some_iff.mp H
  obtain ⟨⟨t651, t654⟩, A30, H⟩ := H
  replace H : (if t654 = true then ((impl_in.f a1 0 (wrap64 (a0_1 - 1))).bind fun t655 => (if t655 = true then ((slices_Contains_int_int.f k t651 a1).bind fun t656 => (some (t656, true))) else (some (false, false)))) else (some (false, false))) = some (r1, r2) := H
  have A3 := Aside0.mk A30
  clear A30
  by_cases c4 : t654 = true
  ·subst c4
   have H1 : ((impl_in.f a1 0 (wrap64 (a0_1 - 1))).bind fun t655 => (if t655 = true then ((slices_Contains_int_int.f k t651 a1).bind fun t656 => (some (t656, true))) else (some (false, false)))) = some (r1, r2) := by rw [if_pos rfl] at H; exact H
   clear H
   have H := H1
   clear H1
   replace H := Option.bind_eq_some_iff.mp H
   obtain ⟨t655, A50, H⟩ := H
   replace H : (if t655 = true then ((slices_Contains_int_int.f k t651 a1).bind fun t656 => (some (t656, true))) else (some (false, false))) = some (r1, r2) := H
   have A5 := Aside0.mk A50
   clear A50
   by_cases c6 : t655 = true
   ·subst c6
    have H1 : ((slices_Contains_int_int.f k t651 a1).bind fun t656 => (some (t656, true))) = some (r1, r2) := by rw [if_pos rfl] at H; exact H
    clear H
    have H := H1
    clear H1
    replace H := Option.bind_eq_some_iff.mp H
    obtain ⟨t656, A70, H⟩ := H
    replace H : (some (t656, true)) = some (r1, r2) := H
    have A7 := Aside0.mk A70
    clear A70
    simp only [Option.some.injEq, Prod.mk.injEq] at H
    obtain ⟨rfl, rfl⟩ := H
    go_enter Try.func36, Try.ntmps36
    go_wp2_with (first | ((with_reducible refine gate_dst (N := 2) rfl ?_); refine box_event ?hg (N := 2) ?hd (cs := #[.int .i64 a0_0, .int .i64 a0_1, .int .i64 a0_2, .int .i64 a0_3, .slice A0_4 l0_4.length c0_4, .int .i64 a0_5, .slice A0_6 l0_6.length c0_6]) (t := 26) ?hr ?_; (case hd => rfl); (case hg => rfl); (case hr => first | (go_simp; done) | (go_simp; rfl)); intro gb650 hg w8 hbox hb; have n0_ := Aside0.mk (below_step (by repeat (first | (with_reducible first | exact HB.out | apply below_alloc | apply pw_below_drewN | apply below_drew1) | exact HB.out)) hb); have n1_ := Aside0.mk (hbox); have n2_ := Aside0.mk ((by rw [hg]; exact (below_size (by repeat (first | (with_reducible first | exact HB.out | apply below_alloc | apply pw_below_drewN | apply below_drew1) | exact HB.out))) : w.heap.size ≤ gb650)); have n3_ := Aside0.mk ((by rw [hg]; exact (below_size (by repeat (first | (with_reducible first | exact HB.out | apply below_alloc | apply pw_below_drewN | apply below_drew1) | exact HB.out))) : w.heap.size ≤ gb650)); clear HB; have HB := n0_; have BK650 := n1_; have GW650 := n2_; have GE650 := n3_; clear n0_ n1_ n2_ n3_; clear hb hbox hg) | ((with_reducible refine gate_callee (f := 63) rfl ?_); refine goesL_ (some 9) rfl rfl Try.func63 (by kernel_rfl) rfl #[.pointer (some ⟨gb650, 0, none⟩)] rfl (by (try simp only [List.map_toArray, List.map_cons, List.map_nil]); first | done | rfl | (simp only [List.length_drop, List.length_take]; rfl)) ?_; (with_reducible refine (impl_Sparse_numbers.calls k gb650 a0_0 a0_1 a0_2 a0_3 A0_4 c0_4 l0_4 a0_5 A0_6 c0_6 l0_6 t651 true _ ?side1 ?side2 ?side3 ?side4 ?side5 A3.out).mono ?_); (case side1 => repeat (first | exact (Kd.C_below HR0_4.out HB.out) | (with_reducible refine Kd.C_alloc ?_ _) | (with_reducible refine Kd.C_drewN ?_ _) | (with_reducible refine Kd.C_drew ?_))); (case side2 => exact HC0_4.out); (case side3 => repeat (first | exact (Kd.C_below HR0_6.out HB.out) | (with_reducible refine Kd.C_alloc ?_ _) | (with_reducible refine Kd.C_drewN ?_ _) | (with_reducible refine Kd.C_drew ?_))); (case side4 => exact HC0_6.out); (case side5 => exact (by (with_reducible repeat (first | refine blk_drewN ?_ _ | refine blk_drew ?_ | refine blk_alloc ?_ _)); exact BK650.out)); rintro e w9 ⟨v652, rfl, ho0, hb⟩; refine ⟨_, rfl, ?_⟩; have n0_ := Aside0.mk (Kd.R_lower ho0 (below_size (by repeat (first | (with_reducible first | exact HB.out | apply below_alloc | apply pw_below_drewN | apply below_drew1 | refine below_set ?_ GE650.out) | exact HB.out)))); have n1_ := Aside0.mk (blk_below (g := gb650) (o := .cells #[.int .i64 a0_0, .int .i64 a0_1, .int .i64 a0_2, .int .i64 a0_3, .slice A0_4 l0_4.length c0_4, .int .i64 a0_5, .slice A0_6 l0_6.length c0_6] 26 (0, 0)) (by (with_reducible repeat (first | refine blk_drewN ?_ _ | refine blk_drew ?_ | refine blk_alloc ?_ _)); exact BK650.out) hb); have n2_ := Aside0.mk (below_step (by repeat (first | (with_reducible first | exact HB.out | apply below_alloc | apply pw_below_drewN | apply below_drew1 | refine below_set ?_ GE650.out) | exact HB.out)) hb); clear BK650; clear HB; have HO653 := n0_; have BK650 := n1_; have HB := n2_; clear n0_ n1_ n2_; (try clear hb); (try clear hb2); (try clear hk); (try clear hi); (try clear ho0); have hcz10_0 : w9.cell? ⟨gb650, 0, none⟩ = some (.int .i64 a0_0) := (blk_cell BK650.out 0).trans rfl; have hcz10_1 : w9.cell? ⟨gb650, 1, none⟩ = some (.int .i64 a0_1) := (blk_cell BK650.out 1).trans rfl; have hcz10_2 : w9.cell? ⟨gb650, 2, none⟩ = some (.int .i64 a0_2) := (blk_cell BK650.out 2).trans rfl; have hcz10_3 : w9.cell? ⟨gb650, 3, none⟩ = some (.int .i64 a0_3) := (blk_cell BK650.out 3).trans rfl; have hcz10_4 : w9.cell? ⟨gb650, 4, none⟩ = some (.slice A0_4 l0_4.length c0_4) := (blk_cell BK650.out 4).trans rfl; have hcz10_5 : w9.cell? ⟨gb650, 5, none⟩ = some (.int .i64 a0_5) := (blk_cell BK650.out 5).trans rfl; have hcz10_6 : w9.cell? ⟨gb650, 6, none⟩ = some (.slice A0_6 l0_6.length c0_6) := (blk_cell BK650.out 6).trans rfl; have hfz10_0 := blk_frozen BK650.out 0; have hfz10_1 := blk_frozen BK650.out 1; have hfz10_2 := blk_frozen BK650.out 2; have hfz10_3 := blk_frozen BK650.out 3; have hfz10_4 := blk_frozen BK650.out 4; have hfz10_5 := blk_frozen BK650.out 5; have hfz10_6 := blk_frozen BK650.out 6) | (go_at_call 66; (with_reducible refine (impl_in.calls a1 0 (wrap64 (a0_1 - 1)) true _ A5.out).mono ?_); rintro e w' ⟨rfl, ⟨nd, rfl⟩⟩; obtain ⟨Ao11, co11, eo11⟩ := Kd.R_slice HO653.out; subst eo11) | ((with_reducible refine gate_callee (f := 69) rfl ?_); refine goesL_ (some 24) rfl rfl Try.func69 (by kernel_rfl) rfl #[.slice Ao11 t651.length co11, .int .i64 a1] rfl (by (try simp only [List.map_toArray, List.map_cons, List.map_nil]); first | done | rfl | (simp only [List.length_drop, List.length_take]; rfl)) ?_; (with_reducible refine (slices_Contains_int_int.calls k _ _ t651 a1 t656 _ ?side1 ?side2 A7.out).mono ?_); (case side1 => repeat (first | exact (Kd.R_reads' HO653.out).2.2 | (with_reducible refine Kd.C_alloc ?_ _) | (with_reducible refine Kd.C_drewN ?_ _) | (with_reducible refine Kd.C_drew ?_))); (case side2 => exact (Kd.R_reads' HO653.out).2.1); rintro e w' ⟨rfl, ⟨nd, rfl⟩⟩; refine ⟨_, rfl, ?_⟩))
    go_ret2
    exact ⟨by first | rfl | (simp [errW_none, errW_some] <;> rfl) | (simp [*, errW_none, errW_some] <;> rfl), by repeat (first | (with_reducible first | exact HB.out | apply below_alloc | apply pw_below_drewN | apply below_drew1 | refine below_set ?_ GE650.out) | exact HB.out)⟩
   ·replace c6 := Bool.eq_false_iff.mpr c6
    subst c6
    have H1 : (some (false, false)) = some (r1, r2) := by rw [if_neg (show ¬ (false = true) by decide)] at H; exact H
    clear H
    have H := H1
    clear H1
    simp only [Option.some.injEq, Prod.mk.injEq] at H
    obtain ⟨rfl, rfl⟩ := H
    go_enter Try.func36, Try.ntmps36
    go_wp2_with (first | ((with_reducible refine gate_dst (N := 2) rfl ?_); refine box_event ?hg (N := 2) ?hd (cs := #[.int .i64 a0_0, .int .i64 a0_1, .int .i64 a0_2, .int .i64 a0_3, .slice A0_4 l0_4.length c0_4, .int .i64 a0_5, .slice A0_6 l0_6.length c0_6]) (t := 26) ?hr ?_; (case hd => rfl); (case hg => rfl); (case hr => first | (go_simp; done) | (go_simp; rfl)); intro gb650 hg w12 hbox hb; have n0_ := Aside0.mk (below_step (by repeat (first | (with_reducible first | exact HB.out | apply below_alloc | apply pw_below_drewN | apply below_drew1) | exact HB.out)) hb); have n1_ := Aside0.mk (hbox); have n2_ := Aside0.mk ((by rw [hg]; exact (below_size (by repeat (first | (with_reducible first | exact HB.out | apply below_alloc | apply pw_below_drewN | apply below_drew1) | exact HB.out))) : w.heap.size ≤ gb650)); have n3_ := Aside0.mk ((by rw [hg]; exact (below_size (by repeat (first | (with_reducible first | exact HB.out | apply below_alloc | apply pw_below_drewN | apply below_drew1) | exact HB.out))) : w.heap.size ≤ gb650)); clear HB; have HB := n0_; have BK650 := n1_; have GW650 := n2_; have GE650 := n3_; clear n0_ n1_ n2_ n3_; clear hb hbox hg) | ((with_reducible refine gate_callee (f := 63) rfl ?_); refine goesL_ (some 9) rfl rfl Try.func63 (by kernel_rfl) rfl #[.pointer (some ⟨gb650, 0, none⟩)] rfl (by (try simp only [List.map_toArray, List.map_cons, List.map_nil]); first | done | rfl | (simp only [List.length_drop, List.length_take]; rfl)) ?_; (with_reducible refine (impl_Sparse_numbers.calls k gb650 a0_0 a0_1 a0_2 a0_3 A0_4 c0_4 l0_4 a0_5 A0_6 c0_6 l0_6 t651 true _ ?side1 ?side2 ?side3 ?side4 ?side5 A3.out).mono ?_); (case side1 => repeat (first | exact (Kd.C_below HR0_4.out HB.out) | (with_reducible refine Kd.C_alloc ?_ _) | (with_reducible refine Kd.C_drewN ?_ _) | (with_reducible refine Kd.C_drew ?_))); (case side2 => exact HC0_4.out); (case side3 => repeat (first | exact (Kd.C_below HR0_6.out HB.out) | (with_reducible refine Kd.C_alloc ?_ _) | (with_reducible refine Kd.C_drewN ?_ _) | (with_reducible refine Kd.C_drew ?_))); (case side4 => exact HC0_6.out); (case side5 => exact (by (with_reducible repeat (first | refine blk_drewN ?_ _ | refine blk_drew ?_ | refine blk_alloc ?_ _)); exact BK650.out)); rintro e w13 ⟨v652, rfl, ho0, hb⟩; refine ⟨_, rfl, ?_⟩; have n0_ := Aside0.mk (Kd.R_lower ho0 (below_size (by repeat (first | (with_reducible first | exact HB.out | apply below_alloc | apply pw_below_drewN | apply below_drew1 | refine below_set ?_ GE650.out) | exact HB.out)))); have n1_ := Aside0.mk (blk_below (g := gb650) (o := .cells #[.int .i64 a0_0, .int .i64 a0_1, .int .i64 a0_2, .int .i64 a0_3, .slice A0_4 l0_4.length c0_4, .int .i64 a0_5, .slice A0_6 l0_6.length c0_6] 26 (0, 0)) (by (with_reducible repeat (first | refine blk_drewN ?_ _ | refine blk_drew ?_ | refine blk_alloc ?_ _)); exact BK650.out) hb); have n2_ := Aside0.mk (below_step (by repeat (first | (with_reducible first | exact HB.out | apply below_alloc | apply pw_below_drewN | apply below_drew1 | refine below_set ?_ GE650.out) | exact HB.out)) hb); clear BK650; clear HB; have HO653 := n0_; have BK650 := n1_; have HB := n2_; clear n0_ n1_ n2_; (try clear hb); (try clear hb2); (try clear hk); (try clear hi); (try clear ho0); have hcz14_0 : w13.cell? ⟨gb650, 0, none⟩ = some (.int .i64 a0_0) := (blk_cell BK650.out 0).trans rfl; have hcz14_1 : w13.cell? ⟨gb650, 1, none⟩ = some (.int .i64 a0_1) := (blk_cell BK650.out 1).trans rfl; have hcz14_2 : w13.cell? ⟨gb650, 2, none⟩ = some (.int .i64 a0_2) := (blk_cell BK650.out 2).trans rfl; have hcz14_3 : w13.cell? ⟨gb650, 3, none⟩ = some (.int .i64 a0_3) := (blk_cell BK650.out 3).trans rfl; have hcz14_4 : w13.cell? ⟨gb650, 4, none⟩ = some (.slice A0_4 l0_4.length c0_4) := (blk_cell BK650.out 4).trans rfl; have hcz14_5 : w13.cell? ⟨gb650, 5, none⟩ = some (.int .i64 a0_5) := (blk_cell BK650.out 5).trans rfl; have hcz14_6 : w13.cell? ⟨gb650, 6, none⟩ = some (.slice A0_6 l0_6.length c0_6) := (blk_cell BK650.out 6).trans rfl; have hfz14_0 := blk_frozen BK650.out 0; have hfz14_1 := blk_frozen BK650.out 1; have hfz14_2 := blk_frozen BK650.out 2; have hfz14_3 := blk_frozen BK650.out 3; have hfz14_4 := blk_frozen BK650.out 4; have hfz14_5 := blk_frozen BK650.out 5; have hfz14_6 := blk_frozen BK650.out 6) | (go_at_call 66; (with_reducible refine (impl_in.calls a1 0 (wrap64 (a0_1 - 1)) false _ A5.out).mono ?_); rintro e w' ⟨rfl, ⟨nd, rfl⟩⟩))
    go_ret2
    exact ⟨by first | rfl | (simp [errW_none, errW_some] <;> rfl) | (simp [*, errW_none, errW_some] <;> rfl), by repeat (first | (with_reducible first | exact HB.out | apply below_alloc | apply pw_below_drewN | apply below_drew1 | refine below_set ?_ GE650.out) | exact HB.out)⟩
  ·replace c4 := Bool.eq_false_iff.mpr c4
   subst c4
   have H1 : (some (false, false)) = some (r1, r2) := by rw [if_neg (show ¬ (false = true) by decide)] at H; exact H
   clear H
   have H := H1
   clear H1
   simp only [Option.some.injEq, Prod.mk.injEq] at H
   obtain ⟨rfl, rfl⟩ := H
   go_enter Try.func36, Try.ntmps36
   go_wp2_with (first | ((with_reducible refine gate_dst (N := 2) rfl ?_); refine box_event ?hg (N := 2) ?hd (cs := #[.int .i64 a0_0, .int .i64 a0_1, .int .i64 a0_2, .int .i64 a0_3, .slice A0_4 l0_4.length c0_4, .int .i64 a0_5, .slice A0_6 l0_6.length c0_6]) (t := 26) ?hr ?_; (case hd => rfl); (case hg => rfl); (case hr => first | (go_simp; done) | (go_simp; rfl)); intro gb650 hg w15 hbox hb; have n0_ := Aside0.mk (below_step (by repeat (first | (with_reducible first | exact HB.out | apply below_alloc | apply pw_below_drewN | apply below_drew1) | exact HB.out)) hb); have n1_ := Aside0.mk (hbox); have n2_ := Aside0.mk ((by rw [hg]; exact (below_size (by repeat (first | (with_reducible first | exact HB.out | apply below_alloc | apply pw_below_drewN | apply below_drew1) | exact HB.out))) : w.heap.size ≤ gb650)); have n3_ := Aside0.mk ((by rw [hg]; exact (below_size (by repeat (first | (with_reducible first | exact HB.out | apply below_alloc | apply pw_below_drewN | apply below_drew1) | exact HB.out))) : w.heap.size ≤ gb650)); clear HB; have HB := n0_; have BK650 := n1_; have GW650 := n2_; have GE650 := n3_; clear n0_ n1_ n2_ n3_; clear hb hbox hg) | ((with_reducible refine gate_callee (f := 63) rfl ?_); refine goesL_ (some 9) rfl rfl Try.func63 (by kernel_rfl) rfl #[.pointer (some ⟨gb650, 0, none⟩)] rfl (by (try simp only [List.map_toArray, List.map_cons, List.map_nil]); first | done | rfl | (simp only [List.length_drop, List.length_take]; rfl)) ?_; (with_reducible refine (impl_Sparse_numbers.calls k gb650 a0_0 a0_1 a0_2 a0_3 A0_4 c0_4 l0_4 a0_5 A0_6 c0_6 l0_6 t651 false _ ?side1 ?side2 ?side3 ?side4 ?side5 A3.out).mono ?_); (case side1 => repeat (first | exact (Kd.C_below HR0_4.out HB.out) | (with_reducible refine Kd.C_alloc ?_ _) | (with_reducible refine Kd.C_drewN ?_ _) | (with_reducible refine Kd.C_drew ?_))); (case side2 => exact HC0_4.out); (case side3 => repeat (first | exact (Kd.C_below HR0_6.out HB.out) | (with_reducible refine Kd.C_alloc ?_ _) | (with_reducible refine Kd.C_drewN ?_ _) | (with_reducible refine Kd.C_drew ?_))); (case side4 => exact HC0_6.out); (case side5 => exact (by (with_reducible repeat (first | refine blk_drewN ?_ _ | refine blk_drew ?_ | refine blk_alloc ?_ _)); exact BK650.out)); rintro e w16 ⟨v652, rfl, ho0, hb⟩; refine ⟨_, rfl, ?_⟩; have n0_ := Aside0.mk (Kd.R_lower ho0 (below_size (by repeat (first | (with_reducible first | exact HB.out | apply below_alloc | apply pw_below_drewN | apply below_drew1 | refine below_set ?_ GE650.out) | exact HB.out)))); have n1_ := Aside0.mk (blk_below (g := gb650) (o := .cells #[.int .i64 a0_0, .int .i64 a0_1, .int .i64 a0_2, .int .i64 a0_3, .slice A0_4 l0_4.length c0_4, .int .i64 a0_5, .slice A0_6 l0_6.length c0_6] 26 (0, 0)) (by (with_reducible repeat (first | refine blk_drewN ?_ _ | refine blk_drew ?_ | refine blk_alloc ?_ _)); exact BK650.out) hb); have n2_ := Aside0.mk (below_step (by repeat (first | (with_reducible first | exact HB.out | apply below_alloc | apply pw_below_drewN | apply below_drew1 | refine below_set ?_ GE650.out) | exact HB.out)) hb); clear BK650; clear HB; have HO653 := n0_; have BK650 := n1_; have HB := n2_; clear n0_ n1_ n2_; (try clear hb); (try clear hb2); (try clear hk); (try clear hi); (try clear ho0)))
   go_ret2
   exact ⟨by first | rfl | (simp [errW_none, errW_some] <;> rfl) | (simp [*, errW_none, errW_some] <;> rfl), by repeat (first | (with_reducible first | exact HB.out | apply below_alloc | apply pw_below_drewN | apply below_drew1 | refine below_set ?_ GE650.out) | exact HB.out)⟩
/-! ### laws_FnExactHasNumber: function 8 -/
def laws_FnExactHasNumber.f (k : Nat) (a0_0 : Int) (a0_1 : Int) (a0_2 : Int) (a0_3 : Int) (l0_4 : List Int) (a0_5 : Int) (l0_6 : List Int) (a1 : Int) : Option (Bool) := (laws_szSparse.f a0_0 a0_1 a0_2 a0_3 l0_4 a0_5 l0_6 1048576).bind fun t658 => (if t658 < 0 then (some true) else ((laws_toSparse.f k a0_0 a0_1 a0_2 a0_3 l0_4 a0_5 l0_6).bind fun bt659 => ((spec_HasNumber.f k bt659.1 bt659.2.1 bt659.2.2.1 bt659.2.2.2.1 bt659.2.2.2.2.1 bt659.2.2.2.2.2.1 bt659.2.2.2.2.2.2 a1).bind fun bt670 => ((laws_toSparse.f k a0_0 a0_1 a0_2 a0_3 l0_4 a0_5 l0_6).bind fun bt672 => ((impl_HasNumber.f k bt672.1 bt672.2.1 bt672.2.2.1 bt672.2.2.2.1 bt672.2.2.2.2.1 bt672.2.2.2.2.2.1 bt672.2.2.2.2.2.2 a1).bind fun bt684 => (if (bt684.1 != bt670.1) = true then (none) else (if (bt684.2 != bt670.2) = true then (none) else ((laws_toSparse.f k a0_0 a0_1 a0_2 a0_3 l0_4 a0_5 l0_6).bind fun bt686 => ((laws_eqSparse.f k bt672.1 bt672.2.1 bt672.2.2.1 bt672.2.2.2.1 bt672.2.2.2.2.1 bt672.2.2.2.2.2.1 bt672.2.2.2.2.2.2 bt686.1 bt686.2.1 bt686.2.2.1 bt686.2.2.2.1 bt686.2.2.2.2.1 bt686.2.2.2.2.2.1 bt686.2.2.2.2.2.2).bind fun t697 => (if t697 = true then (some true) else (none)))))))))))
theorem laws_FnExactHasNumber.mono : ∀ a0 a1 a2 a3 a4 a5 a6 a7 k, LeO (laws_FnExactHasNumber.f k a0 a1 a2 a3 a4 a5 a6 a7) (laws_FnExactHasNumber.f (k + 1) a0 a1 a2 a3 a4 a5 a6 a7) := by
  intro a0 a1 a2 a3 a4 a5 a6 a7 k
  unfold laws_FnExactHasNumber.f
  repeat' first
      | (with_reducible exact impl_HasNumber.mono _ _ _ _ _ _ _ _ _)
      | (with_reducible exact laws_eqSparse.mono _ _ _ _ _ _ _ _ _ _ _ _ _ _ _)
      | (with_reducible exact laws_toSparse.mono _ _ _ _ _ _ _ _)
      | (with_reducible exact spec_HasNumber.mono _ _ _ _ _ _ _ _ _)
      | (with_reducible exact LeO.refl _)
      | (with_reducible exact LeO.none _)
      | (with_reducible refine LeO.ite ?_ ?_)
      | (with_reducible refine LeO.bind ?_ (fun _ => ?_))
      | exact impl_HasNumber.mono _ _ _ _ _ _ _ _ _
      | exact laws_eqSparse.mono _ _ _ _ _ _ _ _ _ _ _ _ _ _ _
      | exact laws_toSparse.mono _ _ _ _ _ _ _ _
      | exact spec_HasNumber.mono _ _ _ _ _ _ _ _ _
      | exact LeO.none _
      | refine LeO.ite ?_ ?_
      | refine LeO.bind ?_ (fun _ => ?_)
noncomputable def laws_FnExactHasNumber.F (a0_0 : Int) (a0_1 : Int) (a0_2 : Int) (a0_3 : Int) (l0_4 : List Int) (a0_5 : Int) (l0_6 : List Int) (a1 : Int) : Option (Bool) := lim fun k => laws_FnExactHasNumber.f k a0_0 a0_1 a0_2 a0_3 l0_4 a0_5 l0_6 a1
theorem laws_FnExactHasNumber.F_sup (a0_0 : Int) (a0_1 : Int) (a0_2 : Int) (a0_3 : Int) (l0_4 : List Int) (a0_5 : Int) (l0_6 : List Int) (a1 : Int) : Sup (fun k => laws_FnExactHasNumber.f k a0_0 a0_1 a0_2 a0_3 l0_4 a0_5 l0_6 a1) (laws_FnExactHasNumber.F a0_0 a0_1 a0_2 a0_3 l0_4 a0_5 l0_6 a1) := Sup.of_mono fun k => laws_FnExactHasNumber.mono a0_0 a0_1 a0_2 a0_3 l0_4 a0_5 l0_6 a1 k
theorem laws_FnExactHasNumber.F_eq (a0_0 : Int) (a0_1 : Int) (a0_2 : Int) (a0_3 : Int) (l0_4 : List Int) (a0_5 : Int) (l0_6 : List Int) (a1 : Int) : laws_FnExactHasNumber.F a0_0 a0_1 a0_2 a0_3 l0_4 a0_5 l0_6 a1 = (laws_szSparse.f a0_0 a0_1 a0_2 a0_3 l0_4 a0_5 l0_6 1048576).bind fun t658 => (if t658 < 0 then (some true) else ((laws_toSparse.F a0_0 a0_1 a0_2 a0_3 l0_4 a0_5 l0_6).bind fun bt659 => ((spec_HasNumber.F bt659.1 bt659.2.1 bt659.2.2.1 bt659.2.2.2.1 bt659.2.2.2.2.1 bt659.2.2.2.2.2.1 bt659.2.2.2.2.2.2 a1).bind fun bt670 => ((laws_toSparse.F a0_0 a0_1 a0_2 a0_3 l0_4 a0_5 l0_6).bind fun bt672 => ((impl_HasNumber.F bt672.1 bt672.2.1 bt672.2.2.1 bt672.2.2.2.1 bt672.2.2.2.2.1 bt672.2.2.2.2.2.1 bt672.2.2.2.2.2.2 a1).bind fun bt684 => (if (bt684.1 != bt670.1) = true then (none) else (if (bt684.2 != bt670.2) = true then (none) else ((laws_toSparse.F a0_0 a0_1 a0_2 a0_3 l0_4 a0_5 l0_6).bind fun bt686 => ((laws_eqSparse.F bt672.1 bt672.2.1 bt672.2.2.1 bt672.2.2.2.1 bt672.2.2.2.2.1 bt672.2.2.2.2.2.1 bt672.2.2.2.2.2.2 bt686.1 bt686.2.1 bt686.2.2.1 bt686.2.2.2.1 bt686.2.2.2.2.1 bt686.2.2.2.2.2.1 bt686.2.2.2.2.2.2).bind fun t697 => (if t697 = true then (some true) else (none))))))))))) := by
  refine Sup.unique (laws_FnExactHasNumber.F_sup a0_0 a0_1 a0_2 a0_3 l0_4 a0_5 l0_6 a1) (Sup.congr (g' := fun k => (laws_szSparse.f a0_0 a0_1 a0_2 a0_3 l0_4 a0_5 l0_6 1048576).bind fun t658 => (if t658 < 0 then (some true) else ((laws_toSparse.f k a0_0 a0_1 a0_2 a0_3 l0_4 a0_5 l0_6).bind fun bt659 => ((spec_HasNumber.f k bt659.1 bt659.2.1 bt659.2.2.1 bt659.2.2.2.1 bt659.2.2.2.2.1 bt659.2.2.2.2.2.1 bt659.2.2.2.2.2.2 a1).bind fun bt670 => ((laws_toSparse.f k a0_0 a0_1 a0_2 a0_3 l0_4 a0_5 l0_6).bind fun bt672 => ((impl_HasNumber.f k bt672.1 bt672.2.1 bt672.2.2.1 bt672.2.2.2.1 bt672.2.2.2.2.1 bt672.2.2.2.2.2.1 bt672.2.2.2.2.2.2 a1).bind fun bt684 => (if (bt684.1 != bt670.1) = true then (none) else (if (bt684.2 != bt670.2) = true then (none) else ((laws_toSparse.f k a0_0 a0_1 a0_2 a0_3 l0_4 a0_5 l0_6).bind fun bt686 => ((laws_eqSparse.f k bt672.1 bt672.2.1 bt672.2.2.1 bt672.2.2.2.1 bt672.2.2.2.2.1 bt672.2.2.2.2.2.1 bt672.2.2.2.2.2.2 bt686.1 bt686.2.1 bt686.2.2.1 bt686.2.2.2.1 bt686.2.2.2.2.1 bt686.2.2.2.2.2.1 bt686.2.2.2.2.2.2).bind fun t697 => (if t697 = true then (some true) else (none)))))))))))) (fun k => by first | rfl | simp only [laws_FnExactHasNumber.f]) ?_)
  repeat' first
    | (with_reducible exact laws_eqSparse.F_sup _ _ _ _ _ _ _ _ _ _ _ _ _ _)
    | (with_reducible exact laws_toSparse.F_sup _ _ _ _ _ _ _)
    | (with_reducible exact spec_HasNumber.F_sup _ _ _ _ _ _ _ _)
    | (with_reducible exact impl_HasNumber.F_sup _ _ _ _ _ _ _ _)
    | (with_reducible refine Sup.ite ?_ ?_)
    | (with_reducible refine Sup.bind ?_ (fun _ => ?_))
    | (with_reducible exact Sup.const _)
    | exact laws_eqSparse.F_sup _ _ _ _ _ _ _ _ _ _ _ _ _ _
    | exact laws_toSparse.F_sup _ _ _ _ _ _ _
    | exact spec_HasNumber.F_sup _ _ _ _ _ _ _ _
    | exact impl_HasNumber.F_sup _ _ _ _ _ _ _ _
    | exact Sup.const _
set_option maxHeartbeats 8000000 in
set_option maxRecDepth 100000 in
theorem laws_FnExactHasNumber.calls (k : Nat) (a0_0 : Int) (a0_1 : Int) (a0_2 : Int) (a0_3 : Int) (A0_4 : Option Addr) (c0_4 : Nat) (l0_4 : List Int) (a0_5 : Int) (A0_6 : Option Addr) (c0_6 : Nat) (l0_6 : List Int) (a1 : Int) (r : Bool) (w : World) (hr0_4 : Kd.C (Kd.int .i64) w A0_4 l0_4.length l0_4) (hc0_4 : l0_4.length ≤ c0_4) (hr0_6 : Kd.C (Kd.int .i64) w A0_6 l0_6.length l0_6) (hc0_6 : l0_6.length ≤ c0_6) (h : laws_FnExactHasNumber.f k a0_0 a0_1 a0_2 a0_3 l0_4 a0_5 l0_6 a1 = some r) :
    Calls Try.prog 8 #[.agg #[.int .i64 a0_0, .int .i64 a0_1, .int .i64 a0_2, .int .i64 a0_3, .slice A0_4 l0_4.length c0_4, .int .i64 a0_5, .slice A0_6 l0_6.length c0_6], .int .i64 a1] w fun e w' => e = .returned (.bool r) ∧ Below w.heap.size w w' := by
  have hu37 := Try.underlying37
  have hu26 := Try.underlying26
  have HR0_4 := Aside0.mk hr0_4
  have HC0_4 := Aside0.mk hc0_4
  clear hr0_4 hc0_4
  have HR0_6 := Aside0.mk hr0_6
  have HC0_6 := Aside0.mk hc0_6
  clear hr0_6 hc0_6
  have HB := Aside0.mk (Below.refl w.heap.size w)
  have H : ((laws_szSparse.f a0_0 a0_1 a0_2 a0_3 l0_4 a0_5 l0_6 1048576).bind fun t658 => (if t658 < 0 then (some true) else ((laws_toSparse.f k a0_0 a0_1 a0_2 a0_3 l0_4 a0_5 l0_6).bind fun bt659 => ((spec_HasNumber.f k bt659.1 bt659.2.1 bt659.2.2.1 bt659.2.2.2.1 bt659.2.2.2.2.1 bt659.2.2.2.2.2.1 bt659.2.2.2.2.2.2 a1).bind fun bt670 => ((laws_toSparse.f k a0_0 a0_1 a0_2 a0_3 l0_4 a0_5 l0_6).bind fun bt672 => ((impl_HasNumber.f k bt672.1 bt672.2.1 bt672.2.2.1 bt672.2.2.2.1 bt672.2.2.2.2.1 bt672.2.2.2.2.2.1 bt672.2.2.2.2.2.2 a1).bind fun bt684 => (if (bt684.1 != bt670.1) = true then (none) else (if (bt684.2 != bt670.2) = true then (none) else ((laws_toSparse.f k a0_0 a0_1 a0_2 a0_3 l0_4 a0_5 l0_6).bind fun bt686 => ((laws_eqSparse.f k bt672.1 bt672.2.1 bt672.2.2.1 bt672.2.2.2.1 bt672.2.2.2.2.1 bt672.2.2.2.2.2.1 bt672.2.2.2.2.2.2 bt686.1 bt686.2.1 bt686.2.2.1 bt686.2.2.2.1 bt686.2.2.2.2.1 bt686.2.2.2.2.2.1 bt686.2.2.2.2.2.2).bind fun t697 => (if t697 = true then (some true) else (none)))))))))))) = some r := h
  clear h
  replace H := Option.bind_eq_some_iff.mp H
  obtain ⟨t658, A30, H⟩ := H
  replace H : (if t658 < 0 then (some true) else ((laws_toSparse.f k a0_0 a0_1 a0_2 a0_3 l0_4 a0_5 l0_6).bind fun bt659 => ((spec_HasNumber.f k bt659.1 bt659.2.1 bt659.2.2.1 bt659.2.2.2.1 bt659.2.2.2.2.1 bt659.2.2.2.2.2.1 bt659.2.2.2.2.2.2 a1).bind fun bt670 => ((laws_toSparse.f k a0_0 a0_1 a0_2 a0_3 l0_4 a0_5 l0_6).bind fun bt672 => ((impl_HasNumber.f k bt672.1 bt672.2.1 bt672.2.2.1 bt672.2.2.2.1 bt672.2.2.2.2.1 bt672.2.2.2.2.2.1 bt672.2.2.2.2.2.2 a1).bind fun bt684 => (if (bt684.1 != bt670.1) = true then (none) else (if (bt684.2 != bt670.2) = true then (none) else ((laws_toSparse.f k a0_0 a0_1 a0_2 a0_3 l0_4 a0_5 l0_6).bind fun bt686 => ((laws_eqSparse.f k bt672.1 bt672.2.1 bt672.2.2.1 bt672.2.2.2.1 bt672.2.2.2.2.1 bt672.2.2.2.2.2.1 bt672.2.2.2.2.2.2 bt686.1 bt686.2.1 bt686.2.2.1 bt686.2.2.2.1 bt686.2.2.2.2.1 bt686.2.2.2.2.2.1 bt686.2.2.2.2.2.2).bind fun t697 => (if t697 = true then (some true) else (none))))))))))) = some r := H
  have A3 := Aside0.mk A30
  clear A30
  by_cases c4 : t658 < 0
  ·rw [if_pos c4] at H
   have c4b0 : decide (t658 < 0) = true := decide_eq_true c4
   clear c4
   obtain rfl := Option.some.inj H
   go_enter Try.func8, Try.ntmps8
   go_wp2_with (first | ((with_reducible refine gate_dst (N := 2) rfl ?_); refine box_event ?hg (N := 2) ?hd (cs := #[.int .i64 a0_0, .int .i64 a0_1, .int .i64 a0_2, .int .i64 a0_3, .slice A0_4 l0_4.length c0_4, .int .i64 a0_5, .slice A0_6 l0_6.length c0_6]) (t := 37) ?hr ?_; (case hd => rfl); (case hg => rfl); (case hr => first | (go_simp; done) | (go_simp; rfl)); intro gb657 hg w5 hbox hb; have n0_ := Aside0.mk (below_step (by repeat (first | (with_reducible first | exact HB.out | apply below_alloc | apply pw_below_drewN | apply below_drew1) | exact HB.out)) hb); have n1_ := Aside0.mk (hbox); have n2_ := Aside0.mk ((by rw [hg]; exact (below_size (by repeat (first | (with_reducible first | exact HB.out | apply below_alloc | apply pw_below_drewN | apply below_drew1) | exact HB.out))) : w.heap.size ≤ gb657)); have n3_ := Aside0.mk ((by rw [hg]; exact (below_size (by repeat (first | (with_reducible first | exact HB.out | apply below_alloc | apply pw_below_drewN | apply below_drew1) | exact HB.out))) : w.heap.size ≤ gb657)); clear HB; have HB := n0_; have BK657 := n1_; have GW657 := n2_; have GE657 := n3_; clear n0_ n1_ n2_ n3_; clear hb hbox hg; have hcz6_0 : w5.cell? ⟨gb657, 0, none⟩ = some (.int .i64 a0_0) := (blk_cell BK657.out 0).trans rfl; have hcz6_1 : w5.cell? ⟨gb657, 1, none⟩ = some (.int .i64 a0_1) := (blk_cell BK657.out 1).trans rfl; have hcz6_2 : w5.cell? ⟨gb657, 2, none⟩ = some (.int .i64 a0_2) := (blk_cell BK657.out 2).trans rfl; have hcz6_3 : w5.cell? ⟨gb657, 3, none⟩ = some (.int .i64 a0_3) := (blk_cell BK657.out 3).trans rfl; have hcz6_4 : w5.cell? ⟨gb657, 4, none⟩ = some (.slice A0_4 l0_4.length c0_4) := (blk_cell BK657.out 4).trans rfl; have hcz6_5 : w5.cell? ⟨gb657, 5, none⟩ = some (.int .i64 a0_5) := (blk_cell BK657.out 5).trans rfl; have hcz6_6 : w5.cell? ⟨gb657, 6, none⟩ = some (.slice A0_6 l0_6.length c0_6) := (blk_cell BK657.out 6).trans rfl; have hfz6_0 := blk_frozen BK657.out 0; have hfz6_1 := blk_frozen BK657.out 1; have hfz6_2 := blk_frozen BK657.out 2; have hfz6_3 := blk_frozen BK657.out 3; have hfz6_4 := blk_frozen BK657.out 4; have hfz6_5 := blk_frozen BK657.out 5; have hfz6_6 := blk_frozen BK657.out 6) | ((with_reducible refine gate_callee (f := 24) rfl ?_); refine goesL_ (some 13) rfl rfl Try.func24 (by kernel_rfl) rfl #[.agg #[.int .i64 a0_0, .int .i64 a0_1, .int .i64 a0_2, .int .i64 a0_3, .slice A0_4 l0_4.length c0_4, .int .i64 a0_5, .slice A0_6 l0_6.length c0_6], .int .i64 1048576] rfl (by (try simp only [List.map_toArray, List.map_cons, List.map_nil]); first | done | rfl | (simp only [List.length_drop, List.length_take]; rfl)) ?_; (with_reducible refine (laws_szSparse.calls a0_0 a0_1 a0_2 a0_3 _ _ l0_4 a0_5 _ _ l0_6 1048576 t658 _ ?side1 ?side2 ?side3 ?side4 A3.out).mono ?_); (case side1 => repeat (first | exact (Kd.C_below HR0_4.out HB.out) | (with_reducible refine Kd.C_alloc ?_ _) | (with_reducible refine Kd.C_drewN ?_ _) | (with_reducible refine Kd.C_drew ?_))); (case side2 => exact HC0_4.out); (case side3 => repeat (first | exact (Kd.C_below HR0_6.out HB.out) | (with_reducible refine Kd.C_alloc ?_ _) | (with_reducible refine Kd.C_drewN ?_ _) | (with_reducible refine Kd.C_drew ?_))); (case side4 => exact HC0_6.out); rintro e w7 ⟨rfl, hb⟩; refine ⟨_, rfl, ?_⟩; have n0_ := Aside0.mk (blk_below (g := gb657) (o := .cells #[.int .i64 a0_0, .int .i64 a0_1, .int .i64 a0_2, .int .i64 a0_3, .slice A0_4 l0_4.length c0_4, .int .i64 a0_5, .slice A0_6 l0_6.length c0_6] 37 (0, 0)) (by (with_reducible repeat (first | refine blk_drewN ?_ _ | refine blk_drew ?_ | refine blk_alloc ?_ _)); exact BK657.out) hb); have n1_ := Aside0.mk (below_step (by repeat (first | (with_reducible first | exact HB.out | apply below_alloc | apply pw_below_drewN | apply below_drew1 | refine below_set ?_ GE657.out) | exact HB.out)) hb); clear BK657; clear HB; have BK657 := n0_; have HB := n1_; clear n0_ n1_; (try clear hb); (try clear hb2); (try clear hk); (try clear hi)))
   go_ret
   exact ⟨by first | rfl | (simp [errW_none, errW_some] <;> rfl) | (simp [*, errW_none, errW_some] <;> rfl), by repeat (first | (with_reducible first | exact HB.out | apply below_alloc | apply pw_below_drewN | apply below_drew1 | refine below_set ?_ GE657.out) | exact HB.out)⟩
  ·rw [if_neg c4] at H
   have c4b0 : decide (t658 < 0) = false := decide_eq_false c4
   clear c4
   replace H := Option.bind_eq_some_iff.mp H
   obtain ⟨⟨t659, t660, t661, t662, t663, t666, t667⟩, A80, H⟩ := H
   replace H : ((spec_HasNumber.f k t659 t660 t661 t662 t663 t666 t667 a1).bind fun bt670 => ((laws_toSparse.f k a0_0 a0_1 a0_2 a0_3 l0_4 a0_5 l0_6).bind fun bt672 => ((impl_HasNumber.f k bt672.1 bt672.2.1 bt672.2.2.1 bt672.2.2.2.1 bt672.2.2.2.2.1 bt672.2.2.2.2.2.1 bt672.2.2.2.2.2.2 a1).bind fun bt684 => (if (bt684.1 != bt670.1) = true then (none) else (if (bt684.2 != bt670.2) = true then (none) else ((laws_toSparse.f k a0_0 a0_1 a0_2 a0_3 l0_4 a0_5 l0_6).bind fun bt686 => ((laws_eqSparse.f k bt672.1 bt672.2.1 bt672.2.2.1 bt672.2.2.2.1 bt672.2.2.2.2.1 bt672.2.2.2.2.2.1 bt672.2.2.2.2.2.2 bt686.1 bt686.2.1 bt686.2.2.1 bt686.2.2.2.1 bt686.2.2.2.2.1 bt686.2.2.2.2.2.1 bt686.2.2.2.2.2.2).bind fun t697 => (if t697 = true then (some true) else (none))))))))) = some r := H
   have A8 := Aside0.mk A80
   clear A80
   replace H := Option.bind_eq_some_iff.mp H
   obtain ⟨⟨t670, t671⟩, A90, H⟩ := H
   replace H : ((laws_toSparse.f k a0_0 a0_1 a0_2 a0_3 l0_4 a0_5 l0_6).bind fun bt672 => ((impl_HasNumber.f k bt672.1 bt672.2.1 bt672.2.2.1 bt672.2.2.2.1 bt672.2.2.2.2.1 bt672.2.2.2.2.2.1 bt672.2.2.2.2.2.2 a1).bind fun bt684 => (if (bt684.1 != t670) = true then (none) else (if (bt684.2 != t671) = true then (none) else ((laws_toSparse.f k a0_0 a0_1 a0_2 a0_3 l0_4 a0_5 l0_6).bind fun bt686 => ((laws_eqSparse.f k bt672.1 bt672.2.1 bt672.2.2.1 bt672.2.2.2.1 bt672.2.2.2.2.1 bt672.2.2.2.2.2.1 bt672.2.2.2.2.2.2 bt686.1 bt686.2.1 bt686.2.2.1 bt686.2.2.2.1 bt686.2.2.2.2.1 bt686.2.2.2.2.2.1 bt686.2.2.2.2.2.2).bind fun t697 => (if t697 = true then (some true) else (none)))))))) = some r := H
   have A9 := Aside0.mk A90
   clear A90
   replace H := Option.bind_eq_some_iff.mp H
   obtain ⟨⟨t672, t673, t674, t675, t676, t679, t680⟩, A100, H⟩ := H
   replace H : ((impl_HasNumber.f k t672 t673 t674 t675 t676 t679 t680 a1).bind fun bt684 => (if (bt684.1 != t670) = true then (none) else (if (bt684.2 != t671) = true then (none) else ((laws_toSparse.f k a0_0 a0_1 a0_2 a0_3 l0_4 a0_5 l0_6).bind fun bt686 => ((laws_eqSparse.f k t672 t673 t674 t675 t676 t679 t680 bt686.1 bt686.2.1 bt686.2.2.1 bt686.2.2.2.1 bt686.2.2.2.2.1 bt686.2.2.2.2.2.1 bt686.2.2.2.2.2.2).bind fun t697 => (if t697 = true then (some true) else (none))))))) = some r := H
   have A10 := Aside0.mk A100
   clear A100
   replace H := Option.bind_eq_some_iff.mp H
   obtain ⟨⟨t684, t685⟩, A110, H⟩ := H
   replace H : (if (t684 != t670) = true then (none) else (if (t685 != t671) = true then (none) else ((laws_toSparse.f k a0_0 a0_1 a0_2 a0_3 l0_4 a0_5 l0_6).bind fun bt686 => ((laws_eqSparse.f k t672 t673 t674 t675 t676 t679 t680 bt686.1 bt686.2.1 bt686.2.2.1 bt686.2.2.2.1 bt686.2.2.2.2.1 bt686.2.2.2.2.2.1 bt686.2.2.2.2.2.2).bind fun t697 => (if t697 = true then (some true) else (none)))))) = some r := H
   have A11 := Aside0.mk A110
   clear A110
   by_cases c12 : (t684 != t670) = true
   ·rw [if_pos c12] at H
    exact absurd H (by simp)
   ·rw [if_neg c12] at H
    have c12b0 : (t684 != t670) = false := by simpa using c12
    (try (have c12b1 : decide (t684 = t670) = true := by simpa using c12))
    (try (have c12b2 : (t684 == t670) = true := by simpa using c12))
    clear c12
    by_cases c13 : (t685 != t671) = true
    ·rw [if_pos c13] at H
     exact absurd H (by simp)
    ·rw [if_neg c13] at H
     have c13b0 : (t685 != t671) = false := by simpa using c13
     (try (have c13b1 : decide (t685 = t671) = true := by simpa using c13))
     (try (have c13b2 : (t685 == t671) = true := by simpa using c13))
     clear c13
     replace H := Option.bind_eq_some_iff.mp H
     obtain ⟨⟨t686, t687, t688, t689, t690, t693, t694⟩, A140, H⟩ := H
     replace H : ((laws_eqSparse.f k t672 t673 t674 t675 t676 t679 t680 t686 t687 t688 t689 t690 t693 t694).bind fun t697 => (if t697 = true then (some true) else (none))) = some r := H
     have A14 := Aside0.mk A140
     clear A140
     replace H := Option.bind_eq_some_iff.mp H
     obtain ⟨t697, A150, H⟩ := H
     replace H : (if t697 = true then (some true) else (none)) = some r := H
     have A15 := Aside0.mk A150
     clear A150
     by_cases c16 : t697 = true
     ·subst c16
      have H1 : (some true) = some r := by rw [if_pos rfl] at H; exact H
      clear H
      have H := H1
      clear H1
      obtain rfl := Option.some.inj H
      go_enter Try.func8, Try.ntmps8
      try go_wp2_with (first | ((with_reducible refine gate_dst (N := 2) rfl ?_); refine box_event ?hg (N := 2) ?hd (cs := #[.int .i64 a0_0, .int .i64 a0_1, .int .i64 a0_2, .int .i64 a0_3, .slice A0_4 l0_4.length c0_4, .int .i64 a0_5, .slice A0_6 l0_6.length c0_6]) (t := 37) ?hr ?_; (case hd => rfl); (case hg => rfl); (case hr => first | (go_simp; done) | (go_simp; rfl)); intro gb657 hg w17 hbox hb; have n0_ := Aside0.mk (below_step (by repeat (first | (with_reducible first | exact HB.out | apply below_alloc | apply pw_below_drewN | apply below_drew1) | exact HB.out)) hb); have n1_ := Aside0.mk (hbox); have n2_ := Aside0.mk ((by rw [hg]; exact (below_size (by repeat (first | (with_reducible first | exact HB.out | apply below_alloc | apply pw_below_drewN | apply below_drew1) | exact HB.out))) : w.heap.size ≤ gb657)); have n3_ := Aside0.mk ((by rw [hg]; exact (below_size (by repeat (first | (with_reducible first | exact HB.out | apply below_alloc | apply pw_below_drewN | apply below_drew1) | exact HB.out))) : w.heap.size ≤ gb657)); clear HB; have HB := n0_; have BK657 := n1_; have GW657 := n2_; have GE657 := n3_; clear n0_ n1_ n2_ n3_; clear hb hbox hg; have hcz18_0 : w17.cell? ⟨gb657, 0, none⟩ = some (.int .i64 a0_0) := (blk_cell BK657.out 0).trans rfl; have hcz18_1 : w17.cell? ⟨gb657, 1, none⟩ = some (.int .i64 a0_1) := (blk_cell BK657.out 1).trans rfl; have hcz18_2 : w17.cell? ⟨gb657, 2, none⟩ = some (.int .i64 a0_2) := (blk_cell BK657.out 2).trans rfl; have hcz18_3 : w17.cell? ⟨gb657, 3, none⟩ = some (.int .i64 a0_3) := (blk_cell BK657.out 3).trans rfl; have hcz18_4 : w17.cell? ⟨gb657, 4, none⟩ = some (.slice A0_4 l0_4.length c0_4) := (blk_cell BK657.out 4).trans rfl; have hcz18_5 : w17.cell? ⟨gb657, 5, none⟩ = some (.int .i64 a0_5) := (blk_cell BK657.out 5).trans rfl; have hcz18_6 : w17.cell? ⟨gb657, 6, none⟩ = some (.slice A0_6 l0_6.length c0_6) := (blk_cell BK657.out 6).trans rfl; have hfz18_0 := blk_frozen BK657.out 0; have hfz18_1 := blk_frozen BK657.out 1; have hfz18_2 := blk_frozen BK657.out 2; have hfz18_3 := blk_frozen BK657.out 3; have hfz18_4 := blk_frozen BK657.out 4; have hfz18_5 := blk_frozen BK657.out 5; have hfz18_6 := blk_frozen BK657.out 6) | ((with_reducible refine gate_callee (f := 24) rfl ?_); refine goesL_ (some 13) rfl rfl Try.func24 (by kernel_rfl) rfl #[.agg #[.int .i64 a0_0, .int .i64 a0_1, .int .i64 a0_2, .int .i64 a0_3, .slice A0_4 l0_4.length c0_4, .int .i64 a0_5, .slice A0_6 l0_6.length c0_6], .int .i64 1048576] rfl (by (try simp only [List.map_toArray, List.map_cons, List.map_nil]); first | done | rfl | (simp only [List.length_drop, List.length_take]; rfl)) ?_; (with_reducible refine (laws_szSparse.calls a0_0 a0_1 a0_2 a0_3 _ _ l0_4 a0_5 _ _ l0_6 1048576 t658 _ ?side1 ?side2 ?side3 ?side4 A3.out).mono ?_); (case side1 => repeat (first | exact (Kd.C_below HR0_4.out HB.out) | (with_reducible refine Kd.C_alloc ?_ _) | (with_reducible refine Kd.C_drewN ?_ _) | (with_reducible refine Kd.C_drew ?_))); (case side2 => exact HC0_4.out); (case side3 => repeat (first | exact (Kd.C_below HR0_6.out HB.out) | (with_reducible refine Kd.C_alloc ?_ _) | (with_reducible refine Kd.C_drewN ?_ _) | (with_reducible refine Kd.C_drew ?_))); (case side4 => exact HC0_6.out); rintro e w19 ⟨rfl, hb⟩; refine ⟨_, rfl, ?_⟩; have n0_ := Aside0.mk (blk_below (g := gb657) (o := .cells #[.int .i64 a0_0, .int .i64 a0_1, .int .i64 a0_2, .int .i64 a0_3, .slice A0_4 l0_4.length c0_4, .int .i64 a0_5, .slice A0_6 l0_6.length c0_6] 37 (0, 0)) (by (with_reducible repeat (first | refine blk_drewN ?_ _ | refine blk_drew ?_ | refine blk_alloc ?_ _)); exact BK657.out) hb); have n1_ := Aside0.mk (below_step (by repeat (first | (with_reducible first | exact HB.out | apply below_alloc | apply pw_below_drewN | apply below_drew1 | refine below_set ?_ GE657.out) | exact HB.out)) hb); clear BK657; clear HB; have BK657 := n0_; have HB := n1_; clear n0_ n1_; (try clear hb); (try clear hb2); (try clear hk); (try clear hi); have hcz20_0 : w19.cell? ⟨gb657, 0, none⟩ = some (.int .i64 a0_0) := (blk_cell BK657.out 0).trans rfl; have hcz20_1 : w19.cell? ⟨gb657, 1, none⟩ = some (.int .i64 a0_1) := (blk_cell BK657.out 1).trans rfl; have hcz20_2 : w19.cell? ⟨gb657, 2, none⟩ = some (.int .i64 a0_2) := (blk_cell BK657.out 2).trans rfl; have hcz20_3 : w19.cell? ⟨gb657, 3, none⟩ = some (.int .i64 a0_3) := (blk_cell BK657.out 3).trans rfl; have hcz20_4 : w19.cell? ⟨gb657, 4, none⟩ = some (.slice A0_4 l0_4.length c0_4) := (blk_cell BK657.out 4).trans rfl; have hcz20_5 : w19.cell? ⟨gb657, 5, none⟩ = some (.int .i64 a0_5) := (blk_cell BK657.out 5).trans rfl; have hcz20_6 : w19.cell? ⟨gb657, 6, none⟩ = some (.slice A0_6 l0_6.length c0_6) := (blk_cell BK657.out 6).trans rfl; have hfz20_0 := blk_frozen BK657.out 0; have hfz20_1 := blk_frozen BK657.out 1; have hfz20_2 := blk_frozen BK657.out 2; have hfz20_3 := blk_frozen BK657.out 3; have hfz20_4 := blk_frozen BK657.out 4; have hfz20_5 := blk_frozen BK657.out 5; have hfz20_6 := blk_frozen BK657.out 6) | ((with_reducible refine gate_callee (f := 26) rfl ?_); refine goesL_ (some 18) rfl rfl Try.func26 (by kernel_rfl) rfl #[.agg #[.int .i64 a0_0, .int .i64 a0_1, .int .i64 a0_2, .int .i64 a0_3, .slice A0_4 l0_4.length c0_4, .int .i64 a0_5, .slice A0_6 l0_6.length c0_6]] rfl (by (try simp only [List.map_toArray, List.map_cons, List.map_nil]); first | done | rfl | (simp only [List.length_drop, List.length_take]; rfl)) ?_; (with_reducible refine (laws_toSparse.calls k a0_0 a0_1 a0_2 a0_3 _ _ l0_4 a0_5 _ _ l0_6 t659 t660 t661 t662 t663 t666 t667 _ ?side1 ?side2 ?side3 ?side4 A8.out).mono ?_); (case side1 => repeat (first | exact (Kd.C_below HR0_4.out HB.out) | (with_reducible refine Kd.C_alloc ?_ _) | (with_reducible refine Kd.C_drewN ?_ _) | (with_reducible refine Kd.C_drew ?_))); (case side2 => exact HC0_4.out); (case side3 => repeat (first | exact (Kd.C_below HR0_6.out HB.out) | (with_reducible refine Kd.C_alloc ?_ _) | (with_reducible refine Kd.C_drewN ?_ _) | (with_reducible refine Kd.C_drew ?_))); (case side4 => exact HC0_6.out); rintro e w21 ⟨v664, v668, rfl, ho0, ho1, hb⟩; refine ⟨_, rfl, ?_⟩; have n0_ := Aside0.mk (Kd.R_lower ho0 (below_size (by repeat (first | (with_reducible first | exact HB.out | apply below_alloc | apply pw_below_drewN | apply below_drew1 | refine below_set ?_ GE657.out) | exact HB.out)))); have n1_ := Aside0.mk (Kd.R_lower ho1 (below_size (by repeat (first | (with_reducible first | exact HB.out | apply below_alloc | apply pw_below_drewN | apply below_drew1 | refine below_set ?_ GE657.out) | exact HB.out)))); have n2_ := Aside0.mk (blk_below (g := gb657) (o := .cells #[.int .i64 a0_0, .int .i64 a0_1, .int .i64 a0_2, .int .i64 a0_3, .slice A0_4 l0_4.length c0_4, .int .i64 a0_5, .slice A0_6 l0_6.length c0_6] 37 (0, 0)) (by (with_reducible repeat (first | refine blk_drewN ?_ _ | refine blk_drew ?_ | refine blk_alloc ?_ _)); exact BK657.out) hb); have n3_ := Aside0.mk (below_step (by repeat (first | (with_reducible first | exact HB.out | apply below_alloc | apply pw_below_drewN | apply below_drew1 | refine below_set ?_ GE657.out) | exact HB.out)) hb); clear BK657; clear HB; have HO665 := n0_; have HO669 := n1_; have BK657 := n2_; have HB := n3_; clear n0_ n1_ n2_ n3_; (try clear hb); (try clear hb2); (try clear hk); (try clear hi); (try clear ho0); (try clear ho1); obtain ⟨Ao22, co22, eo22⟩ := Kd.R_slice HO665.out; subst eo22; obtain ⟨Ao23, co23, eo23⟩ := Kd.R_slice HO669.out; subst eo23) | ((with_reducible refine gate_callee (f := 35) rfl ?_); refine goesL_ (some 20) rfl rfl Try.func35 (by kernel_rfl) rfl #[.agg #[.int .i64 t659, .int .i64 t660, .int .i64 t661, .int .i64 t662, .slice Ao22 t663.length co22, .int .i64 t666, .slice Ao23 t667.length co23], .int .i64 a1] rfl (by (try simp only [List.map_toArray, List.map_cons, List.map_nil]); first | done | rfl | (simp only [List.length_drop, List.length_take]; rfl)) ?_; (with_reducible refine (spec_HasNumber.calls k t659 t660 t661 t662 _ _ t663 t666 _ _ t667 a1 t670 t671 _ ?side1 ?side2 ?side3 ?side4 A9.out).mono ?_); (case side1 => repeat (first | exact (Kd.R_reads' HO665.out).2.2 | (with_reducible refine Kd.C_alloc ?_ _) | (with_reducible refine Kd.C_drewN ?_ _) | (with_reducible refine Kd.C_drew ?_))); (case side2 => exact (Kd.R_reads' HO665.out).2.1); (case side3 => repeat (first | exact (Kd.R_reads' HO669.out).2.2 | (with_reducible refine Kd.C_alloc ?_ _) | (with_reducible refine Kd.C_drewN ?_ _) | (with_reducible refine Kd.C_drew ?_))); (case side4 => exact (Kd.R_reads' HO669.out).2.1); rintro e w24 ⟨rfl, hb⟩; refine ⟨_, rfl, ?_⟩; have n0_ := Aside0.mk (Kd.R_below (by (with_reducible repeat (first | apply Kd.R_alloc | apply Kd.R_drewN | apply Kd.R_drew)); exact HO665.out) hb); have n1_ := Aside0.mk (Kd.R_below (by (with_reducible repeat (first | apply Kd.R_alloc | apply Kd.R_drewN | apply Kd.R_drew)); exact HO669.out) hb); have n2_ := Aside0.mk (blk_below (g := gb657) (o := .cells #[.int .i64 a0_0, .int .i64 a0_1, .int .i64 a0_2, .int .i64 a0_3, .slice A0_4 l0_4.length c0_4, .int .i64 a0_5, .slice A0_6 l0_6.length c0_6] 37 (0, 0)) (by (with_reducible repeat (first | refine blk_drewN ?_ _ | refine blk_drew ?_ | refine blk_alloc ?_ _)); exact BK657.out) hb); have n3_ := Aside0.mk (below_step (by repeat (first | (with_reducible first | exact HB.out | apply below_alloc | apply pw_below_drewN | apply below_drew1 | refine below_set ?_ GE657.out) | exact HB.out)) hb); clear HO665; clear HO669; clear BK657; clear HB; have HO665 := n0_; have HO669 := n1_; have BK657 := n2_; have HB := n3_; clear n0_ n1_ n2_ n3_; (try clear hb); (try clear hb2); (try clear hk); (try clear hi); have hcz25_0 : w24.cell? ⟨gb657, 0, none⟩ = some (.int .i64 a0_0) := (blk_cell BK657.out 0).trans rfl; have hcz25_1 : w24.cell? ⟨gb657, 1, none⟩ = some (.int .i64 a0_1) := (blk_cell BK657.out 1).trans rfl; have hcz25_2 : w24.cell? ⟨gb657, 2, none⟩ = some (.int .i64 a0_2) := (blk_cell BK657.out 2).trans rfl; have hcz25_3 : w24.cell? ⟨gb657, 3, none⟩ = some (.int .i64 a0_3) := (blk_cell BK657.out 3).trans rfl; have hcz25_4 : w24.cell? ⟨gb657, 4, none⟩ = some (.slice A0_4 l0_4.length c0_4) := (blk_cell BK657.out 4).trans rfl; have hcz25_5 : w24.cell? ⟨gb657, 5, none⟩ = some (.int .i64 a0_5) := (blk_cell BK657.out 5).trans rfl; have hcz25_6 : w24.cell? ⟨gb657, 6, none⟩ = some (.slice A0_6 l0_6.length c0_6) := (blk_cell BK657.out 6).trans rfl; have hfz25_0 := blk_frozen BK657.out 0; have hfz25_1 := blk_frozen BK657.out 1; have hfz25_2 := blk_frozen BK657.out 2; have hfz25_3 := blk_frozen BK657.out 3; have hfz25_4 := blk_frozen BK657.out 4; have hfz25_5 := blk_frozen BK657.out 5; have hfz25_6 := blk_frozen BK657.out 6) | ((with_reducible refine gate_callee (f := 26) rfl ?_); refine goesL_ (some 24) rfl rfl Try.func26 (by kernel_rfl) rfl #[.agg #[.int .i64 a0_0, .int .i64 a0_1, .int .i64 a0_2, .int .i64 a0_3, .slice A0_4 l0_4.length c0_4, .int .i64 a0_5, .slice A0_6 l0_6.length c0_6]] rfl (by (try simp only [List.map_toArray, List.map_cons, List.map_nil]); first | done | rfl | (simp only [List.length_drop, List.length_take]; rfl)) ?_; (with_reducible refine (laws_toSparse.calls k a0_0 a0_1 a0_2 a0_3 _ _ l0_4 a0_5 _ _ l0_6 t672 t673 t674 t675 t676 t679 t680 _ ?side1 ?side2 ?side3 ?side4 A10.out).mono ?_); (case side1 => repeat (first | exact (Kd.C_below HR0_4.out HB.out) | (with_reducible refine Kd.C_alloc ?_ _) | (with_reducible refine Kd.C_drewN ?_ _) | (with_reducible refine Kd.C_drew ?_))); (case side2 => exact HC0_4.out); (case side3 => repeat (first | exact (Kd.C_below HR0_6.out HB.out) | (with_reducible refine Kd.C_alloc ?_ _) | (with_reducible refine Kd.C_drewN ?_ _) | (with_reducible refine Kd.C_drew ?_))); (case side4 => exact HC0_6.out); rintro e w26 ⟨v677, v681, rfl, ho0, ho1, hb⟩; refine ⟨_, rfl, ?_⟩; have n0_ := Aside0.mk (Kd.R_mono (Kd.R_told (Kd.R_told (Kd.R_old (by (with_reducible repeat (first | apply Kd.R_alloc | apply Kd.R_drewN | apply Kd.R_drew)); exact HO665.out) hb) (Kd.R_base ho0)) (Kd.R_base ho1)) (fun _ h_ => h_.1)); have n1_ := Aside0.mk (Kd.R_mono (Kd.R_told (Kd.R_told (Kd.R_old (by (with_reducible repeat (first | apply Kd.R_alloc | apply Kd.R_drewN | apply Kd.R_drew)); exact HO669.out) hb) (Kd.R_base ho0)) (Kd.R_base ho1)) (fun _ h_ => h_.1)); have n2_ := Aside0.mk (Kd.R_lower (Kd.R_new' (Kd.R_new' ho0 (Kd.R_lt (by (with_reducible repeat (first | apply Kd.R_alloc | apply Kd.R_drewN | apply Kd.R_drew)); exact HO665.out))) (Kd.R_lt (by (with_reducible repeat (first | apply Kd.R_alloc | apply Kd.R_drewN | apply Kd.R_drew)); exact HO669.out))) (below_size (by repeat (first | (with_reducible first | exact HB.out | apply below_alloc | apply pw_below_drewN | apply below_drew1 | refine below_set ?_ GE657.out) | exact HB.out)))); have n3_ := Aside0.mk (Kd.R_lower (Kd.R_new' (Kd.R_new' ho1 (Kd.R_lt (by (with_reducible repeat (first | apply Kd.R_alloc | apply Kd.R_drewN | apply Kd.R_drew)); exact HO665.out))) (Kd.R_lt (by (with_reducible repeat (first | apply Kd.R_alloc | apply Kd.R_drewN | apply Kd.R_drew)); exact HO669.out))) (below_size (by repeat (first | (with_reducible first | exact HB.out | apply below_alloc | apply pw_below_drewN | apply below_drew1 | refine below_set ?_ GE657.out) | exact HB.out)))); have n4_ := Aside0.mk (blk_below (g := gb657) (o := .cells #[.int .i64 a0_0, .int .i64 a0_1, .int .i64 a0_2, .int .i64 a0_3, .slice A0_4 l0_4.length c0_4, .int .i64 a0_5, .slice A0_6 l0_6.length c0_6] 37 (0, 0)) (by (with_reducible repeat (first | refine blk_drewN ?_ _ | refine blk_drew ?_ | refine blk_alloc ?_ _)); exact BK657.out) hb); have n5_ := Aside0.mk (below_step (by repeat (first | (with_reducible first | exact HB.out | apply below_alloc | apply pw_below_drewN | apply below_drew1 | refine below_set ?_ GE657.out) | exact HB.out)) hb); clear HO665; clear HO669; clear BK657; clear HB; have HO665 := n0_; have HO669 := n1_; have HO678 := n2_; have HO682 := n3_; have BK657 := n4_; have HB := n5_; clear n0_ n1_ n2_ n3_ n4_ n5_; (try clear hb); (try clear hb2); (try clear hk); (try clear hi); (try clear ho0); (try clear ho1)) | ((with_reducible refine gate_dst (N := 8) rfl ?_); refine box_event ?hg (N := 8) ?hd (cs := #[.int .i64 0, .int .i64 0, .int .i64 0, .int .i64 0, .slice none 0 0, .int .i64 0, .slice none 0 0]) (t := 26) ?hr ?_; (case hd => rfl); (case hg => rfl); (case hr => first | (go_simp; done) | (go_simp; rfl)); intro gb683 hg w27 hbox hb; have n0_ := Aside0.mk (Kd.R_below (by (with_reducible repeat (first | apply Kd.R_alloc | apply Kd.R_drewN | apply Kd.R_drew)); exact HO665.out) hb); have n1_ := Aside0.mk (Kd.R_below (by (with_reducible repeat (first | apply Kd.R_alloc | apply Kd.R_drewN | apply Kd.R_drew)); exact HO669.out) hb); have n2_ := Aside0.mk (Kd.R_below (by (with_reducible repeat (first | apply Kd.R_alloc | apply Kd.R_drewN | apply Kd.R_drew)); exact HO678.out) hb); have n3_ := Aside0.mk (Kd.R_below (by (with_reducible repeat (first | apply Kd.R_alloc | apply Kd.R_drewN | apply Kd.R_drew)); exact HO682.out) hb); have n4_ := Aside0.mk (blk_below (g := gb657) (o := .cells #[.int .i64 a0_0, .int .i64 a0_1, .int .i64 a0_2, .int .i64 a0_3, .slice A0_4 l0_4.length c0_4, .int .i64 a0_5, .slice A0_6 l0_6.length c0_6] 37 (0, 0)) (by (with_reducible repeat (first | refine blk_drewN ?_ _ | refine blk_drew ?_ | refine blk_alloc ?_ _)); exact BK657.out) hb); have n5_ := Aside0.mk (below_step (by repeat (first | (with_reducible first | exact HB.out | apply below_alloc | apply pw_below_drewN | apply below_drew1 | refine below_set ?_ GE657.out) | exact HB.out)) hb); have n6_ := Aside0.mk (hbox); have n7_ := Aside0.mk ((by rw [hg]; exact (below_size (by repeat (first | (with_reducible first | exact HB.out | apply below_alloc | apply pw_below_drewN | apply below_drew1 | refine below_set ?_ GE657.out) | exact HB.out))) : w.heap.size ≤ gb683)); have n8_ := Aside0.mk ((by rw [hg]; exact (below_size (by repeat (first | (with_reducible first | exact HB.out | apply below_alloc | apply pw_below_drewN | apply below_drew1 | refine below_set ?_ GE657.out) | exact HB.out))) : w.heap.size ≤ gb683)); have n9_ := Aside0.mk ((by rw [hg]; exact Nat.ne_of_lt (blk_lt (g := gb657) (o := .cells #[.int .i64 a0_0, .int .i64 a0_1, .int .i64 a0_2, .int .i64 a0_3, .slice A0_4 l0_4.length c0_4, .int .i64 a0_5, .slice A0_6 l0_6.length c0_6] 37 (0, 0)) (by (with_reducible repeat (first | refine blk_drewN ?_ _ | refine blk_drew ?_ | refine blk_alloc ?_ _)); exact BK657.out)) : gb657 ≠ gb683)); have n10_ := Aside0.mk ((by rw [hg]; exact Nat.ne_of_gt (blk_lt (g := gb657) (o := .cells #[.int .i64 a0_0, .int .i64 a0_1, .int .i64 a0_2, .int .i64 a0_3, .slice A0_4 l0_4.length c0_4, .int .i64 a0_5, .slice A0_6 l0_6.length c0_6] 37 (0, 0)) (by (with_reducible repeat (first | refine blk_drewN ?_ _ | refine blk_drew ?_ | refine blk_alloc ?_ _)); exact BK657.out)) : gb683 ≠ gb657)); clear HO665; clear HO669; clear HO678; clear HO682; clear BK657; clear HB; have HO665 := n0_; have HO669 := n1_; have HO678 := n2_; have HO682 := n3_; have BK657 := n4_; have HB := n5_; have BK683 := n6_; have GW683 := n7_; have GE683 := n8_; have NB657_683 := n9_; have NB683_657 := n10_; clear n0_ n1_ n2_ n3_ n4_ n5_ n6_ n7_ n8_ n9_ n10_; clear hb hbox hg; have hnb28 := NB683_657.out; have hnc28 := NB657_683.out; have hcz29_0 : w27.cell? ⟨gb683, 0, none⟩ = some (.int .i64 0) := (blk_cell BK683.out 0).trans rfl; have hcz29_1 : w27.cell? ⟨gb683, 1, none⟩ = some (.int .i64 0) := (blk_cell BK683.out 1).trans rfl; have hcz29_2 : w27.cell? ⟨gb683, 2, none⟩ = some (.int .i64 0) := (blk_cell BK683.out 2).trans rfl; have hcz29_3 : w27.cell? ⟨gb683, 3, none⟩ = some (.int .i64 0) := (blk_cell BK683.out 3).trans rfl; have hcz29_4 : w27.cell? ⟨gb683, 4, none⟩ = some (.slice none 0 0) := (blk_cell BK683.out 4).trans rfl; have hcz29_5 : w27.cell? ⟨gb683, 5, none⟩ = some (.int .i64 0) := (blk_cell BK683.out 5).trans rfl; have hcz29_6 : w27.cell? ⟨gb683, 6, none⟩ = some (.slice none 0 0) := (blk_cell BK683.out 6).trans rfl; have hfz29_0 := blk_frozen BK683.out 0; have hfz29_1 := blk_frozen BK683.out 1; have hfz29_2 := blk_frozen BK683.out 2; have hfz29_3 := blk_frozen BK683.out 3; have hfz29_4 := blk_frozen BK683.out 4; have hfz29_5 := blk_frozen BK683.out 5; have hfz29_6 := blk_frozen BK683.out 6; obtain ⟨Ao30, co30, eo30⟩ := Kd.R_slice HO678.out; subst eo30; obtain ⟨Ao31, co31, eo31⟩ := Kd.R_slice HO682.out; subst eo31) | ((with_reducible refine gate_callee (f := 36) rfl ?_); refine goesL_ (some 28) rfl rfl Try.func36 (by kernel_rfl) rfl #[.agg #[.int .i64 t672, .int .i64 t673, .int .i64 t674, .int .i64 t675, .slice Ao30 t676.length co30, .int .i64 t679, .slice Ao31 t680.length co31], .int .i64 a1] rfl (by (try simp only [List.map_toArray, List.map_cons, List.map_nil]); first | done | rfl | (simp only [List.length_drop, List.length_take]; rfl)) ?_; (with_reducible refine (impl_HasNumber.calls k t672 t673 t674 t675 _ _ t676 t679 _ _ t680 a1 t684 t685 _ ?side1 ?side2 ?side3 ?side4 A11.out).mono ?_); (case side1 => refine (Kd.R_reads' (e := 3) (base := w.heap.size) (ok := fun k_ => ((some k_ ≠ (.slice Ao31 t680.length co31 : Value).ownBlock ∧ some k_ ≠ (.slice Ao22 t663.length co22 : Value).ownBlock) ∧ some k_ ≠ (.slice Ao23 t667.length co23 : Value).ownBlock)) (n := t676.length) (c := co30) ?_).2.2; exact (by (with_reducible repeat (first | apply Kd.R_alloc | apply Kd.R_drewN | apply Kd.R_drew)); exact (Kd.R_mono (Kd.R_far (p := ⟨gb683, 6, none⟩) (Kd.R_far (p := ⟨gb683, 5, none⟩) (Kd.R_far (p := ⟨gb683, 4, none⟩) (Kd.R_far (p := ⟨gb683, 3, none⟩) (Kd.R_far (p := ⟨gb683, 2, none⟩) (Kd.R_far (p := ⟨gb683, 1, none⟩) (Kd.R_far (p := ⟨gb683, 0, none⟩) (Kd.R_types HO678.out BK683.out (by decide)) (fun _ hk => hk.2) (.int .i64 t672)) (fun _ hk => hk.2) (.int .i64 t673)) (fun _ hk => hk.2) (.int .i64 t674)) (fun _ hk => hk.2) (.int .i64 t675)) (fun _ hk => hk.2) (.slice Ao30 t676.length co30)) (fun _ hk => hk.2) (.int .i64 t679)) (fun _ hk => hk.2) (.slice Ao31 t680.length co31)) (fun _ h_ => h_.1)))); (case side2 => exact (Kd.R_reads' HO678.out).2.1); (case side3 => refine (Kd.R_reads' (e := 3) (base := w.heap.size) (ok := fun k_ => ((some k_ ≠ (.slice Ao30 t676.length co30 : Value).ownBlock ∧ some k_ ≠ (.slice Ao22 t663.length co22 : Value).ownBlock) ∧ some k_ ≠ (.slice Ao23 t667.length co23 : Value).ownBlock)) (n := t680.length) (c := co31) ?_).2.2; exact (by (with_reducible repeat (first | apply Kd.R_alloc | apply Kd.R_drewN | apply Kd.R_drew)); exact (Kd.R_mono (Kd.R_far (p := ⟨gb683, 6, none⟩) (Kd.R_far (p := ⟨gb683, 5, none⟩) (Kd.R_far (p := ⟨gb683, 4, none⟩) (Kd.R_far (p := ⟨gb683, 3, none⟩) (Kd.R_far (p := ⟨gb683, 2, none⟩) (Kd.R_far (p := ⟨gb683, 1, none⟩) (Kd.R_far (p := ⟨gb683, 0, none⟩) (Kd.R_types HO682.out BK683.out (by decide)) (fun _ hk => hk.2) (.int .i64 t672)) (fun _ hk => hk.2) (.int .i64 t673)) (fun _ hk => hk.2) (.int .i64 t674)) (fun _ hk => hk.2) (.int .i64 t675)) (fun _ hk => hk.2) (.slice Ao30 t676.length co30)) (fun _ hk => hk.2) (.int .i64 t679)) (fun _ hk => hk.2) (.slice Ao31 t680.length co31)) (fun _ h_ => h_.1)))); (case side4 => exact (Kd.R_reads' HO682.out).2.1); rintro e w32 ⟨rfl, hb⟩; refine ⟨_, rfl, ?_⟩; have n0_ := Aside0.mk (Kd.R_below (by (with_reducible repeat (first | apply Kd.R_alloc | apply Kd.R_drewN | apply Kd.R_drew)); exact (Kd.R_mono (Kd.R_far (p := ⟨gb683, 6, none⟩) (Kd.R_far (p := ⟨gb683, 5, none⟩) (Kd.R_far (p := ⟨gb683, 4, none⟩) (Kd.R_far (p := ⟨gb683, 3, none⟩) (Kd.R_far (p := ⟨gb683, 2, none⟩) (Kd.R_far (p := ⟨gb683, 1, none⟩) (Kd.R_far (p := ⟨gb683, 0, none⟩) (Kd.R_types HO665.out BK683.out (by decide)) (fun _ hk => hk.2) (.int .i64 t672)) (fun _ hk => hk.2) (.int .i64 t673)) (fun _ hk => hk.2) (.int .i64 t674)) (fun _ hk => hk.2) (.int .i64 t675)) (fun _ hk => hk.2) (.slice Ao30 t676.length co30)) (fun _ hk => hk.2) (.int .i64 t679)) (fun _ hk => hk.2) (.slice Ao31 t680.length co31)) (fun _ h_ => h_.1))) hb); have n1_ := Aside0.mk (Kd.R_below (by (with_reducible repeat (first | apply Kd.R_alloc | apply Kd.R_drewN | apply Kd.R_drew)); exact (Kd.R_mono (Kd.R_far (p := ⟨gb683, 6, none⟩) (Kd.R_far (p := ⟨gb683, 5, none⟩) (Kd.R_far (p := ⟨gb683, 4, none⟩) (Kd.R_far (p := ⟨gb683, 3, none⟩) (Kd.R_far (p := ⟨gb683, 2, none⟩) (Kd.R_far (p := ⟨gb683, 1, none⟩) (Kd.R_far (p := ⟨gb683, 0, none⟩) (Kd.R_types HO669.out BK683.out (by decide)) (fun _ hk => hk.2) (.int .i64 t672)) (fun _ hk => hk.2) (.int .i64 t673)) (fun _ hk => hk.2) (.int .i64 t674)) (fun _ hk => hk.2) (.int .i64 t675)) (fun _ hk => hk.2) (.slice Ao30 t676.length co30)) (fun _ hk => hk.2) (.int .i64 t679)) (fun _ hk => hk.2) (.slice Ao31 t680.length co31)) (fun _ h_ => h_.1))) hb); have n2_ := Aside0.mk (Kd.R_below (by (with_reducible repeat (first | apply Kd.R_alloc | apply Kd.R_drewN | apply Kd.R_drew)); exact (Kd.R_mono (Kd.R_far (p := ⟨gb683, 6, none⟩) (Kd.R_far (p := ⟨gb683, 5, none⟩) (Kd.R_far (p := ⟨gb683, 4, none⟩) (Kd.R_far (p := ⟨gb683, 3, none⟩) (Kd.R_far (p := ⟨gb683, 2, none⟩) (Kd.R_far (p := ⟨gb683, 1, none⟩) (Kd.R_far (p := ⟨gb683, 0, none⟩) (Kd.R_types HO678.out BK683.out (by decide)) (fun _ hk => hk.2) (.int .i64 t672)) (fun _ hk => hk.2) (.int .i64 t673)) (fun _ hk => hk.2) (.int .i64 t674)) (fun _ hk => hk.2) (.int .i64 t675)) (fun _ hk => hk.2) (.slice Ao30 t676.length co30)) (fun _ hk => hk.2) (.int .i64 t679)) (fun _ hk => hk.2) (.slice Ao31 t680.length co31)) (fun _ h_ => h_.1))) hb); have n3_ := Aside0.mk (Kd.R_below (by (with_reducible repeat (first | apply Kd.R_alloc | apply Kd.R_drewN | apply Kd.R_drew)); exact (Kd.R_mono (Kd.R_far (p := ⟨gb683, 6, none⟩) (Kd.R_far (p := ⟨gb683, 5, none⟩) (Kd.R_far (p := ⟨gb683, 4, none⟩) (Kd.R_far (p := ⟨gb683, 3, none⟩) (Kd.R_far (p := ⟨gb683, 2, none⟩) (Kd.R_far (p := ⟨gb683, 1, none⟩) (Kd.R_far (p := ⟨gb683, 0, none⟩) (Kd.R_types HO682.out BK683.out (by decide)) (fun _ hk => hk.2) (.int .i64 t672)) (fun _ hk => hk.2) (.int .i64 t673)) (fun _ hk => hk.2) (.int .i64 t674)) (fun _ hk => hk.2) (.int .i64 t675)) (fun _ hk => hk.2) (.slice Ao30 t676.length co30)) (fun _ hk => hk.2) (.int .i64 t679)) (fun _ hk => hk.2) (.slice Ao31 t680.length co31)) (fun _ h_ => h_.1))) hb); have n4_ := Aside0.mk (blk_below (g := gb657) (o := .cells #[.int .i64 a0_0, .int .i64 a0_1, .int .i64 a0_2, .int .i64 a0_3, .slice A0_4 l0_4.length c0_4, .int .i64 a0_5, .slice A0_6 l0_6.length c0_6] 37 (0, 0)) (by (with_reducible repeat (first | refine blk_drewN ?_ _ | refine blk_drew ?_ | refine blk_alloc ?_ _)); refine blk_far ?_ NB657_683.out _; (with_reducible repeat (first | refine blk_drewN ?_ _ | refine blk_drew ?_ | refine blk_alloc ?_ _)); refine blk_far ?_ NB657_683.out _; (with_reducible repeat (first | refine blk_drewN ?_ _ | refine blk_drew ?_ | refine blk_alloc ?_ _)); refine blk_far ?_ NB657_683.out _; (with_reducible repeat (first | refine blk_drewN ?_ _ | refine blk_drew ?_ | refine blk_alloc ?_ _)); refine blk_far ?_ NB657_683.out _; (with_reducible repeat (first | refine blk_drewN ?_ _ | refine blk_drew ?_ | refine blk_alloc ?_ _)); refine blk_far ?_ NB657_683.out _; (with_reducible repeat (first | refine blk_drewN ?_ _ | refine blk_drew ?_ | refine blk_alloc ?_ _)); refine blk_far ?_ NB657_683.out _; (with_reducible repeat (first | refine blk_drewN ?_ _ | refine blk_drew ?_ | refine blk_alloc ?_ _)); refine blk_far ?_ NB657_683.out _; (with_reducible repeat (first | refine blk_drewN ?_ _ | refine blk_drew ?_ | refine blk_alloc ?_ _)); exact BK657.out) hb); have n5_ := Aside0.mk (blk_below (g := gb683) (o := .cells #[.int .i64 t672, .int .i64 t673, .int .i64 t674, .int .i64 t675, .slice Ao30 t676.length co30, .int .i64 t679, .slice Ao31 t680.length co31] 26 (0, 0)) (by (with_reducible repeat (first | refine blk_drewN ?_ _ | refine blk_drew ?_ | refine blk_alloc ?_ _)); refine blk_put (cs := #[.int .i64 t672, .int .i64 t673, .int .i64 t674, .int .i64 t675, .slice Ao30 t676.length co30, .int .i64 t679, .slice none 0 0]) ?_ 6 _ rfl; (with_reducible repeat (first | refine blk_drewN ?_ _ | refine blk_drew ?_ | refine blk_alloc ?_ _)); refine blk_put (cs := #[.int .i64 t672, .int .i64 t673, .int .i64 t674, .int .i64 t675, .slice Ao30 t676.length co30, .int .i64 0, .slice none 0 0]) ?_ 5 _ rfl; (with_reducible repeat (first | refine blk_drewN ?_ _ | refine blk_drew ?_ | refine blk_alloc ?_ _)); refine blk_put (cs := #[.int .i64 t672, .int .i64 t673, .int .i64 t674, .int .i64 t675, .slice none 0 0, .int .i64 0, .slice none 0 0]) ?_ 4 _ rfl; (with_reducible repeat (first | refine blk_drewN ?_ _ | refine blk_drew ?_ | refine blk_alloc ?_ _)); refine blk_put (cs := #[.int .i64 t672, .int .i64 t673, .int .i64 t674, .int .i64 0, .slice none 0 0, .int .i64 0, .slice none 0 0]) ?_ 3 _ rfl; (with_reducible repeat (first | refine blk_drewN ?_ _ | refine blk_drew ?_ | refine blk_alloc ?_ _)); refine blk_put (cs := #[.int .i64 t672, .int .i64 t673, .int .i64 0, .int .i64 0, .slice none 0 0, .int .i64 0, .slice none 0 0]) ?_ 2 _ rfl; (with_reducible repeat (first | refine blk_drewN ?_ _ | refine blk_drew ?_ | refine blk_alloc ?_ _)); refine blk_put (cs := #[.int .i64 t672, .int .i64 0, .int .i64 0, .int .i64 0, .slice none 0 0, .int .i64 0, .slice none 0 0]) ?_ 1 _ rfl; (with_reducible repeat (first | refine blk_drewN ?_ _ | refine blk_drew ?_ | refine blk_alloc ?_ _)); refine blk_put (cs := #[.int .i64 0, .int .i64 0, .int .i64 0, .int .i64 0, .slice none 0 0, .int .i64 0, .slice none 0 0]) ?_ 0 _ rfl; (with_reducible repeat (first | refine blk_drewN ?_ _ | refine blk_drew ?_ | refine blk_alloc ?_ _)); exact BK683.out) hb); have n6_ := Aside0.mk (below_step (by repeat (first | (with_reducible first | exact HB.out | apply below_alloc | apply pw_below_drewN | apply below_drew1 | refine below_set ?_ GE657.out | refine below_set ?_ GE683.out) | exact HB.out)) hb); clear HO665; clear HO669; clear HO678; clear HO682; clear BK657; clear BK683; clear HB; have HO665 := n0_; have HO669 := n1_; have HO678 := n2_; have HO682 := n3_; have BK657 := n4_; have BK683 := n5_; have HB := n6_; clear n0_ n1_ n2_ n3_ n4_ n5_ n6_; (try clear hb); (try clear hb2); (try clear hk); (try clear hi)))
      have n0_ := Aside0.mk (Kd.R_drew HO665.out)
      have n1_ := Aside0.mk (Kd.R_drew HO669.out)
      have n2_ := Aside0.mk (Kd.R_drew HO678.out)
      have n3_ := Aside0.mk (Kd.R_drew HO682.out)
      have n4_ := Aside0.mk (blk_drew BK657.out)
      have n5_ := Aside0.mk (blk_drew BK683.out)
      have n6_ := Aside0.mk (below_drew1 HB.out)
      clear HO665
      clear HO669
      clear HO678
      clear HO682
      clear BK657
      clear BK683
      clear HB
      have HO665 := n0_
      have HO669 := n1_
      have HO678 := n2_
      have HO682 := n3_
      have BK657 := n4_
      have BK683 := n5_
      have HB := n6_
      clear n0_ n1_ n2_ n3_ n4_ n5_ n6_
      refine start_ (n := 5) (S := fun w' => w'.cell? ⟨gb683, 0, none⟩ = some (.int .i64 t672) ∧ w'.cell? ⟨gb683, 1, none⟩ = some (.int .i64 t673) ∧ w'.cell? ⟨gb683, 2, none⟩ = some (.int .i64 t674) ∧ w'.cell? ⟨gb683, 3, none⟩ = some (.int .i64 t675) ∧ w'.cell? ⟨gb683, 4, none⟩ = some (.slice Ao30 t676.length co30) ∧ w'.cell? ⟨gb683, 5, none⟩ = some (.int .i64 t679) ∧ w'.cell? ⟨gb683, 6, none⟩ = some (.slice Ao31 t680.length co31) ∧ w'.cell? ⟨gb657, 0, none⟩ = some (.int .i64 a0_0) ∧ w'.cell? ⟨gb657, 1, none⟩ = some (.int .i64 a0_1) ∧ w'.cell? ⟨gb657, 2, none⟩ = some (.int .i64 a0_2) ∧ w'.cell? ⟨gb657, 3, none⟩ = some (.int .i64 a0_3) ∧ w'.cell? ⟨gb657, 4, none⟩ = some (.slice A0_4 l0_4.length c0_4) ∧ w'.cell? ⟨gb657, 5, none⟩ = some (.int .i64 a0_5) ∧ w'.cell? ⟨gb657, 6, none⟩ = some (.slice A0_6 l0_6.length c0_6)) (ds := []) #[false, false, false, false, false] (by kernel_rfl) rfl rfl ⟨(blk_cell BK683.out 0).trans rfl, (blk_cell BK683.out 1).trans rfl, (blk_cell BK683.out 2).trans rfl, (blk_cell BK683.out 3).trans rfl, (blk_cell BK683.out 4).trans rfl, (blk_cell BK683.out 5).trans rfl, (blk_cell BK683.out 6).trans rfl, (blk_cell BK657.out 0).trans rfl, (blk_cell BK657.out 1).trans rfl, (blk_cell BK657.out 2).trans rfl, (blk_cell BK657.out 3).trans rfl, (blk_cell BK657.out 4).trans rfl, (blk_cell BK657.out 5).trans rfl, (blk_cell BK657.out 6).trans rfl⟩ (fun hHeld => ?_)
      generalize w32.drew = w33 at HO665 HO669 HO678 HO682 BK657 BK683 HB hHeld ⊢
      refine take_ (i := 0) (N := some 39) (v := ?_) (a' := ?_) (bsA 5 1) rfl rfl (by kernel_rfl) (fun _ _ _ h => h) (Or.inl ⟨by rfl, ?_⟩) hHeld ?_ ?_
      rotate_left
      ·rintro w' ⟨s0, s1, s2, s3, s4, s5, s6, s7, s8, s9, s10, s11, s12, s13⟩
       go_simp
       with_reducible rfl
      rotate_left
      ·simp only [Act.put, List.setIfInBounds_toArray, List.set_cons_zero, List.set_cons_succ, i64_w]
       rfl
      refine take_ (i := 1) (N := some 40) (v := ?_) (a' := ?_) (bsA 5 3) rfl rfl (by kernel_rfl) (fun _ _ _ h => h) (Or.inl ⟨by rfl, ?_⟩) hHeld ?_ ?_
      rotate_left
      ·rintro w' ⟨s0, s1, s2, s3, s4, s5, s6, s7, s8, s9, s10, s11, s12, s13⟩
       go_simp
       with_reducible rfl
      rotate_left
      ·simp only [Act.put, List.setIfInBounds_toArray, List.set_cons_zero, List.set_cons_succ, i64_w]
       rfl
      refine one_ (i := 2) (N := some 41) (bsA 5 7) rfl rfl (by kernel_rfl) (by decide) (fun K hK => ?_)
      refine goes_ Try.func26 (by kernel_rfl) rfl #[.agg #[.int .i64 a0_0, .int .i64 a0_1, .int .i64 a0_2, .int .i64 a0_3, .slice A0_4 l0_4.length c0_4, .int .i64 a0_5, .slice A0_6 l0_6.length c0_6]] (by rfl) rfl rfl (by (try simp only [List.map_toArray, List.map_cons, List.map_nil]); first | done | rfl | (simp only [List.length_drop, List.length_take]; rfl)) ?_
      with_reducible refine (laws_toSparse.calls k a0_0 a0_1 a0_2 a0_3 _ _ l0_4 a0_5 _ _ l0_6 t686 t687 t688 t689 t690 t693 t694 _ ?side1 ?side2 ?side3 ?side4 A14.out).mono ?_
      (case side1 => repeat (first | exact (Kd.C_below HR0_4.out HB.out) | (with_reducible refine Kd.C_alloc ?_ _) | (with_reducible refine Kd.C_drewN ?_ _) | (with_reducible refine Kd.C_drew ?_)))
      (case side2 => exact HC0_4.out)
      (case side3 => repeat (first | exact (Kd.C_below HR0_6.out HB.out) | (with_reducible refine Kd.C_alloc ?_ _) | (with_reducible refine Kd.C_drewN ?_ _) | (with_reducible refine Kd.C_drew ?_)))
      (case side4 => exact HC0_6.out)
      rintro e w34 ⟨v691, v695, rfl, ho0, ho1, hb⟩
      refine ⟨_, rfl, ?_⟩
      have n0_ := Aside0.mk (Kd.R_mono (Kd.R_told (Kd.R_told (Kd.R_old (by (with_reducible repeat (first | apply Kd.R_alloc | apply Kd.R_drewN | apply Kd.R_drew)); exact HO665.out) hb) (Kd.R_base ho0)) (Kd.R_base ho1)) (fun _ h_ => h_.1))
      have n1_ := Aside0.mk (Kd.R_mono (Kd.R_told (Kd.R_told (Kd.R_old (by (with_reducible repeat (first | apply Kd.R_alloc | apply Kd.R_drewN | apply Kd.R_drew)); exact HO669.out) hb) (Kd.R_base ho0)) (Kd.R_base ho1)) (fun _ h_ => h_.1))
      have n2_ := Aside0.mk (Kd.R_mono (Kd.R_told (Kd.R_told (Kd.R_old (by (with_reducible repeat (first | apply Kd.R_alloc | apply Kd.R_drewN | apply Kd.R_drew)); exact HO678.out) hb) (Kd.R_base ho0)) (Kd.R_base ho1)) (fun _ h_ => h_.1))
      have n3_ := Aside0.mk (Kd.R_mono (Kd.R_told (Kd.R_told (Kd.R_old (by (with_reducible repeat (first | apply Kd.R_alloc | apply Kd.R_drewN | apply Kd.R_drew)); exact HO682.out) hb) (Kd.R_base ho0)) (Kd.R_base ho1)) (fun _ h_ => h_.1))
      have n4_ := Aside0.mk (Kd.R_lower (Kd.R_new' (Kd.R_new' (Kd.R_new' (Kd.R_new' ho0 (Kd.R_lt (by (with_reducible repeat (first | apply Kd.R_alloc | apply Kd.R_drewN | apply Kd.R_drew)); exact HO665.out))) (Kd.R_lt (by (with_reducible repeat (first | apply Kd.R_alloc | apply Kd.R_drewN | apply Kd.R_drew)); exact HO669.out))) (Kd.R_lt (by (with_reducible repeat (first | apply Kd.R_alloc | apply Kd.R_drewN | apply Kd.R_drew)); exact HO678.out))) (Kd.R_lt (by (with_reducible repeat (first | apply Kd.R_alloc | apply Kd.R_drewN | apply Kd.R_drew)); exact HO682.out))) (below_size (by repeat (first | (with_reducible first | exact HB.out | apply below_alloc | apply pw_below_drewN | apply below_drew1 | refine below_set ?_ GE657.out | refine below_set ?_ GE683.out) | exact HB.out))))
      have n5_ := Aside0.mk (Kd.R_lower (Kd.R_new' (Kd.R_new' (Kd.R_new' (Kd.R_new' ho1 (Kd.R_lt (by (with_reducible repeat (first | apply Kd.R_alloc | apply Kd.R_drewN | apply Kd.R_drew)); exact HO665.out))) (Kd.R_lt (by (with_reducible repeat (first | apply Kd.R_alloc | apply Kd.R_drewN | apply Kd.R_drew)); exact HO669.out))) (Kd.R_lt (by (with_reducible repeat (first | apply Kd.R_alloc | apply Kd.R_drewN | apply Kd.R_drew)); exact HO678.out))) (Kd.R_lt (by (with_reducible repeat (first | apply Kd.R_alloc | apply Kd.R_drewN | apply Kd.R_drew)); exact HO682.out))) (below_size (by repeat (first | (with_reducible first | exact HB.out | apply below_alloc | apply pw_below_drewN | apply below_drew1 | refine below_set ?_ GE657.out | refine below_set ?_ GE683.out) | exact HB.out))))
      have n6_ := Aside0.mk (blk_below (g := gb657) (o := .cells #[.int .i64 a0_0, .int .i64 a0_1, .int .i64 a0_2, .int .i64 a0_3, .slice A0_4 l0_4.length c0_4, .int .i64 a0_5, .slice A0_6 l0_6.length c0_6] 37 (0, 0)) (by (with_reducible repeat (first | refine blk_drewN ?_ _ | refine blk_drew ?_ | refine blk_alloc ?_ _)); exact BK657.out) hb)
      have n7_ := Aside0.mk (blk_below (g := gb683) (o := .cells #[.int .i64 t672, .int .i64 t673, .int .i64 t674, .int .i64 t675, .slice Ao30 t676.length co30, .int .i64 t679, .slice Ao31 t680.length co31] 26 (0, 0)) (by (with_reducible repeat (first | refine blk_drewN ?_ _ | refine blk_drew ?_ | refine blk_alloc ?_ _)); exact BK683.out) hb)
      have n8_ := Aside0.mk (below_step (by repeat (first | (with_reducible first | exact HB.out | apply below_alloc | apply pw_below_drewN | apply below_drew1 | refine below_set ?_ GE657.out | refine below_set ?_ GE683.out) | exact HB.out)) hb)
      clear HO665
      clear HO669
      clear HO678
      clear HO682
      clear BK657
      clear BK683
      clear HB
      have HO665 := n0_
      have HO669 := n1_
      have HO678 := n2_
      have HO682 := n3_
      have HO692 := n4_
      have HO696 := n5_
      have BK657 := n6_
      have BK683 := n7_
      have HB := n8_
      clear n0_ n1_ n2_ n3_ n4_ n5_ n6_ n7_ n8_
      (try clear hb)
      (try clear hb2)
      (try clear hk)
      (try clear hi)
      (try clear ho0)
      (try clear ho1)
      obtain ⟨Ao35, co35, eo35⟩ := Kd.R_slice HO692.out
      (first | subst eo35 | (injection eo35 with f1_ f2_ f3_; have f4_ := f1_.symm; have f5_ := f3_.symm; clear f1_ f2_ f3_; subst f4_; subst f5_))
      obtain ⟨Ao36, co36, eo36⟩ := Kd.R_slice HO696.out
      (first | subst eo36 | (injection eo36 with f1_ f2_ f3_; have f4_ := f1_.symm; have f5_ := f3_.symm; clear f1_ f2_ f3_; subst f4_; subst f5_))
      refine hK.out _ _ ⟨(blk_cell BK683.out 0).trans rfl, (blk_cell BK683.out 1).trans rfl, (blk_cell BK683.out 2).trans rfl, (blk_cell BK683.out 3).trans rfl, (blk_cell BK683.out 4).trans rfl, (blk_cell BK683.out 5).trans rfl, (blk_cell BK683.out 6).trans rfl, (blk_cell BK657.out 0).trans rfl, (blk_cell BK657.out 1).trans rfl, (blk_cell BK657.out 2).trans rfl, (blk_cell BK657.out 3).trans rfl, (blk_cell BK657.out 4).trans rfl, (blk_cell BK657.out 5).trans rfl, (blk_cell BK657.out 6).trans rfl⟩ (fun hHeld => ?_)
      clear hK K
      refine norm_ (a' := ?_) ?_ ?_
      rotate_left
      ·show Act.put _ (some 41) _ = _
       simp only [Act.put, List.setIfInBounds_toArray, List.set_cons_zero, List.set_cons_succ, i64_w]
       rfl
      refine one_ (i := 3) (N := some 42) (bsA 5 15) rfl rfl (by kernel_rfl) (by decide) (fun K hK => ?_)
      refine goes_ Try.func19 (by kernel_rfl) rfl #[.agg #[.int .i64 t672, .int .i64 t673, .int .i64 t674, .int .i64 t675, .slice Ao30 t676.length co30, .int .i64 t679, .slice Ao31 t680.length co31], .agg #[.int .i64 t686, .int .i64 t687, .int .i64 t688, .int .i64 t689, .slice Ao35 t690.length co35, .int .i64 t693, .slice Ao36 t694.length co36]] (by rfl) rfl rfl (by (try simp only [List.map_toArray, List.map_cons, List.map_nil]); first | done | rfl | (simp only [List.length_drop, List.length_take]; rfl)) ?_
      with_reducible refine (laws_eqSparse.calls k t672 t673 t674 t675 _ _ t676 t679 _ _ t680 t686 t687 t688 t689 _ _ t690 t693 _ _ t694 true _ ?side1 ?side2 ?side3 ?side4 ?side5 ?side6 ?side7 ?side8 A15.out).mono ?_
      (case side1 => repeat (first | exact (Kd.R_reads' HO678.out).2.2 | (with_reducible refine Kd.C_alloc ?_ _) | (with_reducible refine Kd.C_drewN ?_ _) | (with_reducible refine Kd.C_drew ?_)))
      (case side2 => exact (Kd.R_reads' HO678.out).2.1)
      (case side3 => repeat (first | exact (Kd.R_reads' HO682.out).2.2 | (with_reducible refine Kd.C_alloc ?_ _) | (with_reducible refine Kd.C_drewN ?_ _) | (with_reducible refine Kd.C_drew ?_)))
      (case side4 => exact (Kd.R_reads' HO682.out).2.1)
      (case side5 => repeat (first | exact (Kd.R_reads' HO692.out).2.2 | (with_reducible refine Kd.C_alloc ?_ _) | (with_reducible refine Kd.C_drewN ?_ _) | (with_reducible refine Kd.C_drew ?_)))
      (case side6 => exact (Kd.R_reads' HO692.out).2.1)
      (case side7 => repeat (first | exact (Kd.R_reads' HO696.out).2.2 | (with_reducible refine Kd.C_alloc ?_ _) | (with_reducible refine Kd.C_drewN ?_ _) | (with_reducible refine Kd.C_drew ?_)))
      (case side8 => exact (Kd.R_reads' HO696.out).2.1)
      rintro e w37 ⟨rfl, hb⟩
      refine ⟨_, rfl, ?_⟩
      have n0_ := Aside0.mk (Kd.R_below (by (with_reducible repeat (first | apply Kd.R_alloc | apply Kd.R_drewN | apply Kd.R_drew)); exact HO665.out) hb)
      have n1_ := Aside0.mk (Kd.R_below (by (with_reducible repeat (first | apply Kd.R_alloc | apply Kd.R_drewN | apply Kd.R_drew)); exact HO669.out) hb)
      have n2_ := Aside0.mk (Kd.R_below (by (with_reducible repeat (first | apply Kd.R_alloc | apply Kd.R_drewN | apply Kd.R_drew)); exact HO678.out) hb)
      have n3_ := Aside0.mk (Kd.R_below (by (with_reducible repeat (first | apply Kd.R_alloc | apply Kd.R_drewN | apply Kd.R_drew)); exact HO682.out) hb)
      have n4_ := Aside0.mk (Kd.R_below (by (with_reducible repeat (first | apply Kd.R_alloc | apply Kd.R_drewN | apply Kd.R_drew)); exact HO692.out) hb)
      have n5_ := Aside0.mk (Kd.R_below (by (with_reducible repeat (first | apply Kd.R_alloc | apply Kd.R_drewN | apply Kd.R_drew)); exact HO696.out) hb)
      have n6_ := Aside0.mk (blk_below (g := gb657) (o := .cells #[.int .i64 a0_0, .int .i64 a0_1, .int .i64 a0_2, .int .i64 a0_3, .slice A0_4 l0_4.length c0_4, .int .i64 a0_5, .slice A0_6 l0_6.length c0_6] 37 (0, 0)) (by (with_reducible repeat (first | refine blk_drewN ?_ _ | refine blk_drew ?_ | refine blk_alloc ?_ _)); exact BK657.out) hb)
      have n7_ := Aside0.mk (blk_below (g := gb683) (o := .cells #[.int .i64 t672, .int .i64 t673, .int .i64 t674, .int .i64 t675, .slice Ao30 t676.length co30, .int .i64 t679, .slice Ao31 t680.length co31] 26 (0, 0)) (by (with_reducible repeat (first | refine blk_drewN ?_ _ | refine blk_drew ?_ | refine blk_alloc ?_ _)); exact BK683.out) hb)
      have n8_ := Aside0.mk (below_step (by repeat (first | (with_reducible first | exact HB.out | apply below_alloc | apply pw_below_drewN | apply below_drew1 | refine below_set ?_ GE657.out | refine below_set ?_ GE683.out) | exact HB.out)) hb)
      clear HO665
      clear HO669
      clear HO678
      clear HO682
      clear HO692
      clear HO696
      clear BK657
      clear BK683
      clear HB
      have HO665 := n0_
      have HO669 := n1_
      have HO678 := n2_
      have HO682 := n3_
      have HO692 := n4_
      have HO696 := n5_
      have BK657 := n6_
      have BK683 := n7_
      have HB := n8_
      clear n0_ n1_ n2_ n3_ n4_ n5_ n6_ n7_ n8_
      (try clear hb)
      (try clear hb2)
      (try clear hk)
      (try clear hi)
      refine hK.out _ _ ⟨(blk_cell BK683.out 0).trans rfl, (blk_cell BK683.out 1).trans rfl, (blk_cell BK683.out 2).trans rfl, (blk_cell BK683.out 3).trans rfl, (blk_cell BK683.out 4).trans rfl, (blk_cell BK683.out 5).trans rfl, (blk_cell BK683.out 6).trans rfl, (blk_cell BK657.out 0).trans rfl, (blk_cell BK657.out 1).trans rfl, (blk_cell BK657.out 2).trans rfl, (blk_cell BK657.out 3).trans rfl, (blk_cell BK657.out 4).trans rfl, (blk_cell BK657.out 5).trans rfl, (blk_cell BK657.out 6).trans rfl⟩ (fun hHeld => ?_)
      clear hK K
      refine norm_ (a' := ?_) ?_ ?_
      rotate_left
      ·show Act.put _ (some 42) _ = _
       simp only [Act.put, List.setIfInBounds_toArray, List.set_cons_zero, List.set_cons_succ, i64_w]
       rfl
      refine pure_ (i := 4) (N := some 43) (v := ?_) (a' := ?_) (bsA 5 31) rfl rfl (by kernel_rfl) (fun _ _ _ h => h) (Or.inl ⟨by rfl, ?_⟩) ?_ ?_
      rotate_left
      ·intro w'
       go_simp
       with_reducible rfl
      rotate_left
      ·simp only [Act.put, List.setIfInBounds_toArray, List.set_cons_zero, List.set_cons_succ, i64_w]
       rfl
      refine done_ (by kernel_rfl) ?_
      try go_wp2
      go_ret
      exact ⟨by first | rfl | (simp [errW_none, errW_some] <;> rfl) | (simp [*, errW_none, errW_some] <;> rfl), by repeat (first | (with_reducible first | exact HB.out | apply below_alloc | apply pw_below_drewN | apply below_drew1 | refine below_set ?_ GE657.out | refine below_set ?_ GE683.out) | exact HB.out)⟩
     ·replace c16 := Bool.eq_false_iff.mpr c16
      subst c16
      have H1 : (none) = some r := by rw [if_neg (show ¬ (false = true) by decide)] at H; exact H
      clear H
      have H := H1
      clear H1
      exact absurd H (by simp)

/-- What is to be shown of laws_FnExactHasNumber: plain. -/
def laws_FnExactHasNumber.Pure : Prop := ∀ (a0_0 : Int) (a0_1 : Int) (a0_2 : Int) (a0_3 : Int) (l0_4 : List Int) (a0_5 : Int) (l0_6 : List Int) (a1 : Int), (wfI .i64) a0_0 → (wfI .i64) a0_1 → (wfI .i64) a0_2 → (wfI .i64) a0_3 → (wfL (wfI .i64)) l0_4 → (wfI .i64) a0_5 → (wfL (wfI .i64)) l0_6 → (wfI .i64) a1 → ∃ k, laws_FnExactHasNumber.f k a0_0 a0_1 a0_2 a0_3 l0_4 a0_5 l0_6 a1 = some true
theorem laws_FnExactHasNumber.walk (P : laws_FnExactHasNumber.Pure) (a0_0 : Int) (a0_1 : Int) (a0_2 : Int) (a0_3 : Int) (A0_4 : Option Addr) (c0_4 : Nat) (l0_4 : List Int) (a0_5 : Int) (A0_6 : Option Addr) (c0_6 : Nat) (l0_6 : List Int) (a1 : Int) (w : World) (hr0_4 : Kd.C (Kd.int .i64) w A0_4 l0_4.length l0_4) (hc0_4 : l0_4.length ≤ c0_4) (hr0_6 : Kd.C (Kd.int .i64) w A0_6 l0_6.length l0_6) (hc0_6 : l0_6.length ≤ c0_6) (hw0_0 : (wfI .i64) a0_0) (hw0_1 : (wfI .i64) a0_1) (hw0_2 : (wfI .i64) a0_2) (hw0_3 : (wfI .i64) a0_3) (hw0_4 : (wfL (wfI .i64)) l0_4) (hw0_5 : (wfI .i64) a0_5) (hw0_6 : (wfL (wfI .i64)) l0_6) (hw1 : (wfI .i64) a1) :
    Calls Try.prog 8 #[.agg #[.int .i64 a0_0, .int .i64 a0_1, .int .i64 a0_2, .int .i64 a0_3, .slice A0_4 l0_4.length c0_4, .int .i64 a0_5, .slice A0_6 l0_6.length c0_6], .int .i64 a1] w fun e w' => e = .returned (.bool true) ∧ Below w.heap.size w w' := by
  obtain ⟨k, h⟩ := P a0_0 a0_1 a0_2 a0_3 l0_4 a0_5 l0_6 a1 hw0_0 hw0_1 hw0_2 hw0_3 hw0_4 hw0_5 hw0_6 hw1
  refine (laws_FnExactHasNumber.calls k a0_0 a0_1 a0_2 a0_3 A0_4 c0_4 l0_4 a0_5 A0_6 c0_6 l0_6 a1 true w hr0_4 hc0_4 hr0_6 hc0_6 h).mono ?_
  rintro e w' ⟨rfl, hd⟩
  exact ⟨rfl, hd⟩
end Go.Proofs.Ytdlbdocpofnfjaa.X
