/- Written by a program of this session: what functions of the given program compute, and that their calls do so. -/
import Derived.Test.YtkechjheiakibaaXx0
import Derived.Test.YtkechjheiakibaaXg7ca
import Derived.Test.YtkechjheiakibaaXs
namespace Go.Proofs.Ytkechjheiakibaa.X
open Go.RowKit Go.Proofs.YtkechjheiakibaaW.PrintWords Go.Proofs.YtkechjheiakibaaW.PrintLast Go.Proofs.YtkechjheiakibaaW.PrintMore
attribute [local go_sem] max2_int min2_int max_two min_two max_three min_three max_four min_four   -- for this text's walks alone
set_option linter.unusedVariables false
set_option linter.unusedSimpArgs false
/-! ### spec_spIf: function 52 -/
def spec_spIf.f (l0 : List Int) (a1 : Bool) : Option (List Int × Bool) := if a1 = true then (some (l0, true)) else (some (([] : List Int), false))
set_option maxHeartbeats 8000000 in
set_option maxRecDepth 100000 in
theorem spec_spIf.calls (P0_ : Nat → Prop) (u9000_ : Value) (l0 : List Int) (a1 : Bool) (r1 : List Int) (r2 : Bool) (w0 w : World) (hB : Below w0.heap.size w0 w) (ho0 : Kd.R (Kd.int .i64) 3 w w0.heap.size P0_ u9000_ l0) (h : spec_spIf.f l0 a1 = some (r1, r2)) :
    Calls Try.prog 52 #[u9000_, .bool a1] w fun e w' => ∃ v0_ : Value, e = .returned (.tuple #[v0_, .bool r2]) ∧ Kd.R (Kd.int .i64) 3 w' w0.heap.size (fun k_ => (P0_ k_ ∨ w.heap.size ≤ k_)) v0_ r1 ∧ Below w0.heap.size w0 w' ∧ Kept w w' (fun k_ => P0_ k_) := by
  have HO0 := Aside0.mk (show Kd.R (Kd.int .i64) 3 w w0.heap.size (fun k_ => (P0_ k_ ∨ w.heap.size ≤ k_)) u9000_ l0 from Kd.R_mono ho0 (fun k_ hk => (.inl hk)))
  have HK := Aside0.mk (Kept.refl w (fun k_ => P0_ k_))
  have HW0 := Aside0.mk hB.size
  have HB := Aside0.mk hB
  clear hB
  have H : (if a1 = true then (some (l0, true)) else (some (([] : List Int), false))) = some (r1, r2) := h
  clear h
  by_cases c3 : a1 = true
  ·subst c3
   have H1 : (some (l0, true)) = some (r1, r2) := by rw [if_pos rfl] at H; exact H
   clear H
   have H := H1
   clear H1
   simp only [Option.some.injEq, Prod.mk.injEq] at H
   obtain ⟨rfl, rfl⟩ := H
   go_enter Try.func52, Try.ntmps52
   go_wp2
   go_ret2
   exact ⟨_, rf_, kR_ HO0, hB_, by repeat (first | (with_reducible first | exact HK.out | apply Kept.alloc | apply Kept.drewN | apply Kept.drew) | exact HK.out)⟩
  ·replace c3 := Bool.eq_false_iff.mpr c3
   subst c3
   have H1 : (some (([] : List Int), false)) = some (r1, r2) := by rw [if_neg (show ¬ (false = true) by decide)] at H; exact H
   clear H
   have H := H1
   clear H1
   simp only [Option.some.injEq, Prod.mk.injEq] at H
   obtain ⟨rfl, rfl⟩ := H
   go_enter Try.func52, Try.ntmps52
   go_wp2
   go_ret2
   exact ⟨_, rf_, by first | exact Kd.R_nil _ _ _ _ _ | exact Kd.N_nil _ _ _ _ _ | exact Kd.V_nil _ _ _ _ _ | exact Kd.Q_nil _ _ _ _ _ | exact Kd.S_nil _ _ _ _ _, hB_, by repeat (first | (with_reducible first | exact HK.out | apply Kept.alloc | apply Kept.drewN | apply Kept.drew) | exact HK.out)⟩
/-! ### spec_biField: function 108 -/
def spec_biField.l0 : Nat → Int → Int → Int → Int → List Int → Option (Int)
  | 0, _, _, _, _, _ => none
  | k + 1, x1, x7, x8, x316000, x316001 => if x8 ≥ 0 then ((spec_biAt.f x316000 x316001 (wrap64 (x1 + x8))).bind fun t316 => (if t316 = true then (spec_biField.l0 k x1 (wrap64 ((wrap64 (x7 * 2)) + 1)) (wrap64 (x8 - 1)) x316000 x316001) else (spec_biField.l0 k x1 (wrap64 (x7 * 2)) (wrap64 (x8 - 1)) x316000 x316001))) else (some x7)
def spec_biField.f (k : Nat) (a0_0 : Int) (l0_1 : List Int) (a1 : Int) (a2 : Int) : Option (Int) := spec_biField.l0 k a1 0 (wrap64 (a2 - 1)) a0_0 l0_1
theorem spec_biField.mono_l : ∀ k, (∀ y0 y1 y2 y3 y4, LeO (spec_biField.l0 k y0 y1 y2 y3 y4) (spec_biField.l0 (k + 1) y0 y1 y2 y3 y4))
  | 0 => fun _ _ _ _ _ r h => by simp [spec_biField.l0] at h
  | k + 1 => by
    have ih0 := spec_biField.mono_l k
    · intro y0 y1 y2 y3 y4
      unfold spec_biField.l0
      repeat' first
      | (with_reducible exact ih0 _ _ _ _ _)
      | (with_reducible exact LeO.refl _)
      | (with_reducible exact LeO.none _)
      | (with_reducible refine LeO.ite ?_ ?_)
      | (with_reducible refine LeO.bind ?_ (fun _ => ?_))
      | exact ih0 _ _ _ _ _
      | exact LeO.none _
      | refine LeO.ite ?_ ?_
      | refine LeO.bind ?_ (fun _ => ?_)
theorem spec_biField.mono : ∀ a0 a1 a2 a3 k, LeO (spec_biField.f k a0 a1 a2 a3) (spec_biField.f (k + 1) a0 a1 a2 a3) := by
  intro a0 a1 a2 a3 k
  have ih0 := spec_biField.mono_l k
  unfold spec_biField.f
  repeat' first
      | (with_reducible exact ih0 _ _ _ _ _)
      | (with_reducible exact LeO.refl _)
      | (with_reducible exact LeO.none _)
      | (with_reducible refine LeO.ite ?_ ?_)
      | (with_reducible refine LeO.bind ?_ (fun _ => ?_))
      | exact ih0 _ _ _ _ _
      | exact LeO.none _
      | refine LeO.ite ?_ ?_
      | refine LeO.bind ?_ (fun _ => ?_)
noncomputable def spec_biField.L0 (y0 : Int) (y1 : Int) (y2 : Int) (y3 : Int) (y4 : List Int) : Option (Int) := lim fun k => spec_biField.l0 k y0 y1 y2 y3 y4
theorem spec_biField.L0_sup (y0 : Int) (y1 : Int) (y2 : Int) (y3 : Int) (y4 : List Int) : Sup (fun k => spec_biField.l0 k y0 y1 y2 y3 y4) (spec_biField.L0 y0 y1 y2 y3 y4) := Sup.of_mono fun k => spec_biField.mono_l k y0 y1 y2 y3 y4
noncomputable def spec_biField.F (a0_0 : Int) (l0_1 : List Int) (a1 : Int) (a2 : Int) : Option (Int) := lim fun k => spec_biField.f k a0_0 l0_1 a1 a2
theorem spec_biField.F_sup (a0_0 : Int) (l0_1 : List Int) (a1 : Int) (a2 : Int) : Sup (fun k => spec_biField.f k a0_0 l0_1 a1 a2) (spec_biField.F a0_0 l0_1 a1 a2) := Sup.of_mono fun k => spec_biField.mono a0_0 l0_1 a1 a2 k
theorem spec_biField.L0_eq (x1 : Int) (x7 : Int) (x8 : Int) (x316000 : Int) (x316001 : List Int) : spec_biField.L0 x1 x7 x8 x316000 x316001 = if x8 ≥ 0 then ((spec_biAt.f x316000 x316001 (wrap64 (x1 + x8))).bind fun t316 => (if t316 = true then (spec_biField.L0 x1 (wrap64 ((wrap64 (x7 * 2)) + 1)) (wrap64 (x8 - 1)) x316000 x316001) else (spec_biField.L0 x1 (wrap64 (x7 * 2)) (wrap64 (x8 - 1)) x316000 x316001))) else (some x7) := by
  refine Sup.unique (spec_biField.L0_sup x1 x7 x8 x316000 x316001) (Sup.shift (fun k => spec_biField.mono_l k x1 x7 x8 x316000 x316001) (Sup.congr (g' := fun k => if x8 ≥ 0 then ((spec_biAt.f x316000 x316001 (wrap64 (x1 + x8))).bind fun t316 => (if t316 = true then (spec_biField.l0 k x1 (wrap64 ((wrap64 (x7 * 2)) + 1)) (wrap64 (x8 - 1)) x316000 x316001) else (spec_biField.l0 k x1 (wrap64 (x7 * 2)) (wrap64 (x8 - 1)) x316000 x316001))) else (some x7)) (fun k => by first | rfl | simp only [spec_biField.l0]) ?_))
  repeat' first
    | (with_reducible exact spec_biField.L0_sup _ _ _ _ _)
    | (with_reducible refine Sup.ite ?_ ?_)
    | (with_reducible refine Sup.bind ?_ (fun _ => ?_))
    | (with_reducible exact Sup.const _)
    | exact spec_biField.L0_sup _ _ _ _ _
    | exact Sup.const _
theorem spec_biField.F_eq (a0_0 : Int) (l0_1 : List Int) (a1 : Int) (a2 : Int) : spec_biField.F a0_0 l0_1 a1 a2 = spec_biField.L0 a1 0 (wrap64 (a2 - 1)) a0_0 l0_1 := by
  refine Sup.unique (spec_biField.F_sup a0_0 l0_1 a1 a2) (Sup.congr (g' := fun k => spec_biField.l0 k a1 0 (wrap64 (a2 - 1)) a0_0 l0_1) (fun k => by first | rfl | simp only [spec_biField.f]) ?_)
  repeat' first
    | (with_reducible exact spec_biField.L0_sup _ _ _ _ _)
    | (with_reducible refine Sup.ite ?_ ?_)
    | (with_reducible refine Sup.bind ?_ (fun _ => ?_))
    | (with_reducible exact Sup.const _)
    | exact spec_biField.L0_sup _ _ _ _ _
    | exact Sup.const _
set_option maxHeartbeats 8000000 in
set_option maxRecDepth 100000 in
theorem spec_biField.calls (k : Nat) (a0_0 : Int) (A0_1 : Option Addr) (c0_1 : Nat) (l0_1 : List Int) (a1 : Int) (a2 : Int) (r : Int) (w : World) (hr0_1 : Kd.C (Kd.int .i64) w A0_1 l0_1.length l0_1) (hc0_1 : l0_1.length ≤ c0_1) (h : spec_biField.f k a0_0 l0_1 a1 a2 = some r) :
    Calls Try.prog 108 #[.agg #[.int .i64 a0_0, .slice A0_1 l0_1.length c0_1], .int .i64 a1, .int .i64 a2] w fun e w' => e = .returned (.int .i64 r) ∧ Below w.heap.size w w' := by
  have hu24 := Try.underlying24
  have HR0_1 := Aside0.mk hr0_1
  have HC0_1 := Aside0.mk hc0_1
  clear hr0_1 hc0_1
  have HB := Aside0.mk (Below.refl w.heap.size w)
  have H : (spec_biField.l0 k a1 0 (wrap64 (a2 - 1)) a0_0 l0_1) = some r := h
  clear h
  have H' := Aside0.mk H
  clear H
  go_enter Try.func108, Try.ntmps108
  go_wp2_with (first | ((with_reducible refine gate_dst (N := 3) rfl ?_); refine bx_ 3 #[.int .i64 a0_0, .slice A0_1 l0_1.length c0_1] 24 ?_; intro gb315 hg w4 hbox hb; have BK315 := Aside0.mk (hbox); have GW315 := Aside0.mk ((ge_ hg)); have GE315 := Aside0.mk ((ge_ hg)); replace HB := Aside0.mk (below_step hB_ hb); clear hb hbox hg))
  go_loopg [7, 8] k (fun kq v7 v8 w' => ∃ (x7_1 : Int) (x8_1 : Int), v7 = .int .i64 x7_1 ∧ v8 = .int .i64 x8_1 ∧ Aside0 (spec_biField.l0 kq a1 x7_1 x8_1 a0_0 l0_1 = some r) ∧ Aside0 (kq ≤ k) ∧ Aside0 (w'.heap[gb315]? = some (.cells #[.int .i64 a0_0, (.slice A0_1 l0_1.length c0_1)] 24 (0, 0))) ∧ Aside0 (Below w.heap.size w w'))
  case atStart => exact ⟨(0), (wrap64 (a2 - 1)), rg_, rg_, H', ⟨Nat.le_refl _⟩, ⟨kB_ BK315⟩, ⟨hB_⟩⟩
  case round =>
   clear H'
   try clear c1
   try clear p2
   obtain ⟨x7_1, x8_1, rfl, rfl, HA, HK1, BK315, HB⟩ := hrel
   cases gk with
   | zero => exact absurd HA.out (by simp [spec_biField.l0])
   | succ k1 =>
    have H := HA.out
    clear HA
    simp only [spec_biField.l0] at H
    by_cases c5 : x8_1 ≥ 0
    ·rw [if_pos c5] at H
     have c5b0 : decide (0 ≤ x8_1) = true := decide_eq_true c5
     clear c5
     replace H := Option.bind_eq_some_iff.mp H
     obtain ⟨t316, A60, H⟩ := H
     replace H : (if t316 = true then (spec_biField.l0 k1 a1 (wrap64 ((wrap64 (x7_1 * 2)) + 1)) (wrap64 (x8_1 - 1)) a0_0 l0_1) else (spec_biField.l0 k1 a1 (wrap64 (x7_1 * 2)) (wrap64 (x8_1 - 1)) a0_0 l0_1)) = some r := H
     have A6 := Aside0.mk A60
     clear A60
     by_cases c7 : t316 = true
     ·subst c7
      have H1 : (spec_biField.l0 k1 a1 (wrap64 ((wrap64 (x7_1 * 2)) + 1)) (wrap64 (x8_1 - 1)) a0_0 l0_1) = some r := by rw [if_pos rfl] at H; exact H
      clear H
      have H := H1
      clear H1
      have H' := Aside0.mk H
      clear H
      have hcz8_0 : wr.cell? ⟨gb315, 0, none⟩ = some (.int .i64 a0_0) := (blk_cell BK315.out 0).trans rfl
      have hcz8_1 : wr.cell? ⟨gb315, 1, none⟩ = some (.slice A0_1 l0_1.length c0_1) := (blk_cell BK315.out 1).trans rfl
      have hfz8_0 := blk_frozen BK315.out 0
      have hfz8_1 := blk_frozen BK315.out 1
      go_wp2_with (first | ((with_reducible refine gate_callee (f := 102) rfl ?_); refine gl_ 21 Try.func102 #[.agg #[.int .i64 a0_0, .slice A0_1 l0_1.length c0_1], .int .i64 (wrap64 (a1 + x8_1))] ?_; (with_reducible refine (spec_biAt.calls a0_0 _ _ l0_1 (wrap64 (a1 + x8_1)) true _ ?side1 ?side2 A6.out).mono ?_); (case side1 => exact kC_ HR0_1); (case side2 => exact HC0_1.out); rintro e w9 ⟨rfl, hb⟩; refine ⟨_, rfl, ?_⟩; replace BK315 := Aside0.mk (blk_below (kB_ BK315) hb); replace HB := Aside0.mk (below_step hB_ hb); (try clear hb); (try clear hb2); (try clear hk); (try clear hi)))
      go_roundg k1
      case measure => have := HK1.out; omega
      case rel => exact ⟨(wrap64 ((wrap64 (x7_1 * 2)) + 1)), (wrap64 (x8_1 - 1)), rg_, rg_, H', ⟨by have := HK1.out; omega⟩, ⟨kB_ BK315⟩, ⟨hB_⟩⟩
     ·replace c7 := Bool.eq_false_iff.mpr c7
      subst c7
      have H1 : (spec_biField.l0 k1 a1 (wrap64 (x7_1 * 2)) (wrap64 (x8_1 - 1)) a0_0 l0_1) = some r := by rw [if_neg (show ¬ (false = true) by decide)] at H; exact H
      clear H
      have H := H1
      clear H1
      have H' := Aside0.mk H
      clear H
      have hcz10_0 : wr.cell? ⟨gb315, 0, none⟩ = some (.int .i64 a0_0) := (blk_cell BK315.out 0).trans rfl
      have hcz10_1 : wr.cell? ⟨gb315, 1, none⟩ = some (.slice A0_1 l0_1.length c0_1) := (blk_cell BK315.out 1).trans rfl
      have hfz10_0 := blk_frozen BK315.out 0
      have hfz10_1 := blk_frozen BK315.out 1
      go_wp2_with (first | ((with_reducible refine gate_callee (f := 102) rfl ?_); refine gl_ 21 Try.func102 #[.agg #[.int .i64 a0_0, .slice A0_1 l0_1.length c0_1], .int .i64 (wrap64 (a1 + x8_1))] ?_; (with_reducible refine (spec_biAt.calls a0_0 _ _ l0_1 (wrap64 (a1 + x8_1)) false _ ?side1 ?side2 A6.out).mono ?_); (case side1 => exact kC_ HR0_1); (case side2 => exact HC0_1.out); rintro e w11 ⟨rfl, hb⟩; refine ⟨_, rfl, ?_⟩; replace BK315 := Aside0.mk (blk_below (kB_ BK315) hb); replace HB := Aside0.mk (below_step hB_ hb); (try clear hb); (try clear hb2); (try clear hk); (try clear hi)))
      go_roundg k1
      case measure => have := HK1.out; omega
      case rel => exact ⟨(wrap64 (x7_1 * 2)), (wrap64 (x8_1 - 1)), rg_, rg_, H', ⟨by have := HK1.out; omega⟩, ⟨kB_ BK315⟩, ⟨hB_⟩⟩
    ·rw [if_neg c5] at H
     have c5b0 : decide (0 ≤ x8_1) = false := decide_eq_false c5
     clear c5
     obtain rfl := Option.some.inj H
     go_wp2
     go_ret
     exact ⟨rf_, hB_⟩
/-! ### spec_spRead: function 86 -/
def spec_spRead.f (k : Nat) (a0_0 : Int) (l0_1 : List Int) (a1 : Int) (a2 : Int) : Option (Int × Int) := if a2 > 16 then (some (0, wrap64 (a0_0 + 1))) else (if (wrap64 (a1 + a2)) > a0_0 then (some (0, wrap64 (a0_0 + 1))) else (if 0 ≤ a2 then ((spec_biField.f k a0_0 l0_1 a1 a2).bind fun t318 => (some (wrap64 ((shl .i64 1 a2) + t318), wrap64 (a1 + a2)))) else (none)))
theorem spec_spRead.mono : ∀ a0 a1 a2 a3 k, LeO (spec_spRead.f k a0 a1 a2 a3) (spec_spRead.f (k + 1) a0 a1 a2 a3) := by
  intro a0 a1 a2 a3 k
  unfold spec_spRead.f
  repeat' first
      | (with_reducible exact spec_biField.mono _ _ _ _ _)
      | (with_reducible exact LeO.refl _)
      | (with_reducible exact LeO.none _)
      | (with_reducible refine LeO.ite ?_ ?_)
      | (with_reducible refine LeO.bind ?_ (fun _ => ?_))
      | exact spec_biField.mono _ _ _ _ _
      | exact LeO.none _
      | refine LeO.ite ?_ ?_
      | refine LeO.bind ?_ (fun _ => ?_)
noncomputable def spec_spRead.F (a0_0 : Int) (l0_1 : List Int) (a1 : Int) (a2 : Int) : Option (Int × Int) := lim fun k => spec_spRead.f k a0_0 l0_1 a1 a2
theorem spec_spRead.F_sup (a0_0 : Int) (l0_1 : List Int) (a1 : Int) (a2 : Int) : Sup (fun k => spec_spRead.f k a0_0 l0_1 a1 a2) (spec_spRead.F a0_0 l0_1 a1 a2) := Sup.of_mono fun k => spec_spRead.mono a0_0 l0_1 a1 a2 k
theorem spec_spRead.F_eq (a0_0 : Int) (l0_1 : List Int) (a1 : Int) (a2 : Int) : spec_spRead.F a0_0 l0_1 a1 a2 = if a2 > 16 then (some (0, wrap64 (a0_0 + 1))) else (if (wrap64 (a1 + a2)) > a0_0 then (some (0, wrap64 (a0_0 + 1))) else (if 0 ≤ a2 then ((spec_biField.F a0_0 l0_1 a1 a2).bind fun t318 => (some (wrap64 ((shl .i64 1 a2) + t318), wrap64 (a1 + a2)))) else (none))) := by
  refine Sup.unique (spec_spRead.F_sup a0_0 l0_1 a1 a2) (Sup.congr (g' := fun k => if a2 > 16 then (some (0, wrap64 (a0_0 + 1))) else (if (wrap64 (a1 + a2)) > a0_0 then (some (0, wrap64 (a0_0 + 1))) else (if 0 ≤ a2 then ((spec_biField.f k a0_0 l0_1 a1 a2).bind fun t318 => (some (wrap64 ((shl .i64 1 a2) + t318), wrap64 (a1 + a2)))) else (none)))) (fun k => by first | rfl | simp only [spec_spRead.f]) ?_)
  repeat' first
    | (with_reducible exact spec_biField.F_sup _ _ _ _)
    | (with_reducible refine Sup.ite ?_ ?_)
    | (with_reducible refine Sup.bind ?_ (fun _ => ?_))
    | (with_reducible exact Sup.const _)
    | exact spec_biField.F_sup _ _ _ _
    | exact Sup.const _
def spec_spRead.T3 : Bool × List (List Nat × List Nat) := (true, [([], []), ([0], [0]), ([], []), ([], []), ([], []), ([2, 3, 4], [2, 3, 4]), ([1, 5], [1, 5]), ([], []), ([], []), ([7, 8], [7, 8]), ([6, 5, 0, 1, 2, 3, 4, 5, 6], [6]), ([9, 10, 0, 1, 2, 3, 4, 5, 6, 7, 8, 9, 10], [9])])
def spec_spRead.B3 : List Nat := [0, 1, 0, 0, 0, 28, 63, 0, 0, 384, 127, 2047]
theorem spec_spRead.tab3 : rtab .any (opsOf Try.f86 3) = spec_spRead.T3 := by kernel_rfl
theorem spec_spRead.bits3 : waitsOk spec_spRead.T3.2 spec_spRead.B3 = true := by kernel_rfl
set_option maxHeartbeats 8000000 in
set_option maxRecDepth 100000 in
theorem spec_spRead.calls (k : Nat) (a0_0 : Int) (A0_1 : Option Addr) (c0_1 : Nat) (l0_1 : List Int) (a1 : Int) (a2 : Int) (r1 : Int) (r2 : Int) (w : World) (hr0_1 : Kd.C (Kd.int .i64) w A0_1 l0_1.length l0_1) (hc0_1 : l0_1.length ≤ c0_1) (h : spec_spRead.f k a0_0 l0_1 a1 a2 = some (r1, r2)) :
    Calls Try.prog 86 #[.agg #[.int .i64 a0_0, .slice A0_1 l0_1.length c0_1], .int .i64 a1, .int .i64 a2] w fun e w' => e = .returned (.tuple #[.int .i64 r1, .int .i64 r2]) ∧ Below w.heap.size w w' := by
  have hu24 := Try.underlying24
  have HR0_1 := Aside0.mk hr0_1
  have HC0_1 := Aside0.mk hc0_1
  clear hr0_1 hc0_1
  have HB := Aside0.mk (Below.refl w.heap.size w)
  have H : (if a2 > 16 then (some (0, wrap64 (a0_0 + 1))) else (if (wrap64 (a1 + a2)) > a0_0 then (some (0, wrap64 (a0_0 + 1))) else (if 0 ≤ a2 then ((spec_biField.f k a0_0 l0_1 a1 a2).bind fun t318 => (some (wrap64 ((shl .i64 1 a2) + t318), wrap64 (a1 + a2)))) else (none)))) = some (r1, r2) := h
  clear h
  by_cases c4 : a2 > 16
  ·rw [if_pos c4] at H
   have c4b0 : decide (16 < a2) = true := decide_eq_true c4
   clear c4
   simp only [Option.some.injEq, Prod.mk.injEq] at H
   obtain ⟨rfl, rfl⟩ := H
   go_enter Try.func86, Try.ntmps86
   try go_wp2_with (first | ((with_reducible refine gate_dst (N := 3) rfl ?_); refine bx_ 3 #[.int .i64 a0_0, .slice A0_1 l0_1.length c0_1] 24 ?_; intro gb317 hg w5 hbox hb; have BK317 := Aside0.mk (hbox); have GW317 := Aside0.mk ((ge_ hg)); have GE317 := Aside0.mk ((ge_ hg)); replace HB := Aside0.mk (below_step hB_ hb); clear hb hbox hg))
   replace BK317 := Aside0.mk (blk_drew BK317.out)
   replace HB := Aside0.mk (below_drew1 HB.out)
   refine start_ (n := 5) (S := fun w' => w'.cell? ⟨gb317, 0, none⟩ = some (.int .i64 a0_0) ∧ w'.cell? ⟨gb317, 1, none⟩ = some (.slice A0_1 l0_1.length c0_1)) (ds := []) #[false, false, false, false, false] (by kernel_rfl) rfl rfl ⟨(blk_cell BK317.out 0).trans rfl, (blk_cell BK317.out 1).trans rfl⟩ (fun hHeld => ?_)
   generalize w5.drew = w6 at BK317 HB hHeld ⊢
   refine pure_ (i := 0) (N := some 18) (v := ?_) (a' := ?_) (bsA 5 1) rfl rfl (by kernel_rfl) (fun _ _ _ h => h) (Or.inl ⟨by rfl, ?_⟩) ?_ ?_
   rotate_left
   ·intro w'
    go_simp
    with_reducible rfl
   rotate_left
   ·simp only [Act.put, List.setIfInBounds_toArray, List.set_cons_zero, List.set_cons_succ, i64_w]
    rfl
   refine pure_ (i := 3) (N := some 6) (v := ?_) (a' := ?_) (bsA 5 9) rfl rfl (by kernel_rfl) (fun _ _ _ h => h) (Or.inl ⟨by rfl, ?_⟩) ?_ ?_
   rotate_left
   ·intro w'
    go_simp
    with_reducible rfl
   rotate_left
   ·simp only [Act.put, List.setIfInBounds_toArray, List.set_cons_zero, List.set_cons_succ, i64_w]
    rfl
   refine take_ (i := 1) (N := some 19) (v := ?_) (a' := ?_) (bsA 5 11) rfl rfl (by kernel_rfl) (fun _ _ _ h => h) (Or.inl ⟨by rfl, ?_⟩) hHeld ?_ ?_
   rotate_left
   ·rintro w' ⟨s0, s1⟩
    go_simp
    with_reducible rfl
   rotate_left
   ·simp only [Act.put, List.setIfInBounds_toArray, List.set_cons_zero, List.set_cons_succ, i64_w]
    rfl
   refine pure_ (i := 2) (N := some 20) (v := ?_) (a' := ?_) (bsA 5 15) rfl rfl (by kernel_rfl) (fun _ _ _ h => h) (Or.inl ⟨by rfl, ?_⟩) ?_ ?_
   rotate_left
   ·intro w'
    go_simp
    with_reducible rfl
   rotate_left
   ·simp only [Act.put, List.setIfInBounds_toArray, List.set_cons_zero, List.set_cons_succ, i64_w]
    rfl
   refine pure_ (i := 4) (N := some 7) (v := ?_) (a' := ?_) (bsA 5 31) rfl rfl (by kernel_rfl) (fun _ _ _ h => h) (Or.inl ⟨by rfl, ?_⟩) ?_ ?_
   rotate_left
   ·intro w'
    go_simp
    with_reducible rfl
   rotate_left
   ·simp only [Act.put, List.setIfInBounds_toArray, List.set_cons_zero, List.set_cons_succ, i64_w]
    rfl
   refine done_ (by kernel_rfl) ?_
   try go_wp2
   go_ret2
   exact ⟨rf_, hB_⟩
  ·rw [if_neg c4] at H
   have c4b0 : decide (16 < a2) = false := decide_eq_false c4
   clear c4
   by_cases c7 : (wrap64 (a1 + a2)) > a0_0
   ·rw [if_pos c7] at H
    have c7b0 : decide (a0_0 < (wrap64 (a1 + a2))) = true := decide_eq_true c7
    clear c7
    simp only [Option.some.injEq, Prod.mk.injEq] at H
    obtain ⟨rfl, rfl⟩ := H
    go_enter Try.func86, Try.ntmps86
    try go_wp2_with (first | ((with_reducible refine gate_dst (N := 3) rfl ?_); refine bx_ 3 #[.int .i64 a0_0, .slice A0_1 l0_1.length c0_1] 24 ?_; intro gb317 hg w8 hbox hb; have BK317 := Aside0.mk (hbox); have GW317 := Aside0.mk ((ge_ hg)); have GE317 := Aside0.mk ((ge_ hg)); replace HB := Aside0.mk (below_step hB_ hb); clear hb hbox hg; have hcz9_0 : w8.cell? ⟨gb317, 0, none⟩ = some (.int .i64 a0_0) := (blk_cell BK317.out 0).trans rfl; have hcz9_1 : w8.cell? ⟨gb317, 1, none⟩ = some (.slice A0_1 l0_1.length c0_1) := (blk_cell BK317.out 1).trans rfl; have hfz9_0 := blk_frozen BK317.out 0; have hfz9_1 := blk_frozen BK317.out 1))
    replace BK317 := Aside0.mk (blk_drew BK317.out)
    replace HB := Aside0.mk (below_drew1 HB.out)
    refine start_ (n := 5) (S := fun w' => w'.cell? ⟨gb317, 0, none⟩ = some (.int .i64 a0_0) ∧ w'.cell? ⟨gb317, 1, none⟩ = some (.slice A0_1 l0_1.length c0_1)) (ds := []) #[false, false, false, false, false] (by kernel_rfl) rfl rfl ⟨(blk_cell BK317.out 0).trans rfl, (blk_cell BK317.out 1).trans rfl⟩ (fun hHeld => ?_)
    generalize w8.drew = w10 at BK317 HB hHeld ⊢
    refine pure_ (i := 0) (N := some 18) (v := ?_) (a' := ?_) (bsA 5 1) rfl rfl (by kernel_rfl) (fun _ _ _ h => h) (Or.inl ⟨by rfl, ?_⟩) ?_ ?_
    rotate_left
    ·intro w'
     go_simp
     with_reducible rfl
    rotate_left
    ·simp only [Act.put, List.setIfInBounds_toArray, List.set_cons_zero, List.set_cons_succ, i64_w]
     rfl
    refine pure_ (i := 3) (N := some 6) (v := ?_) (a' := ?_) (bsA 5 9) rfl rfl (by kernel_rfl) (fun _ _ _ h => h) (Or.inl ⟨by rfl, ?_⟩) ?_ ?_
    rotate_left
    ·intro w'
     go_simp
     with_reducible rfl
    rotate_left
    ·simp only [Act.put, List.setIfInBounds_toArray, List.set_cons_zero, List.set_cons_succ, i64_w]
     rfl
    refine take_ (i := 1) (N := some 19) (v := ?_) (a' := ?_) (bsA 5 11) rfl rfl (by kernel_rfl) (fun _ _ _ h => h) (Or.inl ⟨by rfl, ?_⟩) hHeld ?_ ?_
    rotate_left
    ·rintro w' ⟨s0, s1⟩
     go_simp
     with_reducible rfl
    rotate_left
    ·simp only [Act.put, List.setIfInBounds_toArray, List.set_cons_zero, List.set_cons_succ, i64_w]
     rfl
    refine pure_ (i := 2) (N := some 20) (v := ?_) (a' := ?_) (bsA 5 15) rfl rfl (by kernel_rfl) (fun _ _ _ h => h) (Or.inl ⟨by rfl, ?_⟩) ?_ ?_
    rotate_left
    ·intro w'
     go_simp
     with_reducible rfl
    rotate_left
    ·simp only [Act.put, List.setIfInBounds_toArray, List.set_cons_zero, List.set_cons_succ, i64_w]
     rfl
    refine pure_ (i := 4) (N := some 7) (v := ?_) (a' := ?_) (bsA 5 31) rfl rfl (by kernel_rfl) (fun _ _ _ h => h) (Or.inl ⟨by rfl, ?_⟩) ?_ ?_
    rotate_left
    ·intro w'
     go_simp
     with_reducible rfl
    rotate_left
    ·simp only [Act.put, List.setIfInBounds_toArray, List.set_cons_zero, List.set_cons_succ, i64_w]
     rfl
    refine done_ (by kernel_rfl) ?_
    try go_wp2
    go_ret2
    exact ⟨rf_, hB_⟩
   ·rw [if_neg c7] at H
    have c7b0 : decide (a0_0 < (wrap64 (a1 + a2))) = false := decide_eq_false c7
    clear c7
    by_cases c11 : 0 ≤ a2
    ·rw [if_pos c11] at H
     have c11b0 := eq_true c11
     have c11b1 : decide (0 ≤ a2) = true := decide_eq_true c11
     clear c11
     obtain ⟨ji12, hji12⟩ : ∃ j_ : Int, (shl .i64 1 a2) = j_ := ⟨_, rfl⟩
     replace H : ((spec_biField.f k a0_0 l0_1 a1 a2).bind fun t318 => (some (wrap64 ((ji12) + t318), wrap64 (a1 + a2)))) = some (r1, r2) := by first | (rw [hji12] at H; exact H) | (simp only [hji12] at H ⊢; exact H)
     have hji12_ : (IntKind.i64.wrap (1 * 2 ^ min a2.toNat 64)) = ji12 := hji12
     have hji12z : a2 ≤ 64 → (IntKind.i64.wrap (1 * 2 ^ a2.toNat)) = ji12 := shl_small hji12
     have hji12u : (IntKind.i64.wrap (2 ^ min a2.toNat 64)) = ji12 := by have h_ := hji12_; rw [Int.one_mul] at h_; exact h_
     have hji12v : a2 ≤ 64 → (IntKind.i64.wrap (2 ^ a2.toNat)) = ji12 := fun hle_ => by have h_ := hji12z hle_; rw [Int.one_mul] at h_; exact h_
     have hji12y : (wrap64 (1 * 2 ^ min a2.toNat 64)) = ji12 := (i64_w _).symm.trans hji12_
     have hji12x : a2 ≤ 64 → (wrap64 (1 * 2 ^ a2.toNat)) = ji12 := fun h_ => (i64_w _).symm.trans (hji12z h_)
     replace H := Option.bind_eq_some_iff.mp H
     obtain ⟨t318, A130, H⟩ := H
     replace H : (some (wrap64 ((ji12) + t318), wrap64 (a1 + a2))) = some (r1, r2) := H
     have A13 := Aside0.mk A130
     clear A130
     simp only [Option.some.injEq, Prod.mk.injEq] at H
     obtain ⟨rfl, rfl⟩ := H
     go_enter Try.func86, Try.ntmps86
     try go_wp2_with (first | ((with_reducible refine gate_dst (N := 3) rfl ?_); refine bx_ 3 #[.int .i64 a0_0, .slice A0_1 l0_1.length c0_1] 24 ?_; intro gb317 hg w14 hbox hb; have BK317 := Aside0.mk (hbox); have GW317 := Aside0.mk ((ge_ hg)); have GE317 := Aside0.mk ((ge_ hg)); replace HB := Aside0.mk (below_step hB_ hb); clear hb hbox hg; have hcz15_0 : w14.cell? ⟨gb317, 0, none⟩ = some (.int .i64 a0_0) := (blk_cell BK317.out 0).trans rfl; have hcz15_1 : w14.cell? ⟨gb317, 1, none⟩ = some (.slice A0_1 l0_1.length c0_1) := (blk_cell BK317.out 1).trans rfl; have hfz15_0 := blk_frozen BK317.out 0; have hfz15_1 := blk_frozen BK317.out 1))
     replace BK317 := Aside0.mk (blk_drew BK317.out)
     replace HB := Aside0.mk (below_drew1 HB.out)
     refine start_ (n := 12) (S := fun w' => w'.cell? ⟨gb317, 0, none⟩ = some (.int .i64 a0_0) ∧ w'.cell? ⟨gb317, 1, none⟩ = some (.slice A0_1 l0_1.length c0_1)) (ds := []) #[false, false, false, false, false, false, false, false, false, false, false, false] (by kernel_rfl) rfl rfl ⟨(blk_cell BK317.out 0).trans rfl, (blk_cell BK317.out 1).trans rfl⟩ (fun hHeld => ?_); refine with_tabW spec_spRead.tab3 spec_spRead.bits3 (fun HT_ HW_ => ?_)
     generalize w14.drew = w16 at BK317 HB hHeld ⊢
     refine pr_ 0 21 12 1 ?_
     refine pr_ 1 22 12 3 ?_
     refine pr_ 3 24 12 11 ?_
     refine pr_ 4 25 12 27 ?_
     refine pr_ 7 28 12 155 ?_
     refine pr_ 8 29 12 411 ?_
     refine pr_ 9 30 12 923 ?_
     refine tq_ 2 23 12 927 HT_.out HW_.out (by kernel_rfl) hHeld ?_ rfl (by rintro w' ⟨s0, s1⟩; go_simp; with_reducible rfl)
     refine one_ (i := 5) (N := some 26) (bsA 12 959) rfl rfl (one_of HT_.out (by kernel_rfl)) (by decide) (fun K hK => ?_)
     refine goes_ Try.func108 (by kernel_rfl) rfl #[.agg #[.int .i64 a0_0, .slice A0_1 l0_1.length c0_1], .int .i64 a1, .int .i64 a2] (by rfl) rfl rfl (by (try simp only [List.map_toArray, List.map_cons, List.map_nil]); first | done | rfl | (simp only [List.length_drop, List.length_take]; rfl)) ?_
     with_reducible refine (spec_biField.calls k a0_0 _ _ l0_1 a1 a2 t318 _ ?side1 ?side2 A13.out).mono ?_
     (case side1 => exact kC_ HR0_1)
     (case side2 => exact HC0_1.out)
     rintro e w17 ⟨rfl, hb⟩
     refine ⟨_, rfl, ?_⟩
     replace BK317 := Aside0.mk (blk_below (kB_ BK317) hb)
     replace HB := Aside0.mk (below_step hB_ hb)
     (try clear hb)
     (try clear hb2)
     (try clear hk)
     (try clear hi)
     refine hK.out _ _ ⟨(blk_cell BK317.out 0).trans rfl, (blk_cell BK317.out 1).trans rfl⟩ (fun hHeld => ?_)
     clear hK K
     refine norm_ (a' := ?_) ?_ ?_
     rotate_left
     ·show Act.put _ (some 26) _ = _
      simp only [Act.put, List.setIfInBounds_toArray, List.set_cons_zero, List.set_cons_succ, i64_w]
      rfl
     refine pr_ 6 27 12 1023 ?_
     refine pr_ 10 6 12 2047 ?_
     refine pr_ 11 7 12 4095 ?_
     refine done_ (done_of HT_.out (by kernel_rfl)) ?_
     try go_wp2
     go_ret2
     exact ⟨by first | rfl | (simp [errW_none, errW_some] <;> rfl) | (simp only [← hji12]; first | rfl | (simp [errW_none, errW_some] <;> rfl)) | (simp [*, errW_none, errW_some] <;> rfl), hB_⟩
    ·rw [if_neg c11] at H
     exact absurd H (by simp)
/-! ### spec_biNext: function 107 -/
def spec_biNext.l0 : Nat → Bool → Int → Int → List Int → Option (Int)
  | 0, _, _, _, _ => none
  | k + 1, x2, x7, x320000, x320001 => if x7 < x320000 then ((spec_biAt.f x320000 x320001 x7).bind fun t320 => (if (t320 == x2) = true then (some x7) else (spec_biNext.l0 k x2 (wrap64 (x7 + 1)) x320000 x320001))) else (some (-1))
def spec_biNext.f (k : Nat) (a0_0 : Int) (l0_1 : List Int) (a1 : Int) (a2 : Bool) : Option (Int) := spec_biNext.l0 k a2 a1 a0_0 l0_1
theorem spec_biNext.mono_l : ∀ k, (∀ y0 y1 y2 y3, LeO (spec_biNext.l0 k y0 y1 y2 y3) (spec_biNext.l0 (k + 1) y0 y1 y2 y3))
  | 0 => fun _ _ _ _ r h => by simp [spec_biNext.l0] at h
  | k + 1 => by
    have ih0 := spec_biNext.mono_l k
    · intro y0 y1 y2 y3
      unfold spec_biNext.l0
      repeat' first
      | (with_reducible exact ih0 _ _ _ _)
      | (with_reducible exact LeO.refl _)
      | (with_reducible exact LeO.none _)
      | (with_reducible refine LeO.ite ?_ ?_)
      | (with_reducible refine LeO.bind ?_ (fun _ => ?_))
      | exact ih0 _ _ _ _
      | exact LeO.none _
      | refine LeO.ite ?_ ?_
      | refine LeO.bind ?_ (fun _ => ?_)
theorem spec_biNext.mono : ∀ a0 a1 a2 a3 k, LeO (spec_biNext.f k a0 a1 a2 a3) (spec_biNext.f (k + 1) a0 a1 a2 a3) := by
  intro a0 a1 a2 a3 k
  have ih0 := spec_biNext.mono_l k
  unfold spec_biNext.f
  repeat' first
      | (with_reducible exact ih0 _ _ _ _)
      | (with_reducible exact LeO.refl _)
      | (with_reducible exact LeO.none _)
      | (with_reducible refine LeO.ite ?_ ?_)
      | (with_reducible refine LeO.bind ?_ (fun _ => ?_))
      | exact ih0 _ _ _ _
      | exact LeO.none _
      | refine LeO.ite ?_ ?_
      | refine LeO.bind ?_ (fun _ => ?_)
noncomputable def spec_biNext.L0 (y0 : Bool) (y1 : Int) (y2 : Int) (y3 : List Int) : Option (Int) := lim fun k => spec_biNext.l0 k y0 y1 y2 y3
theorem spec_biNext.L0_sup (y0 : Bool) (y1 : Int) (y2 : Int) (y3 : List Int) : Sup (fun k => spec_biNext.l0 k y0 y1 y2 y3) (spec_biNext.L0 y0 y1 y2 y3) := Sup.of_mono fun k => spec_biNext.mono_l k y0 y1 y2 y3
noncomputable def spec_biNext.F (a0_0 : Int) (l0_1 : List Int) (a1 : Int) (a2 : Bool) : Option (Int) := lim fun k => spec_biNext.f k a0_0 l0_1 a1 a2
theorem spec_biNext.F_sup (a0_0 : Int) (l0_1 : List Int) (a1 : Int) (a2 : Bool) : Sup (fun k => spec_biNext.f k a0_0 l0_1 a1 a2) (spec_biNext.F a0_0 l0_1 a1 a2) := Sup.of_mono fun k => spec_biNext.mono a0_0 l0_1 a1 a2 k
theorem spec_biNext.L0_eq (x2 : Bool) (x7 : Int) (x320000 : Int) (x320001 : List Int) : spec_biNext.L0 x2 x7 x320000 x320001 = if x7 < x320000 then ((spec_biAt.f x320000 x320001 x7).bind fun t320 => (if (t320 == x2) = true then (some x7) else (spec_biNext.L0 x2 (wrap64 (x7 + 1)) x320000 x320001))) else (some (-1)) := by
  refine Sup.unique (spec_biNext.L0_sup x2 x7 x320000 x320001) (Sup.shift (fun k => spec_biNext.mono_l k x2 x7 x320000 x320001) (Sup.congr (g' := fun k => if x7 < x320000 then ((spec_biAt.f x320000 x320001 x7).bind fun t320 => (if (t320 == x2) = true then (some x7) else (spec_biNext.l0 k x2 (wrap64 (x7 + 1)) x320000 x320001))) else (some (-1))) (fun k => by first | rfl | simp only [spec_biNext.l0]) ?_))
  repeat' first
    | (with_reducible exact spec_biNext.L0_sup _ _ _ _)
    | (with_reducible refine Sup.ite ?_ ?_)
    | (with_reducible refine Sup.bind ?_ (fun _ => ?_))
    | (with_reducible exact Sup.const _)
    | exact spec_biNext.L0_sup _ _ _ _
    | exact Sup.const _
theorem spec_biNext.F_eq (a0_0 : Int) (l0_1 : List Int) (a1 : Int) (a2 : Bool) : spec_biNext.F a0_0 l0_1 a1 a2 = spec_biNext.L0 a2 a1 a0_0 l0_1 := by
  refine Sup.unique (spec_biNext.F_sup a0_0 l0_1 a1 a2) (Sup.congr (g' := fun k => spec_biNext.l0 k a2 a1 a0_0 l0_1) (fun k => by first | rfl | simp only [spec_biNext.f]) ?_)
  repeat' first
    | (with_reducible exact spec_biNext.L0_sup _ _ _ _)
    | (with_reducible refine Sup.ite ?_ ?_)
    | (with_reducible refine Sup.bind ?_ (fun _ => ?_))
    | (with_reducible exact Sup.const _)
    | exact spec_biNext.L0_sup _ _ _ _
    | exact Sup.const _
set_option maxHeartbeats 8000000 in
set_option maxRecDepth 100000 in
theorem spec_biNext.calls (k : Nat) (a0_0 : Int) (A0_1 : Option Addr) (c0_1 : Nat) (l0_1 : List Int) (a1 : Int) (a2 : Bool) (r : Int) (w : World) (hr0_1 : Kd.C (Kd.int .i64) w A0_1 l0_1.length l0_1) (hc0_1 : l0_1.length ≤ c0_1) (h : spec_biNext.f k a0_0 l0_1 a1 a2 = some r) :
    Calls Try.prog 107 #[.agg #[.int .i64 a0_0, .slice A0_1 l0_1.length c0_1], .int .i64 a1, .bool a2] w fun e w' => e = .returned (.int .i64 r) ∧ Below w.heap.size w w' := by
  have hu24 := Try.underlying24
  have HR0_1 := Aside0.mk hr0_1
  have HC0_1 := Aside0.mk hc0_1
  clear hr0_1 hc0_1
  have HB := Aside0.mk (Below.refl w.heap.size w)
  have H : (spec_biNext.l0 k a2 a1 a0_0 l0_1) = some r := h
  clear h
  have H' := Aside0.mk H
  clear H
  go_enter Try.func107, Try.ntmps107
  go_wp2_with (first | ((with_reducible refine gate_dst (N := 3) rfl ?_); refine bx_ 3 #[.int .i64 a0_0, .slice A0_1 l0_1.length c0_1] 24 ?_; intro gb319 hg w4 hbox hb; have BK319 := Aside0.mk (hbox); have GW319 := Aside0.mk ((ge_ hg)); have GE319 := Aside0.mk ((ge_ hg)); replace HB := Aside0.mk (below_step hB_ hb); clear hb hbox hg))
  go_loopg [7] k (fun kq v7 w' => ∃ (x7_1 : Int), v7 = .int .i64 x7_1 ∧ Aside0 (spec_biNext.l0 kq a2 x7_1 a0_0 l0_1 = some r) ∧ Aside0 (kq ≤ k) ∧ Aside0 (w'.heap[gb319]? = some (.cells #[.int .i64 a0_0, (.slice A0_1 l0_1.length c0_1)] 24 (0, 0))) ∧ Aside0 (Below w.heap.size w w'))
  case atStart => exact ⟨(a1), rg_, H', ⟨Nat.le_refl _⟩, ⟨kB_ BK319⟩, ⟨hB_⟩⟩
  case round =>
   clear H'
   try clear c1
   try clear p2
   obtain ⟨x7_1, rfl, HA, HK1, BK319, HB⟩ := hrel
   cases gk with
   | zero => exact absurd HA.out (by simp [spec_biNext.l0])
   | succ k1 =>
    have H := HA.out
    clear HA
    simp only [spec_biNext.l0] at H
    by_cases c5 : x7_1 < a0_0
    ·rw [if_pos c5] at H
     have c5b0 : decide (x7_1 < a0_0) = true := decide_eq_true c5
     clear c5
     replace H := Option.bind_eq_some_iff.mp H
     obtain ⟨t320, A60, H⟩ := H
     replace H : (if (t320 == a2) = true then (some x7_1) else (spec_biNext.l0 k1 a2 (wrap64 (x7_1 + 1)) a0_0 l0_1)) = some r := H
     have A6 := Aside0.mk A60
     clear A60
     by_cases c7 : (t320 == a2) = true
     ·rw [if_pos c7] at H
      have c7b0 : (t320 == a2) = true := c7
      (try (have c7b1 : decide (t320 = a2) = true := by simpa using c7))
      (try (have c7b2 : (t320 == a2) = true := by simpa using c7))
      clear c7
      obtain rfl := Option.some.inj H
      have hcz8_0 : wr.cell? ⟨gb319, 0, none⟩ = some (.int .i64 a0_0) := (blk_cell BK319.out 0).trans rfl
      have hcz8_1 : wr.cell? ⟨gb319, 1, none⟩ = some (.slice A0_1 l0_1.length c0_1) := (blk_cell BK319.out 1).trans rfl
      have hfz8_0 := blk_frozen BK319.out 0
      have hfz8_1 := blk_frozen BK319.out 1
      go_wp2_with (first | ((with_reducible refine gate_callee (f := 102) rfl ?_); refine gl_ 17 Try.func102 #[.agg #[.int .i64 a0_0, .slice A0_1 l0_1.length c0_1], .int .i64 x7_1] ?_; (with_reducible refine (spec_biAt.calls a0_0 _ _ l0_1 x7_1 t320 _ ?side1 ?side2 A6.out).mono ?_); (case side1 => exact kC_ HR0_1); (case side2 => exact HC0_1.out); rintro e w9 ⟨rfl, hb⟩; refine ⟨_, rfl, ?_⟩; replace BK319 := Aside0.mk (blk_below (kB_ BK319) hb); replace HB := Aside0.mk (below_step hB_ hb); (try clear hb); (try clear hb2); (try clear hk); (try clear hi)))
      go_ret
      exact ⟨rf_, hB_⟩
     ·rw [if_neg c7] at H
      have c7b0 : (t320 == a2) = false := by simpa using c7
      (try (have c7b1 : decide (t320 = a2) = false := by simpa using c7))
      (try (have c7b2 : (t320 == a2) = false := by simpa using c7))
      (try (have c7b3 : ¬ (t320 = a2) := by simpa using c7))
      clear c7
      have H' := Aside0.mk H
      clear H
      have hcz10_0 : wr.cell? ⟨gb319, 0, none⟩ = some (.int .i64 a0_0) := (blk_cell BK319.out 0).trans rfl
      have hcz10_1 : wr.cell? ⟨gb319, 1, none⟩ = some (.slice A0_1 l0_1.length c0_1) := (blk_cell BK319.out 1).trans rfl
      have hfz10_0 := blk_frozen BK319.out 0
      have hfz10_1 := blk_frozen BK319.out 1
      go_wp2_with (first | ((with_reducible refine gate_callee (f := 102) rfl ?_); refine gl_ 17 Try.func102 #[.agg #[.int .i64 a0_0, .slice A0_1 l0_1.length c0_1], .int .i64 x7_1] ?_; (with_reducible refine (spec_biAt.calls a0_0 _ _ l0_1 x7_1 t320 _ ?side1 ?side2 A6.out).mono ?_); (case side1 => exact kC_ HR0_1); (case side2 => exact HC0_1.out); rintro e w11 ⟨rfl, hb⟩; refine ⟨_, rfl, ?_⟩; replace BK319 := Aside0.mk (blk_below (kB_ BK319) hb); replace HB := Aside0.mk (below_step hB_ hb); (try clear hb); (try clear hb2); (try clear hk); (try clear hi)))
      go_roundg k1
      case measure => have := HK1.out; omega
      case rel => exact ⟨(wrap64 (x7_1 + 1)), rg_, H', ⟨by have := HK1.out; omega⟩, ⟨kB_ BK319⟩, ⟨hB_⟩⟩
    ·rw [if_neg c5] at H
     have c5b0 : decide (x7_1 < a0_0) = false := decide_eq_false c5
     clear c5
     obtain rfl := Option.some.inj H
     have hcz12_0 : wr.cell? ⟨gb319, 0, none⟩ = some (.int .i64 a0_0) := (blk_cell BK319.out 0).trans rfl
     have hcz12_1 : wr.cell? ⟨gb319, 1, none⟩ = some (.slice A0_1 l0_1.length c0_1) := (blk_cell BK319.out 1).trans rfl
     have hfz12_0 := blk_frozen BK319.out 0
     have hfz12_1 := blk_frozen BK319.out 1
     go_wp2
     go_ret
     exact ⟨rf_, hB_⟩
/-! ### spec_spOne: function 85 -/
def spec_spOne.f (k : Nat) (a0_0 : Int) (l0_1 : List Int) (a1 : Int) : Option (Int × Int) := (spec_biNext.f k a0_0 l0_1 a1 true).bind fun t322 => (if t322 < 0 then (some (0, wrap64 (a0_0 + 1))) else ((spec_spRead.f k a0_0 l0_1 (wrap64 (t322 + 1)) (wrap64 (t322 - a1))).bind fun bt323 => (some (bt323.1, bt323.2))))
theorem spec_spOne.mono : ∀ a0 a1 a2 k, LeO (spec_spOne.f k a0 a1 a2) (spec_spOne.f (k + 1) a0 a1 a2) := by
  intro a0 a1 a2 k
  unfold spec_spOne.f
  repeat' first
      | (with_reducible exact spec_biNext.mono _ _ _ _ _)
      | (with_reducible exact spec_spRead.mono _ _ _ _ _)
      | (with_reducible exact LeO.refl _)
      | (with_reducible exact LeO.none _)
      | (with_reducible refine LeO.ite ?_ ?_)
      | (with_reducible refine LeO.bind ?_ (fun _ => ?_))
      | exact spec_biNext.mono _ _ _ _ _
      | exact spec_spRead.mono _ _ _ _ _
      | exact LeO.none _
      | refine LeO.ite ?_ ?_
      | refine LeO.bind ?_ (fun _ => ?_)
noncomputable def spec_spOne.F (a0_0 : Int) (l0_1 : List Int) (a1 : Int) : Option (Int × Int) := lim fun k => spec_spOne.f k a0_0 l0_1 a1
theorem spec_spOne.F_sup (a0_0 : Int) (l0_1 : List Int) (a1 : Int) : Sup (fun k => spec_spOne.f k a0_0 l0_1 a1) (spec_spOne.F a0_0 l0_1 a1) := Sup.of_mono fun k => spec_spOne.mono a0_0 l0_1 a1 k
theorem spec_spOne.F_eq (a0_0 : Int) (l0_1 : List Int) (a1 : Int) : spec_spOne.F a0_0 l0_1 a1 = (spec_biNext.F a0_0 l0_1 a1 true).bind fun t322 => (if t322 < 0 then (some (0, wrap64 (a0_0 + 1))) else ((spec_spRead.F a0_0 l0_1 (wrap64 (t322 + 1)) (wrap64 (t322 - a1))).bind fun bt323 => (some (bt323.1, bt323.2)))) := by
  refine Sup.unique (spec_spOne.F_sup a0_0 l0_1 a1) (Sup.congr (g' := fun k => (spec_biNext.f k a0_0 l0_1 a1 true).bind fun t322 => (if t322 < 0 then (some (0, wrap64 (a0_0 + 1))) else ((spec_spRead.f k a0_0 l0_1 (wrap64 (t322 + 1)) (wrap64 (t322 - a1))).bind fun bt323 => (some (bt323.1, bt323.2))))) (fun k => by first | rfl | simp only [spec_spOne.f]) ?_)
  repeat' first
    | (with_reducible exact spec_spRead.F_sup _ _ _ _)
    | (with_reducible exact spec_biNext.F_sup _ _ _ _)
    | (with_reducible refine Sup.ite ?_ ?_)
    | (with_reducible refine Sup.bind ?_ (fun _ => ?_))
    | (with_reducible exact Sup.const _)
    | exact spec_spRead.F_sup _ _ _ _
    | exact spec_biNext.F_sup _ _ _ _
    | exact Sup.const _
set_option maxHeartbeats 8000000 in
set_option maxRecDepth 100000 in
theorem spec_spOne.calls (k : Nat) (a0_0 : Int) (A0_1 : Option Addr) (c0_1 : Nat) (l0_1 : List Int) (a1 : Int) (r1 : Int) (r2 : Int) (w : World) (hr0_1 : Kd.C (Kd.int .i64) w A0_1 l0_1.length l0_1) (hc0_1 : l0_1.length ≤ c0_1) (h : spec_spOne.f k a0_0 l0_1 a1 = some (r1, r2)) :
    Calls Try.prog 85 #[.agg #[.int .i64 a0_0, .slice A0_1 l0_1.length c0_1], .int .i64 a1] w fun e w' => e = .returned (.tuple #[.int .i64 r1, .int .i64 r2]) ∧ Below w.heap.size w w' := by
  have hu24 := Try.underlying24
  have HR0_1 := Aside0.mk hr0_1
  have HC0_1 := Aside0.mk hc0_1
  clear hr0_1 hc0_1
  have HB := Aside0.mk (Below.refl w.heap.size w)
  have H : ((spec_biNext.f k a0_0 l0_1 a1 true).bind fun t322 => (if t322 < 0 then (some (0, wrap64 (a0_0 + 1))) else ((spec_spRead.f k a0_0 l0_1 (wrap64 (t322 + 1)) (wrap64 (t322 - a1))).bind fun bt323 => (some (bt323.1, bt323.2))))) = some (r1, r2) := h
  clear h
  replace H := Option.bind_eq_some_iff.mp H
  obtain ⟨t322, A30, H⟩ := H
  replace H : (if t322 < 0 then (some (0, wrap64 (a0_0 + 1))) else ((spec_spRead.f k a0_0 l0_1 (wrap64 (t322 + 1)) (wrap64 (t322 - a1))).bind fun bt323 => (some (bt323.1, bt323.2)))) = some (r1, r2) := H
  have A3 := Aside0.mk A30
  clear A30
  by_cases c4 : t322 < 0
  ·rw [if_pos c4] at H
   have c4b0 : decide (t322 < 0) = true := decide_eq_true c4
   clear c4
   simp only [Option.some.injEq, Prod.mk.injEq] at H
   obtain ⟨rfl, rfl⟩ := H
   go_enter Try.func85, Try.ntmps85
   go_wp2_with (first | ((with_reducible refine gate_dst (N := 2) rfl ?_); refine bx_ 2 #[.int .i64 a0_0, .slice A0_1 l0_1.length c0_1] 24 ?_; intro gb321 hg w5 hbox hb; have BK321 := Aside0.mk (hbox); have GW321 := Aside0.mk ((ge_ hg)); have GE321 := Aside0.mk ((ge_ hg)); replace HB := Aside0.mk (below_step hB_ hb); clear hb hbox hg; have hcz6_0 : w5.cell? ⟨gb321, 0, none⟩ = some (.int .i64 a0_0) := (blk_cell BK321.out 0).trans rfl; have hcz6_1 : w5.cell? ⟨gb321, 1, none⟩ = some (.slice A0_1 l0_1.length c0_1) := (blk_cell BK321.out 1).trans rfl; have hfz6_0 := blk_frozen BK321.out 0; have hfz6_1 := blk_frozen BK321.out 1) | (go_at_call 107; (with_reducible refine (spec_biNext.calls k a0_0 _ _ l0_1 a1 true t322 _ ?side1 ?side2 A3.out).mono ?_); (case side1 => exact kC_ HR0_1); (case side2 => exact HC0_1.out); rintro e w7 ⟨rfl, hb⟩; replace BK321 := Aside0.mk (blk_below (kB_ BK321) hb); replace HB := Aside0.mk (below_step hB_ hb); (try clear hb); (try clear hb2); (try clear hk); (try clear hi); have hcz8_0 : w7.cell? ⟨gb321, 0, none⟩ = some (.int .i64 a0_0) := (blk_cell BK321.out 0).trans rfl; have hcz8_1 : w7.cell? ⟨gb321, 1, none⟩ = some (.slice A0_1 l0_1.length c0_1) := (blk_cell BK321.out 1).trans rfl; have hfz8_0 := blk_frozen BK321.out 0; have hfz8_1 := blk_frozen BK321.out 1))
   repeat (go_quiet (first | ((with_reducible refine gate_dst (N := 2) rfl ?_); refine bx_ 2 #[.int .i64 a0_0, .slice A0_1 l0_1.length c0_1] 24 ?_; intro gb321 hg w5 hbox hb; have BK321 := Aside0.mk (hbox); have GW321 := Aside0.mk ((ge_ hg)); have GE321 := Aside0.mk ((ge_ hg)); replace HB := Aside0.mk (below_step hB_ hb); clear hb hbox hg; have hcz6_0 : w5.cell? ⟨gb321, 0, none⟩ = some (.int .i64 a0_0) := (blk_cell BK321.out 0).trans rfl; have hcz6_1 : w5.cell? ⟨gb321, 1, none⟩ = some (.slice A0_1 l0_1.length c0_1) := (blk_cell BK321.out 1).trans rfl; have hfz6_0 := blk_frozen BK321.out 0; have hfz6_1 := blk_frozen BK321.out 1) | (go_at_call 107; (with_reducible refine (spec_biNext.calls k a0_0 _ _ l0_1 a1 true t322 _ ?side1 ?side2 A3.out).mono ?_); (case side1 => exact kC_ HR0_1); (case side2 => exact HC0_1.out); rintro e w7 ⟨rfl, hb⟩; replace BK321 := Aside0.mk (blk_below (kB_ BK321) hb); replace HB := Aside0.mk (below_step hB_ hb); (try clear hb); (try clear hb2); (try clear hk); (try clear hi); have hcz8_0 : w7.cell? ⟨gb321, 0, none⟩ = some (.int .i64 a0_0) := (blk_cell BK321.out 0).trans rfl; have hcz8_1 : w7.cell? ⟨gb321, 1, none⟩ = some (.slice A0_1 l0_1.length c0_1) := (blk_cell BK321.out 1).trans rfl; have hfz8_0 := blk_frozen BK321.out 0; have hfz8_1 := blk_frozen BK321.out 1)); try go_wp2_with (first | ((with_reducible refine gate_dst (N := 2) rfl ?_); refine bx_ 2 #[.int .i64 a0_0, .slice A0_1 l0_1.length c0_1] 24 ?_; intro gb321 hg w5 hbox hb; have BK321 := Aside0.mk (hbox); have GW321 := Aside0.mk ((ge_ hg)); have GE321 := Aside0.mk ((ge_ hg)); replace HB := Aside0.mk (below_step hB_ hb); clear hb hbox hg; have hcz6_0 : w5.cell? ⟨gb321, 0, none⟩ = some (.int .i64 a0_0) := (blk_cell BK321.out 0).trans rfl; have hcz6_1 : w5.cell? ⟨gb321, 1, none⟩ = some (.slice A0_1 l0_1.length c0_1) := (blk_cell BK321.out 1).trans rfl; have hfz6_0 := blk_frozen BK321.out 0; have hfz6_1 := blk_frozen BK321.out 1) | (go_at_call 107; (with_reducible refine (spec_biNext.calls k a0_0 _ _ l0_1 a1 true t322 _ ?side1 ?side2 A3.out).mono ?_); (case side1 => exact kC_ HR0_1); (case side2 => exact HC0_1.out); rintro e w7 ⟨rfl, hb⟩; replace BK321 := Aside0.mk (blk_below (kB_ BK321) hb); replace HB := Aside0.mk (below_step hB_ hb); (try clear hb); (try clear hb2); (try clear hk); (try clear hi); have hcz8_0 : w7.cell? ⟨gb321, 0, none⟩ = some (.int .i64 a0_0) := (blk_cell BK321.out 0).trans rfl; have hcz8_1 : w7.cell? ⟨gb321, 1, none⟩ = some (.slice A0_1 l0_1.length c0_1) := (blk_cell BK321.out 1).trans rfl; have hfz8_0 := blk_frozen BK321.out 0; have hfz8_1 := blk_frozen BK321.out 1)))
   go_ret2
   exact ⟨rf_, hB_⟩
  ·rw [if_neg c4] at H
   have c4b0 : decide (t322 < 0) = false := decide_eq_false c4
   clear c4
   replace H := Option.bind_eq_some_iff.mp H
   obtain ⟨⟨t323, t324⟩, A90, H⟩ := H
   replace H : (some (t323, t324)) = some (r1, r2) := H
   have A9 := Aside0.mk A90
   clear A90
   simp only [Option.some.injEq, Prod.mk.injEq] at H
   obtain ⟨rfl, rfl⟩ := H
   go_enter Try.func85, Try.ntmps85
   go_wp2_with (first | ((with_reducible refine gate_dst (N := 2) rfl ?_); refine bx_ 2 #[.int .i64 a0_0, .slice A0_1 l0_1.length c0_1] 24 ?_; intro gb321 hg w10 hbox hb; have BK321 := Aside0.mk (hbox); have GW321 := Aside0.mk ((ge_ hg)); have GE321 := Aside0.mk ((ge_ hg)); replace HB := Aside0.mk (below_step hB_ hb); clear hb hbox hg; have hcz11_0 : w10.cell? ⟨gb321, 0, none⟩ = some (.int .i64 a0_0) := (blk_cell BK321.out 0).trans rfl; have hcz11_1 : w10.cell? ⟨gb321, 1, none⟩ = some (.slice A0_1 l0_1.length c0_1) := (blk_cell BK321.out 1).trans rfl; have hfz11_0 := blk_frozen BK321.out 0; have hfz11_1 := blk_frozen BK321.out 1) | (go_at_call 107; (with_reducible refine (spec_biNext.calls k a0_0 _ _ l0_1 a1 true t322 _ ?side1 ?side2 A3.out).mono ?_); (case side1 => exact kC_ HR0_1); (case side2 => exact HC0_1.out); rintro e w12 ⟨rfl, hb⟩; replace BK321 := Aside0.mk (blk_below (kB_ BK321) hb); replace HB := Aside0.mk (below_step hB_ hb); (try clear hb); (try clear hb2); (try clear hk); (try clear hi); have hcz13_0 : w12.cell? ⟨gb321, 0, none⟩ = some (.int .i64 a0_0) := (blk_cell BK321.out 0).trans rfl; have hcz13_1 : w12.cell? ⟨gb321, 1, none⟩ = some (.slice A0_1 l0_1.length c0_1) := (blk_cell BK321.out 1).trans rfl; have hfz13_0 := blk_frozen BK321.out 0; have hfz13_1 := blk_frozen BK321.out 1) | (go_at_call 86; (with_reducible refine (spec_spRead.calls k a0_0 _ _ l0_1 (wrap64 (t322 + 1)) (wrap64 (t322 - a1)) t323 t324 _ ?side1 ?side2 A9.out).mono ?_); (case side1 => exact kC_ HR0_1); (case side2 => exact HC0_1.out); rintro e w14 ⟨rfl, hb⟩; replace BK321 := Aside0.mk (blk_below (kB_ BK321) hb); replace HB := Aside0.mk (below_step hB_ hb); (try clear hb); (try clear hb2); (try clear hk); (try clear hi)))
   repeat (go_quiet (first | ((with_reducible refine gate_dst (N := 2) rfl ?_); refine bx_ 2 #[.int .i64 a0_0, .slice A0_1 l0_1.length c0_1] 24 ?_; intro gb321 hg w10 hbox hb; have BK321 := Aside0.mk (hbox); have GW321 := Aside0.mk ((ge_ hg)); have GE321 := Aside0.mk ((ge_ hg)); replace HB := Aside0.mk (below_step hB_ hb); clear hb hbox hg; have hcz11_0 : w10.cell? ⟨gb321, 0, none⟩ = some (.int .i64 a0_0) := (blk_cell BK321.out 0).trans rfl; have hcz11_1 : w10.cell? ⟨gb321, 1, none⟩ = some (.slice A0_1 l0_1.length c0_1) := (blk_cell BK321.out 1).trans rfl; have hfz11_0 := blk_frozen BK321.out 0; have hfz11_1 := blk_frozen BK321.out 1) | (go_at_call 107; (with_reducible refine (spec_biNext.calls k a0_0 _ _ l0_1 a1 true t322 _ ?side1 ?side2 A3.out).mono ?_); (case side1 => exact kC_ HR0_1); (case side2 => exact HC0_1.out); rintro e w12 ⟨rfl, hb⟩; replace BK321 := Aside0.mk (blk_below (kB_ BK321) hb); replace HB := Aside0.mk (below_step hB_ hb); (try clear hb); (try clear hb2); (try clear hk); (try clear hi); have hcz13_0 : w12.cell? ⟨gb321, 0, none⟩ = some (.int .i64 a0_0) := (blk_cell BK321.out 0).trans rfl; have hcz13_1 : w12.cell? ⟨gb321, 1, none⟩ = some (.slice A0_1 l0_1.length c0_1) := (blk_cell BK321.out 1).trans rfl; have hfz13_0 := blk_frozen BK321.out 0; have hfz13_1 := blk_frozen BK321.out 1) | (go_at_call 86; (with_reducible refine (spec_spRead.calls k a0_0 _ _ l0_1 (wrap64 (t322 + 1)) (wrap64 (t322 - a1)) t323 t324 _ ?side1 ?side2 A9.out).mono ?_); (case side1 => exact kC_ HR0_1); (case side2 => exact HC0_1.out); rintro e w14 ⟨rfl, hb⟩; replace BK321 := Aside0.mk (blk_below (kB_ BK321) hb); replace HB := Aside0.mk (below_step hB_ hb); (try clear hb); (try clear hb2); (try clear hk); (try clear hi))); try go_wp2_with (first | ((with_reducible refine gate_dst (N := 2) rfl ?_); refine bx_ 2 #[.int .i64 a0_0, .slice A0_1 l0_1.length c0_1] 24 ?_; intro gb321 hg w10 hbox hb; have BK321 := Aside0.mk (hbox); have GW321 := Aside0.mk ((ge_ hg)); have GE321 := Aside0.mk ((ge_ hg)); replace HB := Aside0.mk (below_step hB_ hb); clear hb hbox hg; have hcz11_0 : w10.cell? ⟨gb321, 0, none⟩ = some (.int .i64 a0_0) := (blk_cell BK321.out 0).trans rfl; have hcz11_1 : w10.cell? ⟨gb321, 1, none⟩ = some (.slice A0_1 l0_1.length c0_1) := (blk_cell BK321.out 1).trans rfl; have hfz11_0 := blk_frozen BK321.out 0; have hfz11_1 := blk_frozen BK321.out 1) | (go_at_call 107; (with_reducible refine (spec_biNext.calls k a0_0 _ _ l0_1 a1 true t322 _ ?side1 ?side2 A3.out).mono ?_); (case side1 => exact kC_ HR0_1); (case side2 => exact HC0_1.out); rintro e w12 ⟨rfl, hb⟩; replace BK321 := Aside0.mk (blk_below (kB_ BK321) hb); replace HB := Aside0.mk (below_step hB_ hb); (try clear hb); (try clear hb2); (try clear hk); (try clear hi); have hcz13_0 : w12.cell? ⟨gb321, 0, none⟩ = some (.int .i64 a0_0) := (blk_cell BK321.out 0).trans rfl; have hcz13_1 : w12.cell? ⟨gb321, 1, none⟩ = some (.slice A0_1 l0_1.length c0_1) := (blk_cell BK321.out 1).trans rfl; have hfz13_0 := blk_frozen BK321.out 0; have hfz13_1 := blk_frozen BK321.out 1) | (go_at_call 86; (with_reducible refine (spec_spRead.calls k a0_0 _ _ l0_1 (wrap64 (t322 + 1)) (wrap64 (t322 - a1)) t323 t324 _ ?side1 ?side2 A9.out).mono ?_); (case side1 => exact kC_ HR0_1); (case side2 => exact HC0_1.out); rintro e w14 ⟨rfl, hb⟩; replace BK321 := Aside0.mk (blk_below (kB_ BK321) hb); replace HB := Aside0.mk (below_step hB_ hb); (try clear hb); (try clear hb2); (try clear hk); (try clear hi))))
   go_ret2
   exact ⟨rf_, hB_⟩
/-! ### spec_spDecode: function 53 -/
mutual
def spec_spDecode.l0 : Nat → Int → Bool → List Int → Int → Int → List Int → Option (List Int × Bool)
  | 0, _, _, _, _, _, _ => none
  | k + 1, x1, x2, x8, x9, x326000, x326001 => if (x8.length : Int) < x1 then ((spec_spOne.f k x326000 x326001 x9).bind fun bt326 => (if x2 = true then (spec_spDecode.j1 k x1 x2 x8 bt326.1 bt326.2 (decide (bt326.2 ≤ x326000)) x326000 x326001) else (spec_spDecode.j1 k x1 x2 x8 bt326.1 bt326.2 false x326000 x326001))) else (some (x8, (x9 == x326000)))
def spec_spDecode.j1 : Nat → Int → Bool → List Int → Int → Int → Bool → Int → List Int → Option (List Int × Bool)
  | 0, _, _, _, _, _, _, _, _ => none
  | k + 1, x1, x2, x8, x10, x11, x28, x326000, x326001 => if x28 = true then ((spec_spRead.f k x326000 x326001 x11 (wrap64 (x10 - 1))).bind fun bt328 => (if bt328.2 > x326000 then (some (([] : List Int), false)) else (if bt328.1 > 100000 then (some (([] : List Int), false)) else (if x8.length < 17592186044416 then (spec_spDecode.l0 k x1 x2 (x8 ++ [bt328.1]) bt328.2 x326000 x326001) else (none))))) else (if x11 > x326000 then (some (([] : List Int), false)) else (if x10 > 100000 then (some (([] : List Int), false)) else (if x8.length < 17592186044416 then (spec_spDecode.l0 k x1 x2 (x8 ++ [x10]) x11 x326000 x326001) else (none))))
end
def spec_spDecode.f (k : Nat) (a0_0 : Int) (l0_1 : List Int) (a1 : Int) (a2 : Bool) : Option (List Int × Bool) := spec_spDecode.l0 k a1 a2 ([] : List Int) 0 a0_0 l0_1
theorem spec_spDecode.mono_l : ∀ k, (∀ y0 y1 y2 y3 y4 y5, LeO (spec_spDecode.l0 k y0 y1 y2 y3 y4 y5) (spec_spDecode.l0 (k + 1) y0 y1 y2 y3 y4 y5)) ∧ (∀ y0 y1 y2 y3 y4 y5 y6 y7, LeO (spec_spDecode.j1 k y0 y1 y2 y3 y4 y5 y6 y7) (spec_spDecode.j1 (k + 1) y0 y1 y2 y3 y4 y5 y6 y7))
  | 0 => ⟨fun _ _ _ _ _ _ r h => by simp [spec_spDecode.l0] at h, fun _ _ _ _ _ _ _ _ r h => by simp [spec_spDecode.j1] at h⟩
  | k + 1 => by
    obtain ⟨ih0, ih1⟩ := spec_spDecode.mono_l k
    refine ⟨?_, ?_⟩
    · intro y0 y1 y2 y3 y4 y5
      unfold spec_spDecode.l0
      repeat' first
      | (with_reducible exact ih0 _ _ _ _ _ _)
      | (with_reducible exact ih1 _ _ _ _ _ _ _ _)
      | (with_reducible exact spec_spOne.mono _ _ _ _)
      | (with_reducible exact spec_spRead.mono _ _ _ _ _)
      | (with_reducible exact LeO.refl _)
      | (with_reducible exact LeO.none _)
      | (with_reducible refine LeO.ite ?_ ?_)
      | (with_reducible refine LeO.bind ?_ (fun _ => ?_))
      | exact ih0 _ _ _ _ _ _
      | exact ih1 _ _ _ _ _ _ _ _
      | exact spec_spOne.mono _ _ _ _
      | exact spec_spRead.mono _ _ _ _ _
      | exact LeO.none _
      | refine LeO.ite ?_ ?_
      | refine LeO.bind ?_ (fun _ => ?_)
    · intro y0 y1 y2 y3 y4 y5 y6 y7
      unfold spec_spDecode.j1
      repeat' first
      | (with_reducible exact ih0 _ _ _ _ _ _)
      | (with_reducible exact ih1 _ _ _ _ _ _ _ _)
      | (with_reducible exact spec_spOne.mono _ _ _ _)
      | (with_reducible exact spec_spRead.mono _ _ _ _ _)
      | (with_reducible exact LeO.refl _)
      | (with_reducible exact LeO.none _)
      | (with_reducible refine LeO.ite ?_ ?_)
      | (with_reducible refine LeO.bind ?_ (fun _ => ?_))
      | exact ih0 _ _ _ _ _ _
      | exact ih1 _ _ _ _ _ _ _ _
      | exact spec_spOne.mono _ _ _ _
      | exact spec_spRead.mono _ _ _ _ _
      | exact LeO.none _
      | refine LeO.ite ?_ ?_
      | refine LeO.bind ?_ (fun _ => ?_)
theorem spec_spDecode.mono : ∀ a0 a1 a2 a3 k, LeO (spec_spDecode.f k a0 a1 a2 a3) (spec_spDecode.f (k + 1) a0 a1 a2 a3) := by
  intro a0 a1 a2 a3 k
  obtain ⟨ih0, ih1⟩ := spec_spDecode.mono_l k
  unfold spec_spDecode.f
  repeat' first
      | (with_reducible exact ih0 _ _ _ _ _ _)
      | (with_reducible exact ih1 _ _ _ _ _ _ _ _)
      | (with_reducible exact spec_spOne.mono _ _ _ _)
      | (with_reducible exact spec_spRead.mono _ _ _ _ _)
      | (with_reducible exact LeO.refl _)
      | (with_reducible exact LeO.none _)
      | (with_reducible refine LeO.ite ?_ ?_)
      | (with_reducible refine LeO.bind ?_ (fun _ => ?_))
      | exact ih0 _ _ _ _ _ _
      | exact ih1 _ _ _ _ _ _ _ _
      | exact spec_spOne.mono _ _ _ _
      | exact spec_spRead.mono _ _ _ _ _
      | exact LeO.none _
      | refine LeO.ite ?_ ?_
      | refine LeO.bind ?_ (fun _ => ?_)
noncomputable def spec_spDecode.L0 (y0 : Int) (y1 : Bool) (y2 : List Int) (y3 : Int) (y4 : Int) (y5 : List Int) : Option (List Int × Bool) := lim fun k => spec_spDecode.l0 k y0 y1 y2 y3 y4 y5
theorem spec_spDecode.L0_sup (y0 : Int) (y1 : Bool) (y2 : List Int) (y3 : Int) (y4 : Int) (y5 : List Int) : Sup (fun k => spec_spDecode.l0 k y0 y1 y2 y3 y4 y5) (spec_spDecode.L0 y0 y1 y2 y3 y4 y5) := Sup.of_mono fun k => (spec_spDecode.mono_l k).1 y0 y1 y2 y3 y4 y5
noncomputable def spec_spDecode.J1 (y0 : Int) (y1 : Bool) (y2 : List Int) (y3 : Int) (y4 : Int) (y5 : Bool) (y6 : Int) (y7 : List Int) : Option (List Int × Bool) := lim fun k => spec_spDecode.j1 k y0 y1 y2 y3 y4 y5 y6 y7
theorem spec_spDecode.J1_sup (y0 : Int) (y1 : Bool) (y2 : List Int) (y3 : Int) (y4 : Int) (y5 : Bool) (y6 : Int) (y7 : List Int) : Sup (fun k => spec_spDecode.j1 k y0 y1 y2 y3 y4 y5 y6 y7) (spec_spDecode.J1 y0 y1 y2 y3 y4 y5 y6 y7) := Sup.of_mono fun k => (spec_spDecode.mono_l k).2 y0 y1 y2 y3 y4 y5 y6 y7
noncomputable def spec_spDecode.F (a0_0 : Int) (l0_1 : List Int) (a1 : Int) (a2 : Bool) : Option (List Int × Bool) := lim fun k => spec_spDecode.f k a0_0 l0_1 a1 a2
theorem spec_spDecode.F_sup (a0_0 : Int) (l0_1 : List Int) (a1 : Int) (a2 : Bool) : Sup (fun k => spec_spDecode.f k a0_0 l0_1 a1 a2) (spec_spDecode.F a0_0 l0_1 a1 a2) := Sup.of_mono fun k => spec_spDecode.mono a0_0 l0_1 a1 a2 k
theorem spec_spDecode.L0_eq (x1 : Int) (x2 : Bool) (x8 : List Int) (x9 : Int) (x326000 : Int) (x326001 : List Int) : spec_spDecode.L0 x1 x2 x8 x9 x326000 x326001 = if (x8.length : Int) < x1 then ((spec_spOne.F x326000 x326001 x9).bind fun bt326 => (if x2 = true then (spec_spDecode.J1 x1 x2 x8 bt326.1 bt326.2 (decide (bt326.2 ≤ x326000)) x326000 x326001) else (spec_spDecode.J1 x1 x2 x8 bt326.1 bt326.2 false x326000 x326001))) else (some (x8, (x9 == x326000))) := by
  refine Sup.unique (spec_spDecode.L0_sup x1 x2 x8 x9 x326000 x326001) (Sup.shift (fun k => (spec_spDecode.mono_l k).1 x1 x2 x8 x9 x326000 x326001) (Sup.congr (g' := fun k => if (x8.length : Int) < x1 then ((spec_spOne.f k x326000 x326001 x9).bind fun bt326 => (if x2 = true then (spec_spDecode.j1 k x1 x2 x8 bt326.1 bt326.2 (decide (bt326.2 ≤ x326000)) x326000 x326001) else (spec_spDecode.j1 k x1 x2 x8 bt326.1 bt326.2 false x326000 x326001))) else (some (x8, (x9 == x326000)))) (fun k => by first | rfl | simp only [spec_spDecode.l0]) ?_))
  repeat' first
    | (with_reducible exact spec_spDecode.L0_sup _ _ _ _ _ _)
    | (with_reducible exact spec_spDecode.J1_sup _ _ _ _ _ _ _ _)
    | (with_reducible exact spec_spOne.F_sup _ _ _)
    | (with_reducible exact spec_spRead.F_sup _ _ _ _)
    | (with_reducible refine Sup.ite ?_ ?_)
    | (with_reducible refine Sup.bind ?_ (fun _ => ?_))
    | (with_reducible exact Sup.const _)
    | exact spec_spDecode.L0_sup _ _ _ _ _ _
    | exact spec_spDecode.J1_sup _ _ _ _ _ _ _ _
    | exact spec_spOne.F_sup _ _ _
    | exact spec_spRead.F_sup _ _ _ _
    | exact Sup.const _
theorem spec_spDecode.J1_eq (x1 : Int) (x2 : Bool) (x8 : List Int) (x10 : Int) (x11 : Int) (x28 : Bool) (x326000 : Int) (x326001 : List Int) : spec_spDecode.J1 x1 x2 x8 x10 x11 x28 x326000 x326001 = if x28 = true then ((spec_spRead.F x326000 x326001 x11 (wrap64 (x10 - 1))).bind fun bt328 => (if bt328.2 > x326000 then (some (([] : List Int), false)) else (if bt328.1 > 100000 then (some (([] : List Int), false)) else (if x8.length < 17592186044416 then (spec_spDecode.L0 x1 x2 (x8 ++ [bt328.1]) bt328.2 x326000 x326001) else (none))))) else (if x11 > x326000 then (some (([] : List Int), false)) else (if x10 > 100000 then (some (([] : List Int), false)) else (if x8.length < 17592186044416 then (spec_spDecode.L0 x1 x2 (x8 ++ [x10]) x11 x326000 x326001) else (none)))) := by
  refine Sup.unique (spec_spDecode.J1_sup x1 x2 x8 x10 x11 x28 x326000 x326001) (Sup.shift (fun k => (spec_spDecode.mono_l k).2 x1 x2 x8 x10 x11 x28 x326000 x326001) (Sup.congr (g' := fun k => if x28 = true then ((spec_spRead.f k x326000 x326001 x11 (wrap64 (x10 - 1))).bind fun bt328 => (if bt328.2 > x326000 then (some (([] : List Int), false)) else (if bt328.1 > 100000 then (some (([] : List Int), false)) else (if x8.length < 17592186044416 then (spec_spDecode.l0 k x1 x2 (x8 ++ [bt328.1]) bt328.2 x326000 x326001) else (none))))) else (if x11 > x326000 then (some (([] : List Int), false)) else (if x10 > 100000 then (some (([] : List Int), false)) else (if x8.length < 17592186044416 then (spec_spDecode.l0 k x1 x2 (x8 ++ [x10]) x11 x326000 x326001) else (none))))) (fun k => by first | rfl | simp only [spec_spDecode.j1]) ?_))
  repeat' first
    | (with_reducible exact spec_spDecode.L0_sup _ _ _ _ _ _)
    | (with_reducible exact spec_spDecode.J1_sup _ _ _ _ _ _ _ _)
    | (with_reducible exact spec_spOne.F_sup _ _ _)
    | (with_reducible exact spec_spRead.F_sup _ _ _ _)
    | (with_reducible refine Sup.ite ?_ ?_)
    | (with_reducible refine Sup.bind ?_ (fun _ => ?_))
    | (with_reducible exact Sup.const _)
    | exact spec_spDecode.L0_sup _ _ _ _ _ _
    | exact spec_spDecode.J1_sup _ _ _ _ _ _ _ _
    | exact spec_spOne.F_sup _ _ _
    | exact spec_spRead.F_sup _ _ _ _
    | exact Sup.const _
theorem spec_spDecode.F_eq (a0_0 : Int) (l0_1 : List Int) (a1 : Int) (a2 : Bool) : spec_spDecode.F a0_0 l0_1 a1 a2 = spec_spDecode.L0 a1 a2 ([] : List Int) 0 a0_0 l0_1 := by
  refine Sup.unique (spec_spDecode.F_sup a0_0 l0_1 a1 a2) (Sup.congr (g' := fun k => spec_spDecode.l0 k a1 a2 ([] : List Int) 0 a0_0 l0_1) (fun k => by first | rfl | simp only [spec_spDecode.f]) ?_)
  repeat' first
    | (with_reducible exact spec_spDecode.L0_sup _ _ _ _ _ _)
    | (with_reducible exact spec_spDecode.J1_sup _ _ _ _ _ _ _ _)
    | (with_reducible exact spec_spOne.F_sup _ _ _)
    | (with_reducible exact spec_spRead.F_sup _ _ _ _)
    | (with_reducible refine Sup.ite ?_ ?_)
    | (with_reducible refine Sup.bind ?_ (fun _ => ?_))
    | (with_reducible exact Sup.const _)
    | exact spec_spDecode.L0_sup _ _ _ _ _ _
    | exact spec_spDecode.J1_sup _ _ _ _ _ _ _ _
    | exact spec_spOne.F_sup _ _ _
    | exact spec_spRead.F_sup _ _ _ _
    | exact Sup.const _
set_option maxHeartbeats 8000000 in
set_option maxRecDepth 100000 in
theorem spec_spDecode.calls (k : Nat) (a0_0 : Int) (A0_1 : Option Addr) (c0_1 : Nat) (l0_1 : List Int) (a1 : Int) (a2 : Bool) (r1 : List Int) (r2 : Bool) (w : World) (hr0_1 : Kd.C (Kd.int .i64) w A0_1 l0_1.length l0_1) (hc0_1 : l0_1.length ≤ c0_1) (h : spec_spDecode.f k a0_0 l0_1 a1 a2 = some (r1, r2)) :
    Calls Try.prog 53 #[.agg #[.int .i64 a0_0, .slice A0_1 l0_1.length c0_1], .int .i64 a1, .bool a2] w fun e w' => ∃ v0_ : Value, e = .returned (.tuple #[v0_, .bool r2]) ∧ Kd.R (Kd.int .i64) 3 w' w.heap.size (fun _ => True) v0_ r1 ∧ Below w.heap.size w w' := by
  have hu24 := Try.underlying24
  have HR0_1 := Aside0.mk hr0_1
  have HC0_1 := Aside0.mk hc0_1
  clear hr0_1 hc0_1
  have HB := Aside0.mk (Below.refl w.heap.size w)
  have H : (spec_spDecode.l0 k a1 a2 ([] : List Int) 0 a0_0 l0_1) = some (r1, r2) := h
  clear h
  have H' := Aside0.mk H
  clear H
  go_enter Try.func53, Try.ntmps53
  go_wp2_with (first | ((with_reducible refine gate_dst (N := 3) rfl ?_); refine bx_ 3 #[.int .i64 a0_0, .slice A0_1 l0_1.length c0_1] 24 ?_; intro gb325 hg w4 hbox hb; have BK325 := Aside0.mk (hbox); have GW325 := Aside0.mk ((ge_ hg)); have GE325 := Aside0.mk ((ge_ hg)); replace HB := Aside0.mk (below_step hB_ hb); clear hb hbox hg))
  repeat (go_quiet (first | ((with_reducible refine gate_dst (N := 3) rfl ?_); refine bx_ 3 #[.int .i64 a0_0, .slice A0_1 l0_1.length c0_1] 24 ?_; intro gb325 hg w4 hbox hb; have BK325 := Aside0.mk (hbox); have GW325 := Aside0.mk ((ge_ hg)); have GE325 := Aside0.mk ((ge_ hg)); replace HB := Aside0.mk (below_step hB_ hb); clear hb hbox hg)); try go_wp2_with (first | ((with_reducible refine gate_dst (N := 3) rfl ?_); refine bx_ 3 #[.int .i64 a0_0, .slice A0_1 l0_1.length c0_1] 24 ?_; intro gb325 hg w4 hbox hb; have BK325 := Aside0.mk (hbox); have GW325 := Aside0.mk ((ge_ hg)); have GE325 := Aside0.mk ((ge_ hg)); replace HB := Aside0.mk (below_step hB_ hb); clear hb hbox hg)))
  go_loopg [8, 9] k (fun kq v8 v9 w' => ∃ (x8_1 : List Int) (x9_1 : Int), v9 = .int .i64 x9_1 ∧ Aside0 (spec_spDecode.l0 kq a1 a2 x8_1 x9_1 a0_0 l0_1 = some (r1, r2)) ∧ Aside0 (kq ≤ k) ∧ Aside0 (Kd.R (Kd.int .i64) 3 w' w.heap.size (fun _ => True) v8 x8_1) ∧ Aside0 (w'.heap[gb325]? = some (.cells #[.int .i64 a0_0, (.slice A0_1 l0_1.length c0_1)] 24 (0, 0))) ∧ Aside0 (Below w.heap.size w w'))
  case atStart => exact ⟨(([] : List Int)), (0), rg_, H', ⟨Nat.le_refl _⟩, ⟨by first | exact Kd.R_nil _ _ _ _ _ | exact Kd.N_nil _ _ _ _ _ | exact Kd.V_nil _ _ _ _ _ | exact Kd.Q_nil _ _ _ _ _ | exact Kd.S_nil _ _ _ _ _⟩, ⟨kB_ BK325⟩, ⟨hB_⟩⟩
  case round =>
   clear H'
   try clear p2
   obtain ⟨x8_1, x9_1, rfl, HA, HK1, HO_8, BK325, HB⟩ := hrel
   cases gk with
   | zero => exact absurd HA.out (by simp [spec_spDecode.l0])
   | succ k1 =>
    have H := HA.out
    clear HA
    simp only [spec_spDecode.l0] at H
    by_cases c5 : (x8_1.length : Int) < a1
    ·rw [if_pos c5] at H
     have c5b0 : decide ((x8_1.length : Int) < a1) = true := decide_eq_true c5
     clear c5
     replace H := Option.bind_eq_some_iff.mp H
     obtain ⟨⟨t326, t327⟩, A60, H⟩ := H
     replace H : (if a2 = true then (spec_spDecode.j1 k1 a1 a2 x8_1 t326 t327 (decide (t327 ≤ a0_0)) a0_0 l0_1) else (spec_spDecode.j1 k1 a1 a2 x8_1 t326 t327 false a0_0 l0_1)) = some (r1, r2) := H
     have A6 := Aside0.mk A60
     clear A60
     have HC7 := Aside0.mk H
     clear H
     obtain ⟨Ao8, co8, eo8⟩ := Kd.R_slice HO_8.out
     subst eo8
     have hcz9_0 : wr.cell? ⟨gb325, 0, none⟩ = some (.int .i64 a0_0) := (blk_cell BK325.out 0).trans rfl
     have hcz9_1 : wr.cell? ⟨gb325, 1, none⟩ = some (.slice A0_1 l0_1.length c0_1) := (blk_cell BK325.out 1).trans rfl
     have hfz9_0 := blk_frozen BK325.out 0
     have hfz9_1 := blk_frozen BK325.out 1
     go_upto_region 5 with (first | (go_at_call 85; (with_reducible refine (spec_spOne.calls k1 a0_0 _ _ l0_1 x9_1 t326 t327 _ ?side1 ?side2 A6.out).mono ?_); (case side1 => exact kC_ HR0_1); (case side2 => exact HC0_1.out); rintro e w10 ⟨rfl, hb⟩; replace HO_8 := Aside0.mk (Kd.R_below (kR_ HO_8) hb); replace BK325 := Aside0.mk (blk_below (kB_ BK325) hb); replace HB := Aside0.mk (below_step hB_ hb); (try clear hb); (try clear hb2); (try clear hk); (try clear hi)))
     repeat (go_quiet (first | (go_at_call 85; (with_reducible refine (spec_spOne.calls k1 a0_0 _ _ l0_1 x9_1 t326 t327 _ ?side1 ?side2 A6.out).mono ?_); (case side1 => exact kC_ HR0_1); (case side2 => exact HC0_1.out); rintro e w10 ⟨rfl, hb⟩; replace HO_8 := Aside0.mk (Kd.R_below (kR_ HO_8) hb); replace BK325 := Aside0.mk (blk_below (kB_ BK325) hb); replace HB := Aside0.mk (below_step hB_ hb); (try clear hb); (try clear hb2); (try clear hk); (try clear hi))); go_upto_region 5 with (first | (go_at_call 85; (with_reducible refine (spec_spOne.calls k1 a0_0 _ _ l0_1 x9_1 t326 t327 _ ?side1 ?side2 A6.out).mono ?_); (case side1 => exact kC_ HR0_1); (case side2 => exact HC0_1.out); rintro e w10 ⟨rfl, hb⟩; replace HO_8 := Aside0.mk (Kd.R_below (kR_ HO_8) hb); replace BK325 := Aside0.mk (blk_below (kB_ BK325) hb); replace HB := Aside0.mk (below_step hB_ hb); (try clear hb); (try clear hb2); (try clear hk); (try clear hi))))
     (try simp only [Act.put, List.setIfInBounds_toArray, List.set_cons_zero, List.set_cons_succ])
     go_cut [28] (fun v28 wc => ∃ (kq : Nat) (x28_6 : Bool), v28 = .bool x28_6 ∧ Aside0 (spec_spDecode.j1 kq a1 a2 x8_1 t326 t327 x28_6 a0_0 l0_1 = some (r1, r2)) ∧ Aside0 (kq ≤ k1) ∧ Aside0 (Kd.R (Kd.int .i64) 3 wc w.heap.size (fun _ => True) (.slice Ao8 x8_1.length co8) x8_1) ∧ Aside0 (wc.heap[gb325]? = some (.cells #[.int .i64 a0_0, (.slice A0_1 l0_1.length c0_1)] 24 (0, 0))) ∧ Aside0 (Below w.heap.size w wc))
     case first =>
      have H := HC7.out
      clear HC7
      by_cases c11 : a2 = true
      ·subst c11
       have H1 : (spec_spDecode.j1 k1 a1 true x8_1 t326 t327 (decide (t327 ≤ a0_0)) a0_0 l0_1) = some (r1, r2) := by rw [if_pos rfl] at H; exact H
       clear H
       have H := H1
       clear H1
       have H' := Aside0.mk H
       clear H
       have hcz12_0 : w10.cell? ⟨gb325, 0, none⟩ = some (.int .i64 a0_0) := (blk_cell BK325.out 0).trans rfl
       have hcz12_1 : w10.cell? ⟨gb325, 1, none⟩ = some (.slice A0_1 l0_1.length c0_1) := (blk_cell BK325.out 1).trans rfl
       have hfz12_0 := blk_frozen BK325.out 0
       have hfz12_1 := blk_frozen BK325.out 1
       go_wp2
       repeat (go_quiet (fail); try go_wp2)
       go_meet
       case rel => exact ⟨_, (decide (t327 ≤ a0_0)), rg_, H', ⟨by have := HK1.out; first | omega | exact Nat.le_refl _⟩, ⟨kR_ HO_8⟩, ⟨kB_ BK325⟩, ⟨hB_⟩⟩
      ·replace c11 := Bool.eq_false_iff.mpr c11
       subst c11
       have H1 : (spec_spDecode.j1 k1 a1 false x8_1 t326 t327 false a0_0 l0_1) = some (r1, r2) := by rw [if_neg (show ¬ (false = true) by decide)] at H; exact H
       clear H
       have H := H1
       clear H1
       have H' := Aside0.mk H
       clear H
       go_wp2
       repeat (go_quiet (fail); try go_wp2)
       go_meet
       case rel => exact ⟨_, (false), rg_, H', ⟨by have := HK1.out; first | omega | exact Nat.le_refl _⟩, ⟨kR_ HO_8⟩, ⟨kB_ BK325⟩, ⟨hB_⟩⟩
     case rest =>
      clear HC7
      try clear c1
      try clear p2
      try clear c5
      try clear c5b0
      try clear c11
      try clear hcz12_0
      try clear hcz12_1
      try clear hcz9_0
      try clear hcz9_1
      try clear hfz12_0
      try clear hfz12_1
      try clear hfz9_0
      try clear hfz9_1
      try clear p2
      obtain ⟨kq, x28_6, rfl, HA, HJ6, HO_8, BK325, HB⟩ := hcut
      cases kq with
      | zero => exact absurd HA.out (by simp [spec_spDecode.j1])
      | succ kj6 =>
       have H := HA.out
       clear HA
       simp only [spec_spDecode.j1] at H
       by_cases c13 : x28_6 = true
       ·subst c13
        have H1 : ((spec_spRead.f kj6 a0_0 l0_1 t327 (wrap64 (t326 - 1))).bind fun bt328 => (if bt328.2 > a0_0 then (some (([] : List Int), false)) else (if bt328.1 > 100000 then (some (([] : List Int), false)) else (if x8_1.length < 17592186044416 then (spec_spDecode.l0 kj6 a1 a2 (x8_1 ++ [bt328.1]) bt328.2 a0_0 l0_1) else (none))))) = some (r1, r2) := by rw [if_pos rfl] at H; exact H
        clear H
        have H := H1
        clear H1
        replace H := Option.bind_eq_some_iff.mp H
        obtain ⟨⟨t328, t329⟩, A140, H⟩ := H
        replace H : (if t329 > a0_0 then (some (([] : List Int), false)) else (if t328 > 100000 then (some (([] : List Int), false)) else (if x8_1.length < 17592186044416 then (spec_spDecode.l0 kj6 a1 a2 (x8_1 ++ [t328]) t329 a0_0 l0_1) else (none)))) = some (r1, r2) := H
        have A14 := Aside0.mk A140
        clear A140
        by_cases c15 : t329 > a0_0
        ·rw [if_pos c15] at H
         have c15b0 : decide (a0_0 < t329) = true := decide_eq_true c15
         clear c15
         simp only [Option.some.injEq, Prod.mk.injEq] at H
         obtain ⟨rfl, rfl⟩ := H
         have hcz16_0 : wc.cell? ⟨gb325, 0, none⟩ = some (.int .i64 a0_0) := (blk_cell BK325.out 0).trans rfl
         have hcz16_1 : wc.cell? ⟨gb325, 1, none⟩ = some (.slice A0_1 l0_1.length c0_1) := (blk_cell BK325.out 1).trans rfl
         have hfz16_0 := blk_frozen BK325.out 0
         have hfz16_1 := blk_frozen BK325.out 1
         go_wp2_with (first | (go_at_call 86; (with_reducible refine (spec_spRead.calls kj6 a0_0 _ _ l0_1 t327 (wrap64 (t326 - 1)) t328 t329 _ ?side1 ?side2 A14.out).mono ?_); (case side1 => exact kC_ HR0_1); (case side2 => exact HC0_1.out); rintro e w17 ⟨rfl, hb⟩; replace HO_8 := Aside0.mk (Kd.R_below (kR_ HO_8) hb); replace BK325 := Aside0.mk (blk_below (kB_ BK325) hb); replace HB := Aside0.mk (below_step hB_ hb); (try clear hb); (try clear hb2); (try clear hk); (try clear hi); have hcz18_0 : w17.cell? ⟨gb325, 0, none⟩ = some (.int .i64 a0_0) := (blk_cell BK325.out 0).trans rfl; have hcz18_1 : w17.cell? ⟨gb325, 1, none⟩ = some (.slice A0_1 l0_1.length c0_1) := (blk_cell BK325.out 1).trans rfl; have hfz18_0 := blk_frozen BK325.out 0; have hfz18_1 := blk_frozen BK325.out 1))
         repeat (go_quiet (first | (go_at_call 86; (with_reducible refine (spec_spRead.calls kj6 a0_0 _ _ l0_1 t327 (wrap64 (t326 - 1)) t328 t329 _ ?side1 ?side2 A14.out).mono ?_); (case side1 => exact kC_ HR0_1); (case side2 => exact HC0_1.out); rintro e w17 ⟨rfl, hb⟩; replace HO_8 := Aside0.mk (Kd.R_below (kR_ HO_8) hb); replace BK325 := Aside0.mk (blk_below (kB_ BK325) hb); replace HB := Aside0.mk (below_step hB_ hb); (try clear hb); (try clear hb2); (try clear hk); (try clear hi); have hcz18_0 : w17.cell? ⟨gb325, 0, none⟩ = some (.int .i64 a0_0) := (blk_cell BK325.out 0).trans rfl; have hcz18_1 : w17.cell? ⟨gb325, 1, none⟩ = some (.slice A0_1 l0_1.length c0_1) := (blk_cell BK325.out 1).trans rfl; have hfz18_0 := blk_frozen BK325.out 0; have hfz18_1 := blk_frozen BK325.out 1)); try go_wp2_with (first | (go_at_call 86; (with_reducible refine (spec_spRead.calls kj6 a0_0 _ _ l0_1 t327 (wrap64 (t326 - 1)) t328 t329 _ ?side1 ?side2 A14.out).mono ?_); (case side1 => exact kC_ HR0_1); (case side2 => exact HC0_1.out); rintro e w17 ⟨rfl, hb⟩; replace HO_8 := Aside0.mk (Kd.R_below (kR_ HO_8) hb); replace BK325 := Aside0.mk (blk_below (kB_ BK325) hb); replace HB := Aside0.mk (below_step hB_ hb); (try clear hb); (try clear hb2); (try clear hk); (try clear hi); have hcz18_0 : w17.cell? ⟨gb325, 0, none⟩ = some (.int .i64 a0_0) := (blk_cell BK325.out 0).trans rfl; have hcz18_1 : w17.cell? ⟨gb325, 1, none⟩ = some (.slice A0_1 l0_1.length c0_1) := (blk_cell BK325.out 1).trans rfl; have hfz18_0 := blk_frozen BK325.out 0; have hfz18_1 := blk_frozen BK325.out 1)))
         go_ret2
         exact ⟨_, rf_, by first | exact Kd.R_nil _ _ _ _ _ | exact Kd.N_nil _ _ _ _ _ | exact Kd.V_nil _ _ _ _ _ | exact Kd.Q_nil _ _ _ _ _ | exact Kd.S_nil _ _ _ _ _, hB_⟩
        ·rw [if_neg c15] at H
         have c15b0 : decide (a0_0 < t329) = false := decide_eq_false c15
         clear c15
         by_cases c19 : t328 > 100000
         ·rw [if_pos c19] at H
          have c19b0 : decide (100000 < t328) = true := decide_eq_true c19
          clear c19
          simp only [Option.some.injEq, Prod.mk.injEq] at H
          obtain ⟨rfl, rfl⟩ := H
          have hcz20_0 : wc.cell? ⟨gb325, 0, none⟩ = some (.int .i64 a0_0) := (blk_cell BK325.out 0).trans rfl
          have hcz20_1 : wc.cell? ⟨gb325, 1, none⟩ = some (.slice A0_1 l0_1.length c0_1) := (blk_cell BK325.out 1).trans rfl
          have hfz20_0 := blk_frozen BK325.out 0
          have hfz20_1 := blk_frozen BK325.out 1
          go_wp2_with (first | (go_at_call 86; (with_reducible refine (spec_spRead.calls kj6 a0_0 _ _ l0_1 t327 (wrap64 (t326 - 1)) t328 t329 _ ?side1 ?side2 A14.out).mono ?_); (case side1 => exact kC_ HR0_1); (case side2 => exact HC0_1.out); rintro e w21 ⟨rfl, hb⟩; replace HO_8 := Aside0.mk (Kd.R_below (kR_ HO_8) hb); replace BK325 := Aside0.mk (blk_below (kB_ BK325) hb); replace HB := Aside0.mk (below_step hB_ hb); (try clear hb); (try clear hb2); (try clear hk); (try clear hi); have hcz22_0 : w21.cell? ⟨gb325, 0, none⟩ = some (.int .i64 a0_0) := (blk_cell BK325.out 0).trans rfl; have hcz22_1 : w21.cell? ⟨gb325, 1, none⟩ = some (.slice A0_1 l0_1.length c0_1) := (blk_cell BK325.out 1).trans rfl; have hfz22_0 := blk_frozen BK325.out 0; have hfz22_1 := blk_frozen BK325.out 1))
          repeat (go_quiet (first | (go_at_call 86; (with_reducible refine (spec_spRead.calls kj6 a0_0 _ _ l0_1 t327 (wrap64 (t326 - 1)) t328 t329 _ ?side1 ?side2 A14.out).mono ?_); (case side1 => exact kC_ HR0_1); (case side2 => exact HC0_1.out); rintro e w21 ⟨rfl, hb⟩; replace HO_8 := Aside0.mk (Kd.R_below (kR_ HO_8) hb); replace BK325 := Aside0.mk (blk_below (kB_ BK325) hb); replace HB := Aside0.mk (below_step hB_ hb); (try clear hb); (try clear hb2); (try clear hk); (try clear hi); have hcz22_0 : w21.cell? ⟨gb325, 0, none⟩ = some (.int .i64 a0_0) := (blk_cell BK325.out 0).trans rfl; have hcz22_1 : w21.cell? ⟨gb325, 1, none⟩ = some (.slice A0_1 l0_1.length c0_1) := (blk_cell BK325.out 1).trans rfl; have hfz22_0 := blk_frozen BK325.out 0; have hfz22_1 := blk_frozen BK325.out 1)); try go_wp2_with (first | (go_at_call 86; (with_reducible refine (spec_spRead.calls kj6 a0_0 _ _ l0_1 t327 (wrap64 (t326 - 1)) t328 t329 _ ?side1 ?side2 A14.out).mono ?_); (case side1 => exact kC_ HR0_1); (case side2 => exact HC0_1.out); rintro e w21 ⟨rfl, hb⟩; replace HO_8 := Aside0.mk (Kd.R_below (kR_ HO_8) hb); replace BK325 := Aside0.mk (blk_below (kB_ BK325) hb); replace HB := Aside0.mk (below_step hB_ hb); (try clear hb); (try clear hb2); (try clear hk); (try clear hi); have hcz22_0 : w21.cell? ⟨gb325, 0, none⟩ = some (.int .i64 a0_0) := (blk_cell BK325.out 0).trans rfl; have hcz22_1 : w21.cell? ⟨gb325, 1, none⟩ = some (.slice A0_1 l0_1.length c0_1) := (blk_cell BK325.out 1).trans rfl; have hfz22_0 := blk_frozen BK325.out 0; have hfz22_1 := blk_frozen BK325.out 1)))
          go_ret2
          exact ⟨_, rf_, by first | exact Kd.R_nil _ _ _ _ _ | exact Kd.N_nil _ _ _ _ _ | exact Kd.V_nil _ _ _ _ _ | exact Kd.Q_nil _ _ _ _ _ | exact Kd.S_nil _ _ _ _ _, hB_⟩
         ·rw [if_neg c19] at H
          have c19b0 : decide (100000 < t328) = false := decide_eq_false c19
          clear c19
          by_cases c23 : x8_1.length < 17592186044416
          ·rw [if_pos c23] at H
           have LMc23 := Aside0.mk c23
           clear c23
           obtain ⟨y330, hy330⟩ : ∃ y_ : List Int, y_ = (x8_1 ++ [t328]) := ⟨_, rfl⟩
           replace H : (spec_spDecode.l0 kj6 a1 a2 y330 t329 a0_0 l0_1) = some (r1, r2) := by first | (rw [hy330]; with_reducible exact H) | (have H2_ := (Option.bind_some _ _).symm.trans H; rw [hy330]; with_reducible exact H2_) | (have H2_ := (Option.bind_some _ _).symm.trans H; with_reducible exact H2_) | with_reducible exact H | (rw [hy330]; exact H) | exact H
           have Ny330 := Aside0.mk hy330
           clear hy330
           have H' := Aside0.mk H
           clear H
           have hcz24_0 : wc.cell? ⟨gb325, 0, none⟩ = some (.int .i64 a0_0) := (blk_cell BK325.out 0).trans rfl
           have hcz24_1 : wc.cell? ⟨gb325, 1, none⟩ = some (.slice A0_1 l0_1.length c0_1) := (blk_cell BK325.out 1).trans rfl
           have hfz24_0 := blk_frozen BK325.out 0
           have hfz24_1 := blk_frozen BK325.out 1
           go_wp2_with (first | (go_at_call 86; (with_reducible refine (spec_spRead.calls kj6 a0_0 _ _ l0_1 t327 (wrap64 (t326 - 1)) t328 t329 _ ?side1 ?side2 A14.out).mono ?_); (case side1 => exact kC_ HR0_1); (case side2 => exact HC0_1.out); rintro e w25 ⟨rfl, hb⟩; replace HO_8 := Aside0.mk (Kd.R_below (kR_ HO_8) hb); replace BK325 := Aside0.mk (blk_below (kB_ BK325) hb); replace HB := Aside0.mk (below_step hB_ hb); (try clear hb); (try clear hb2); (try clear hk); (try clear hi); have hcz26_0 : w25.cell? ⟨gb325, 0, none⟩ = some (.int .i64 a0_0) := (blk_cell BK325.out 0).trans rfl; have hcz26_1 : w25.cell? ⟨gb325, 1, none⟩ = some (.slice A0_1 l0_1.length c0_1) := (blk_cell BK325.out 1).trans rfl; have hfz26_0 := blk_frozen BK325.out 0; have hfz26_1 := blk_frozen BK325.out 1) | ((with_reducible refine gate_builtin (b := .append) (xs := #[.tmp 45, .tmp 47]) rfl ?_); at_builtin; refine Kd.R_append (Kd.int .i64) (w0 := w) w.heap.size rfl (.tmp 45) (.tmp 47) 22 3 (.int .i64 0) 8 rfl Try.underlying22 info3 rfl (by decide) (by omega) (.slice Ao8 x8_1.length co8) x8_1 t328 [.int .i64 t328] (fun _ => True) (fun _ => False) rfl rfl ?aP (fun _ hk => hk.elim) ?aF ?aO ?aB ?aS ?aL ?_; (case aP => exact rfl); (case aB => exact hB_); (case aF => exact (fun _ _ => trivial)); (case aO => exact (kR_ HO_8)); (case aS => exact (below_size hB_)); (case aL => have := LMc23.out; omega); intro v331 w27 ho hb hg hat; rw [← Ny330.out] at ho; have n0_ := Aside0.mk (blk_grown (kB_ BK325) hg (Kd.R_ne HO_8.out BK325.out (by decide))); have n1_ := Aside0.mk (hb); have n2_ := Aside0.mk (ho); clear BK325; clear HB; clear HO_8; have BK325 := n0_; have HB := n1_; have HO332 := n2_; clear n0_ n1_ n2_; clear ho hb hg hat))
           repeat (go_quiet (first | (go_at_call 86; (with_reducible refine (spec_spRead.calls kj6 a0_0 _ _ l0_1 t327 (wrap64 (t326 - 1)) t328 t329 _ ?side1 ?side2 A14.out).mono ?_); (case side1 => exact kC_ HR0_1); (case side2 => exact HC0_1.out); rintro e w25 ⟨rfl, hb⟩; replace HO_8 := Aside0.mk (Kd.R_below (kR_ HO_8) hb); replace BK325 := Aside0.mk (blk_below (kB_ BK325) hb); replace HB := Aside0.mk (below_step hB_ hb); (try clear hb); (try clear hb2); (try clear hk); (try clear hi); have hcz26_0 : w25.cell? ⟨gb325, 0, none⟩ = some (.int .i64 a0_0) := (blk_cell BK325.out 0).trans rfl; have hcz26_1 : w25.cell? ⟨gb325, 1, none⟩ = some (.slice A0_1 l0_1.length c0_1) := (blk_cell BK325.out 1).trans rfl; have hfz26_0 := blk_frozen BK325.out 0; have hfz26_1 := blk_frozen BK325.out 1) | ((with_reducible refine gate_builtin (b := .append) (xs := #[.tmp 45, .tmp 47]) rfl ?_); at_builtin; refine Kd.R_append (Kd.int .i64) (w0 := w) w.heap.size rfl (.tmp 45) (.tmp 47) 22 3 (.int .i64 0) 8 rfl Try.underlying22 info3 rfl (by decide) (by omega) (.slice Ao8 x8_1.length co8) x8_1 t328 [.int .i64 t328] (fun _ => True) (fun _ => False) rfl rfl ?aP (fun _ hk => hk.elim) ?aF ?aO ?aB ?aS ?aL ?_; (case aP => exact rfl); (case aB => exact hB_); (case aF => exact (fun _ _ => trivial)); (case aO => exact (kR_ HO_8)); (case aS => exact (below_size hB_)); (case aL => have := LMc23.out; omega); intro v331 w27 ho hb hg hat; rw [← Ny330.out] at ho; have n0_ := Aside0.mk (blk_grown (kB_ BK325) hg (Kd.R_ne HO_8.out BK325.out (by decide))); have n1_ := Aside0.mk (hb); have n2_ := Aside0.mk (ho); clear BK325; clear HB; clear HO_8; have BK325 := n0_; have HB := n1_; have HO332 := n2_; clear n0_ n1_ n2_; clear ho hb hg hat)); try go_wp2_with (first | (go_at_call 86; (with_reducible refine (spec_spRead.calls kj6 a0_0 _ _ l0_1 t327 (wrap64 (t326 - 1)) t328 t329 _ ?side1 ?side2 A14.out).mono ?_); (case side1 => exact kC_ HR0_1); (case side2 => exact HC0_1.out); rintro e w25 ⟨rfl, hb⟩; replace HO_8 := Aside0.mk (Kd.R_below (kR_ HO_8) hb); replace BK325 := Aside0.mk (blk_below (kB_ BK325) hb); replace HB := Aside0.mk (below_step hB_ hb); (try clear hb); (try clear hb2); (try clear hk); (try clear hi); have hcz26_0 : w25.cell? ⟨gb325, 0, none⟩ = some (.int .i64 a0_0) := (blk_cell BK325.out 0).trans rfl; have hcz26_1 : w25.cell? ⟨gb325, 1, none⟩ = some (.slice A0_1 l0_1.length c0_1) := (blk_cell BK325.out 1).trans rfl; have hfz26_0 := blk_frozen BK325.out 0; have hfz26_1 := blk_frozen BK325.out 1) | ((with_reducible refine gate_builtin (b := .append) (xs := #[.tmp 45, .tmp 47]) rfl ?_); at_builtin; refine Kd.R_append (Kd.int .i64) (w0 := w) w.heap.size rfl (.tmp 45) (.tmp 47) 22 3 (.int .i64 0) 8 rfl Try.underlying22 info3 rfl (by decide) (by omega) (.slice Ao8 x8_1.length co8) x8_1 t328 [.int .i64 t328] (fun _ => True) (fun _ => False) rfl rfl ?aP (fun _ hk => hk.elim) ?aF ?aO ?aB ?aS ?aL ?_; (case aP => exact rfl); (case aB => exact hB_); (case aF => exact (fun _ _ => trivial)); (case aO => exact (kR_ HO_8)); (case aS => exact (below_size hB_)); (case aL => have := LMc23.out; omega); intro v331 w27 ho hb hg hat; rw [← Ny330.out] at ho; have n0_ := Aside0.mk (blk_grown (kB_ BK325) hg (Kd.R_ne HO_8.out BK325.out (by decide))); have n1_ := Aside0.mk (hb); have n2_ := Aside0.mk (ho); clear BK325; clear HB; clear HO_8; have BK325 := n0_; have HB := n1_; have HO332 := n2_; clear n0_ n1_ n2_; clear ho hb hg hat)))
           go_roundg kj6
           case measure => have := HK1.out; have := HJ6.out; omega
           case rel => exact ⟨(y330), (t329), rg_, H', ⟨by have := HK1.out; have := HJ6.out; omega⟩, ⟨kR_ HO332⟩, ⟨kB_ BK325⟩, ⟨hB_⟩⟩
          ·rw [if_neg c23] at H
           exact absurd H (by simp)
       ·replace c13 := Bool.eq_false_iff.mpr c13
        subst c13
        have H1 : (if t327 > a0_0 then (some (([] : List Int), false)) else (if t326 > 100000 then (some (([] : List Int), false)) else (if x8_1.length < 17592186044416 then (spec_spDecode.l0 kj6 a1 a2 (x8_1 ++ [t326]) t327 a0_0 l0_1) else (none)))) = some (r1, r2) := by rw [if_neg (show ¬ (false = true) by decide)] at H; exact H
        clear H
        have H := H1
        clear H1
        by_cases c28 : t327 > a0_0
        ·rw [if_pos c28] at H
         have c28b0 : decide (a0_0 < t327) = true := decide_eq_true c28
         clear c28
         simp only [Option.some.injEq, Prod.mk.injEq] at H
         obtain ⟨rfl, rfl⟩ := H
         have hcz29_0 : wc.cell? ⟨gb325, 0, none⟩ = some (.int .i64 a0_0) := (blk_cell BK325.out 0).trans rfl
         have hcz29_1 : wc.cell? ⟨gb325, 1, none⟩ = some (.slice A0_1 l0_1.length c0_1) := (blk_cell BK325.out 1).trans rfl
         have hfz29_0 := blk_frozen BK325.out 0
         have hfz29_1 := blk_frozen BK325.out 1
         go_wp2
         repeat (go_quiet (fail); try go_wp2)
         go_ret2
         exact ⟨_, rf_, by first | exact Kd.R_nil _ _ _ _ _ | exact Kd.N_nil _ _ _ _ _ | exact Kd.V_nil _ _ _ _ _ | exact Kd.Q_nil _ _ _ _ _ | exact Kd.S_nil _ _ _ _ _, hB_⟩
        ·rw [if_neg c28] at H
         have c28b0 : decide (a0_0 < t327) = false := decide_eq_false c28
         clear c28
         by_cases c30 : t326 > 100000
         ·rw [if_pos c30] at H
          have c30b0 : decide (100000 < t326) = true := decide_eq_true c30
          clear c30
          simp only [Option.some.injEq, Prod.mk.injEq] at H
          obtain ⟨rfl, rfl⟩ := H
          have hcz31_0 : wc.cell? ⟨gb325, 0, none⟩ = some (.int .i64 a0_0) := (blk_cell BK325.out 0).trans rfl
          have hcz31_1 : wc.cell? ⟨gb325, 1, none⟩ = some (.slice A0_1 l0_1.length c0_1) := (blk_cell BK325.out 1).trans rfl
          have hfz31_0 := blk_frozen BK325.out 0
          have hfz31_1 := blk_frozen BK325.out 1
          go_wp2
          repeat (go_quiet (fail); try go_wp2)
          go_ret2
          exact ⟨_, rf_, by first | exact Kd.R_nil _ _ _ _ _ | exact Kd.N_nil _ _ _ _ _ | exact Kd.V_nil _ _ _ _ _ | exact Kd.Q_nil _ _ _ _ _ | exact Kd.S_nil _ _ _ _ _, hB_⟩
         ·rw [if_neg c30] at H
          have c30b0 : decide (100000 < t326) = false := decide_eq_false c30
          clear c30
          by_cases c32 : x8_1.length < 17592186044416
          ·rw [if_pos c32] at H
           have LMc32 := Aside0.mk c32
           clear c32
           obtain ⟨y333, hy333⟩ : ∃ y_ : List Int, y_ = (x8_1 ++ [t326]) := ⟨_, rfl⟩
           replace H : (spec_spDecode.l0 kj6 a1 a2 y333 t327 a0_0 l0_1) = some (r1, r2) := by first | (rw [hy333]; with_reducible exact H) | (have H2_ := (Option.bind_some _ _).symm.trans H; rw [hy333]; with_reducible exact H2_) | (have H2_ := (Option.bind_some _ _).symm.trans H; with_reducible exact H2_) | with_reducible exact H | (rw [hy333]; exact H) | exact H
           have Ny333 := Aside0.mk hy333
           clear hy333
           have H' := Aside0.mk H
           clear H
           have hcz33_0 : wc.cell? ⟨gb325, 0, none⟩ = some (.int .i64 a0_0) := (blk_cell BK325.out 0).trans rfl
           have hcz33_1 : wc.cell? ⟨gb325, 1, none⟩ = some (.slice A0_1 l0_1.length c0_1) := (blk_cell BK325.out 1).trans rfl
           have hfz33_0 := blk_frozen BK325.out 0
           have hfz33_1 := blk_frozen BK325.out 1
           go_wp2_with (first | ((with_reducible refine gate_builtin (b := .append) (xs := #[.tmp 45, .tmp 47]) rfl ?_); at_builtin; refine Kd.R_append (Kd.int .i64) (w0 := w) w.heap.size rfl (.tmp 45) (.tmp 47) 22 3 (.int .i64 0) 8 rfl Try.underlying22 info3 rfl (by decide) (by omega) (.slice Ao8 x8_1.length co8) x8_1 t326 [.int .i64 t326] (fun _ => True) (fun _ => False) rfl rfl ?aP (fun _ hk => hk.elim) ?aF ?aO ?aB ?aS ?aL ?_; (case aP => exact rfl); (case aB => exact hB_); (case aF => exact (fun _ _ => trivial)); (case aO => exact (kR_ HO_8)); (case aS => exact (below_size hB_)); (case aL => have := LMc32.out; omega); intro v334 w34 ho hb hg hat; rw [← Ny333.out] at ho; have n0_ := Aside0.mk (blk_grown (kB_ BK325) hg (Kd.R_ne HO_8.out BK325.out (by decide))); have n1_ := Aside0.mk (hb); have n2_ := Aside0.mk (ho); clear BK325; clear HB; clear HO_8; have BK325 := n0_; have HB := n1_; have HO335 := n2_; clear n0_ n1_ n2_; clear ho hb hg hat))
           repeat (go_quiet (first | ((with_reducible refine gate_builtin (b := .append) (xs := #[.tmp 45, .tmp 47]) rfl ?_); at_builtin; refine Kd.R_append (Kd.int .i64) (w0 := w) w.heap.size rfl (.tmp 45) (.tmp 47) 22 3 (.int .i64 0) 8 rfl Try.underlying22 info3 rfl (by decide) (by omega) (.slice Ao8 x8_1.length co8) x8_1 t326 [.int .i64 t326] (fun _ => True) (fun _ => False) rfl rfl ?aP (fun _ hk => hk.elim) ?aF ?aO ?aB ?aS ?aL ?_; (case aP => exact rfl); (case aB => exact hB_); (case aF => exact (fun _ _ => trivial)); (case aO => exact (kR_ HO_8)); (case aS => exact (below_size hB_)); (case aL => have := LMc32.out; omega); intro v334 w34 ho hb hg hat; rw [← Ny333.out] at ho; have n0_ := Aside0.mk (blk_grown (kB_ BK325) hg (Kd.R_ne HO_8.out BK325.out (by decide))); have n1_ := Aside0.mk (hb); have n2_ := Aside0.mk (ho); clear BK325; clear HB; clear HO_8; have BK325 := n0_; have HB := n1_; have HO335 := n2_; clear n0_ n1_ n2_; clear ho hb hg hat)); try go_wp2_with (first | ((with_reducible refine gate_builtin (b := .append) (xs := #[.tmp 45, .tmp 47]) rfl ?_); at_builtin; refine Kd.R_append (Kd.int .i64) (w0 := w) w.heap.size rfl (.tmp 45) (.tmp 47) 22 3 (.int .i64 0) 8 rfl Try.underlying22 info3 rfl (by decide) (by omega) (.slice Ao8 x8_1.length co8) x8_1 t326 [.int .i64 t326] (fun _ => True) (fun _ => False) rfl rfl ?aP (fun _ hk => hk.elim) ?aF ?aO ?aB ?aS ?aL ?_; (case aP => exact rfl); (case aB => exact hB_); (case aF => exact (fun _ _ => trivial)); (case aO => exact (kR_ HO_8)); (case aS => exact (below_size hB_)); (case aL => have := LMc32.out; omega); intro v334 w34 ho hb hg hat; rw [← Ny333.out] at ho; have n0_ := Aside0.mk (blk_grown (kB_ BK325) hg (Kd.R_ne HO_8.out BK325.out (by decide))); have n1_ := Aside0.mk (hb); have n2_ := Aside0.mk (ho); clear BK325; clear HB; clear HO_8; have BK325 := n0_; have HB := n1_; have HO335 := n2_; clear n0_ n1_ n2_; clear ho hb hg hat)))
           go_roundg kj6
           case measure => have := HK1.out; have := HJ6.out; omega
           case rel => exact ⟨(y333), (t327), rg_, H', ⟨by have := HK1.out; have := HJ6.out; omega⟩, ⟨kR_ HO335⟩, ⟨kB_ BK325⟩, ⟨hB_⟩⟩
          ·rw [if_neg c32] at H
           exact absurd H (by simp)
    ·rw [if_neg c5] at H
     have c5b0 : decide ((x8_1.length : Int) < a1) = false := decide_eq_false c5
     clear c5
     simp only [Option.some.injEq, Prod.mk.injEq] at H
     obtain ⟨rfl, rfl⟩ := H
     obtain ⟨Ao35, co35, eo35⟩ := Kd.R_slice HO_8.out
     subst eo35
     have hcz36_0 : wr.cell? ⟨gb325, 0, none⟩ = some (.int .i64 a0_0) := (blk_cell BK325.out 0).trans rfl
     have hcz36_1 : wr.cell? ⟨gb325, 1, none⟩ = some (.slice A0_1 l0_1.length c0_1) := (blk_cell BK325.out 1).trans rfl
     have hfz36_0 := blk_frozen BK325.out 0
     have hfz36_1 := blk_frozen BK325.out 1
     go_wp2
     repeat (go_quiet (fail); try go_wp2)
     go_ret2
     exact ⟨_, rf_, kR_ HO_8, hB_⟩
/-! ### impl_Bits_next: function 88 -/
def impl_Bits_next.l0 : Nat → Int → Bool → Int → List Int → Option (Int)
  | 0, _, _, _, _ => none
  | k + 1, x1, x2, x1000, x1001 => if x1 < x1000 then ((impl_Bits_at.f x1000 x1001 x1).bind fun t354 => (if (t354 != x2) = true then (impl_Bits_next.l0 k (wrap64 (x1 + 1)) x2 x1000 x1001) else (some x1))) else (some x1)
def impl_Bits_next.f (k : Nat) (a0_0 : Int) (l0_1 : List Int) (a1 : Int) (a2 : Bool) : Option (Int) := impl_Bits_next.l0 k a1 a2 a0_0 l0_1
theorem impl_Bits_next.mono_l : ∀ k, (∀ y0 y1 y2 y3, LeO (impl_Bits_next.l0 k y0 y1 y2 y3) (impl_Bits_next.l0 (k + 1) y0 y1 y2 y3))
  | 0 => fun _ _ _ _ r h => by simp [impl_Bits_next.l0] at h
  | k + 1 => by
    have ih0 := impl_Bits_next.mono_l k
    · intro y0 y1 y2 y3
      unfold impl_Bits_next.l0
      repeat' first
      | (with_reducible exact ih0 _ _ _ _)
      | (with_reducible exact LeO.refl _)
      | (with_reducible exact LeO.none _)
      | (with_reducible refine LeO.ite ?_ ?_)
      | (with_reducible refine LeO.bind ?_ (fun _ => ?_))
      | exact ih0 _ _ _ _
      | exact LeO.none _
      | refine LeO.ite ?_ ?_
      | refine LeO.bind ?_ (fun _ => ?_)
theorem impl_Bits_next.mono : ∀ a0 a1 a2 a3 k, LeO (impl_Bits_next.f k a0 a1 a2 a3) (impl_Bits_next.f (k + 1) a0 a1 a2 a3) := by
  intro a0 a1 a2 a3 k
  have ih0 := impl_Bits_next.mono_l k
  unfold impl_Bits_next.f
  repeat' first
      | (with_reducible exact ih0 _ _ _ _)
      | (with_reducible exact LeO.refl _)
      | (with_reducible exact LeO.none _)
      | (with_reducible refine LeO.ite ?_ ?_)
      | (with_reducible refine LeO.bind ?_ (fun _ => ?_))
      | exact ih0 _ _ _ _
      | exact LeO.none _
      | refine LeO.ite ?_ ?_
      | refine LeO.bind ?_ (fun _ => ?_)
noncomputable def impl_Bits_next.L0 (y0 : Int) (y1 : Bool) (y2 : Int) (y3 : List Int) : Option (Int) := lim fun k => impl_Bits_next.l0 k y0 y1 y2 y3
theorem impl_Bits_next.L0_sup (y0 : Int) (y1 : Bool) (y2 : Int) (y3 : List Int) : Sup (fun k => impl_Bits_next.l0 k y0 y1 y2 y3) (impl_Bits_next.L0 y0 y1 y2 y3) := Sup.of_mono fun k => impl_Bits_next.mono_l k y0 y1 y2 y3
noncomputable def impl_Bits_next.F (a0_0 : Int) (l0_1 : List Int) (a1 : Int) (a2 : Bool) : Option (Int) := lim fun k => impl_Bits_next.f k a0_0 l0_1 a1 a2
theorem impl_Bits_next.F_sup (a0_0 : Int) (l0_1 : List Int) (a1 : Int) (a2 : Bool) : Sup (fun k => impl_Bits_next.f k a0_0 l0_1 a1 a2) (impl_Bits_next.F a0_0 l0_1 a1 a2) := Sup.of_mono fun k => impl_Bits_next.mono a0_0 l0_1 a1 a2 k
theorem impl_Bits_next.L0_eq (x1 : Int) (x2 : Bool) (x1000 : Int) (x1001 : List Int) : impl_Bits_next.L0 x1 x2 x1000 x1001 = if x1 < x1000 then ((impl_Bits_at.f x1000 x1001 x1).bind fun t354 => (if (t354 != x2) = true then (impl_Bits_next.L0 (wrap64 (x1 + 1)) x2 x1000 x1001) else (some x1))) else (some x1) := by
  refine Sup.unique (impl_Bits_next.L0_sup x1 x2 x1000 x1001) (Sup.shift (fun k => impl_Bits_next.mono_l k x1 x2 x1000 x1001) (Sup.congr (g' := fun k => if x1 < x1000 then ((impl_Bits_at.f x1000 x1001 x1).bind fun t354 => (if (t354 != x2) = true then (impl_Bits_next.l0 k (wrap64 (x1 + 1)) x2 x1000 x1001) else (some x1))) else (some x1)) (fun k => by first | rfl | simp only [impl_Bits_next.l0]) ?_))
  repeat' first
    | (with_reducible exact impl_Bits_next.L0_sup _ _ _ _)
    | (with_reducible refine Sup.ite ?_ ?_)
    | (with_reducible refine Sup.bind ?_ (fun _ => ?_))
    | (with_reducible exact Sup.const _)
    | exact impl_Bits_next.L0_sup _ _ _ _
    | exact Sup.const _
theorem impl_Bits_next.F_eq (a0_0 : Int) (l0_1 : List Int) (a1 : Int) (a2 : Bool) : impl_Bits_next.F a0_0 l0_1 a1 a2 = impl_Bits_next.L0 a1 a2 a0_0 l0_1 := by
  refine Sup.unique (impl_Bits_next.F_sup a0_0 l0_1 a1 a2) (Sup.congr (g' := fun k => impl_Bits_next.l0 k a1 a2 a0_0 l0_1) (fun k => by first | rfl | simp only [impl_Bits_next.f]) ?_)
  repeat' first
    | (with_reducible exact impl_Bits_next.L0_sup _ _ _ _)
    | (with_reducible refine Sup.ite ?_ ?_)
    | (with_reducible refine Sup.bind ?_ (fun _ => ?_))
    | (with_reducible exact Sup.const _)
    | exact impl_Bits_next.L0_sup _ _ _ _
    | exact Sup.const _
set_option maxHeartbeats 8000000 in
set_option maxRecDepth 100000 in
theorem impl_Bits_next.calls (k : Nat) (gb0_ : Nat) (a0_0 : Int) (A0_1 : Option Addr) (c0_1 : Nat) (l0_1 : List Int) (a1 : Int) (a2 : Bool) (r : Int) (w : World) (hr0_1 : Kd.C (Kd.int .i64) w A0_1 l0_1.length l0_1) (hc0_1 : l0_1.length ≤ c0_1) (hb0_ : w.heap[gb0_]? = some (.cells #[.int .i64 a0_0, .slice A0_1 l0_1.length c0_1] 24 (0, 0))) (h : impl_Bits_next.f k a0_0 l0_1 a1 a2 = some r) :
    Calls Try.prog 88 #[.pointer (some ⟨gb0_, 0, none⟩), .int .i64 a1, .bool a2] w fun e w' => e = .returned (.int .i64 r) ∧ Drawn0 w w' := by
  have HR0_1 := Aside0.mk hr0_1
  have HC0_1 := Aside0.mk hc0_1
  clear hr0_1 hc0_1
  have BK0 := Aside0.mk hb0_
  clear hb0_
  have H : (impl_Bits_next.l0 k a1 a2 a0_0 l0_1) = some r := h
  clear h
  have H' := Aside0.mk H
  clear H
  go_enter Try.func88, Try.ntmps88
  go_wp2
  go_loopg [1] k (fun kq v1 w' => ∃ (x1_1 : Int), v1 = .int .i64 x1_1 ∧ Aside0 (impl_Bits_next.l0 kq x1_1 a2 a0_0 l0_1 = some r) ∧ Aside0 (kq ≤ k) ∧ Drawn0 w w')
  case atStart => exact ⟨(a1), rg_, H', ⟨Nat.le_refl _⟩, by repeat (first | exact Drawn0.refl _ | apply Drawn0.step)⟩
  case round =>
   clear H'
   try clear p2
   obtain ⟨x1_1, rfl, HA, HK1, ⟨m1, rfl⟩⟩ := hrel
   cases gk with
   | zero => exact absurd HA.out (by simp [impl_Bits_next.l0])
   | succ k1 =>
    have H := HA.out
    clear HA
    simp only [impl_Bits_next.l0] at H
    by_cases c4 : x1_1 < a0_0
    ·rw [if_pos c4] at H
     have c4b0 : decide (x1_1 < a0_0) = true := decide_eq_true c4
     clear c4
     replace H := Option.bind_eq_some_iff.mp H
     obtain ⟨t354, A50, H⟩ := H
     replace H : (if (t354 != a2) = true then (impl_Bits_next.l0 k1 (wrap64 (x1_1 + 1)) a2 a0_0 l0_1) else (some x1_1)) = some r := H
     have A5 := Aside0.mk A50
     clear A50
     by_cases c6 : (t354 != a2) = true
     ·rw [if_pos c6] at H
      have c6b0 : (t354 != a2) = true := c6
      (try (have c6b1 : decide (t354 = a2) = false := by simpa using c6))
      (try (have c6b2 : (t354 == a2) = false := by simpa using c6))
      (try (have c6b3 : ¬ (t354 = a2) := by simpa using c6))
      clear c6
      have H' := Aside0.mk H
      clear H
      have hcz7_0 : w.cell? ⟨gb0_, 0, none⟩ = some (.int .i64 a0_0) := (blk_cell BK0.out 0).trans rfl
      have hcz7_1 : w.cell? ⟨gb0_, 1, none⟩ = some (.slice A0_1 l0_1.length c0_1) := (blk_cell BK0.out 1).trans rfl
      have hfz7_0 := blk_frozen BK0.out 0
      have hfz7_1 := blk_frozen BK0.out 1
      go_wp2_with (first | (go_at_call 78; (with_reducible refine (impl_Bits_at.calls gb0_ a0_0 A0_1 c0_1 l0_1 x1_1 t354 _ ?side1 ?side2 ?side3 A5.out).mono ?_); (case side1 => exact kE_ HR0_1); (case side2 => exact HC0_1.out); (case side3 => exact (kB_ BK0)); rintro e w' ⟨rfl, ⟨nd, rfl⟩⟩))
      go_roundg k1
      case measure => have := HK1.out; omega
      case rel => exact ⟨(wrap64 (x1_1 + 1)), rg_, H', ⟨by have := HK1.out; omega⟩, by repeat (first | exact Drawn0.refl _ | apply Drawn0.step)⟩
     ·rw [if_neg c6] at H
      have c6b0 : (t354 != a2) = false := by simpa using c6
      (try (have c6b1 : decide (t354 = a2) = true := by simpa using c6))
      (try (have c6b2 : (t354 == a2) = true := by simpa using c6))
      clear c6
      obtain rfl := Option.some.inj H
      have hcz8_0 : w.cell? ⟨gb0_, 0, none⟩ = some (.int .i64 a0_0) := (blk_cell BK0.out 0).trans rfl
      have hcz8_1 : w.cell? ⟨gb0_, 1, none⟩ = some (.slice A0_1 l0_1.length c0_1) := (blk_cell BK0.out 1).trans rfl
      have hfz8_0 := blk_frozen BK0.out 0
      have hfz8_1 := blk_frozen BK0.out 1
      go_wp2_with (first | (go_at_call 78; (with_reducible refine (impl_Bits_at.calls gb0_ a0_0 A0_1 c0_1 l0_1 x1_1 t354 _ ?side1 ?side2 ?side3 A5.out).mono ?_); (case side1 => exact kE_ HR0_1); (case side2 => exact HC0_1.out); (case side3 => exact (kB_ BK0)); rintro e w' ⟨rfl, ⟨nd, rfl⟩⟩))
      go_ret
      exact ⟨rg_, by repeat (first | exact Drawn0.refl _ | apply Drawn0.step)⟩
    ·rw [if_neg c4] at H
     have c4b0 : decide (x1_1 < a0_0) = false := decide_eq_false c4
     clear c4
     obtain rfl := Option.some.inj H
     have hcz9_0 : w.cell? ⟨gb0_, 0, none⟩ = some (.int .i64 a0_0) := (blk_cell BK0.out 0).trans rfl
     have hcz9_1 : w.cell? ⟨gb0_, 1, none⟩ = some (.slice A0_1 l0_1.length c0_1) := (blk_cell BK0.out 1).trans rfl
     have hfz9_0 := blk_frozen BK0.out 0
     have hfz9_1 := blk_frozen BK0.out 1
     go_wp2
     go_ret
     exact ⟨rg_, by repeat (first | exact Drawn0.refl _ | apply Drawn0.step)⟩
/-! ### impl_decoder_field: function 89 -/
def impl_decoder_field.f (k : Nat) (b0 : Int) (l0 : List Int) (at_ : Int) (bad : Bool) (a1 : Int) : Option (Int × Int × Bool) := if bad = true then (some (0, at_, true)) else (if a1 > 24 then (some (0, at_, true)) else (if wrap64 (at_ + a1) > b0 then (some (0, at_, true)) else ((impl_Bits_field.f k b0 l0 (wrap64 (wrap64 (at_ + a1) - a1)) a1).bind fun t => (some (t, wrap64 (at_ + a1), false)))))
theorem impl_decoder_field.mono : ∀ a0 a1 a2 a3 a4 k, LeO (impl_decoder_field.f k a0 a1 a2 a3 a4) (impl_decoder_field.f (k + 1) a0 a1 a2 a3 a4) := by
  intro a0 a1 a2 a3 a4 k
  unfold impl_decoder_field.f
  repeat' first
      | (with_reducible exact impl_Bits_field.mono _ _ _ _ _)
      | (with_reducible exact LeO.refl _)
      | (with_reducible exact LeO.none _)
      | (with_reducible refine LeO.ite ?_ ?_)
      | (with_reducible refine LeO.bind ?_ (fun _ => ?_))
      | exact impl_Bits_field.mono _ _ _ _ _
      | exact LeO.none _
      | refine LeO.ite ?_ ?_
      | refine LeO.bind ?_ (fun _ => ?_)
noncomputable def impl_decoder_field.F (b0 : Int) (l0 : List Int) (at_ : Int) (bad : Bool) (a1 : Int) : Option (Int × Int × Bool) := lim fun k => impl_decoder_field.f k b0 l0 at_ bad a1
theorem impl_decoder_field.F_sup (b0 : Int) (l0 : List Int) (at_ : Int) (bad : Bool) (a1 : Int) : Sup (fun k => impl_decoder_field.f k b0 l0 at_ bad a1) (impl_decoder_field.F b0 l0 at_ bad a1) := Sup.of_mono fun k => impl_decoder_field.mono b0 l0 at_ bad a1 k
theorem impl_decoder_field.F_eq (b0 : Int) (l0 : List Int) (at_ : Int) (bad : Bool) (a1 : Int) : impl_decoder_field.F b0 l0 at_ bad a1 = if bad = true then (some (0, at_, true)) else (if a1 > 24 then (some (0, at_, true)) else (if wrap64 (at_ + a1) > b0 then (some (0, at_, true)) else ((impl_Bits_field.F b0 l0 (wrap64 (wrap64 (at_ + a1) - a1)) a1).bind fun t => (some (t, wrap64 (at_ + a1), false))))) := by
  refine Sup.unique (impl_decoder_field.F_sup b0 l0 at_ bad a1) (Sup.congr (g' := fun k => if bad = true then (some (0, at_, true)) else (if a1 > 24 then (some (0, at_, true)) else (if wrap64 (at_ + a1) > b0 then (some (0, at_, true)) else ((impl_Bits_field.f k b0 l0 (wrap64 (wrap64 (at_ + a1) - a1)) a1).bind fun t => (some (t, wrap64 (at_ + a1), false)))))) (fun k => by first | rfl | simp only [impl_decoder_field.f]) ?_)
  repeat' first
    | (with_reducible exact impl_Bits_field.F_sup _ _ _ _)
    | (with_reducible refine Sup.ite ?_ ?_)
    | (with_reducible refine Sup.bind ?_ (fun _ => ?_))
    | (with_reducible exact Sup.const _)
    | exact impl_Bits_field.F_sup _ _ _ _
    | exact Sup.const _
def impl_decoder_field.T1 : Bool × List (List Nat × List Nat) := (true, [([], []), ([], []), ([1], [1]), ([2], [2]), ([3], [3]), ([4], [4]), ([5], [5]), ([6, 5], [5, 6]), ([5, 7], [5, 7]), ([8, 5], [8]), ([9], [9]), ([10, 9], [9, 10]), ([11, 9], [9, 11]), ([12, 9], [9, 12]), ([9], [9]), ([13, 14, 9], [9, 13, 14]), ([9], [9]), ([16, 9], [9, 16]), ([17, 9], [9, 17]), ([18, 9], [9, 18]), ([19, 9], [9, 19]), ([20, 9], [9, 20]), ([21, 9], [9, 21]), ([15, 22, 9], [9, 15, 22]), ([9, 23], [9, 23]), ([0, 0, 1, 2, 3, 4, 5, 6, 7, 8, 9, 10, 11, 12, 13, 14, 15, 16, 17, 18, 19, 20, 21, 22, 23, 24], [0]), ([25, 0, 1, 2, 3, 4, 5, 6, 7, 8, 9, 10, 11, 12, 13, 14, 15, 16, 17, 18, 19, 20, 21, 22, 23, 24], [25]), ([26, 24, 9, 0, 1, 2, 3, 4, 5, 6, 7, 8, 9, 10, 11, 12, 13, 14, 15, 16, 17, 18, 19, 20, 21, 22, 23, 24], [24, 26])])
def impl_decoder_field.B1 : List Nat := [0, 0, 2, 6, 14, 30, 62, 126, 254, 510, 1022, 2046, 4094, 8190, 1022, 32766, 1022, 66558, 197630, 459774, 984062, 2032638, 4129790, 8388606, 16777214, 33554431, 67108863, 134217727]
theorem impl_decoder_field.tab1 : rtab .any (opsOf Try.f89 1) = impl_decoder_field.T1 := by kernel_rfl
theorem impl_decoder_field.bits1 : waitsOk impl_decoder_field.T1.2 impl_decoder_field.B1 = true := by kernel_rfl
def impl_decoder_field.T5 : Bool × List (List Nat × List Nat) := (true, [([], []), ([0], [0]), ([1], [1]), ([2], [2]), ([], []), ([4], [4]), ([5], [5]), ([6], [6]), ([], []), ([7, 8], [7, 8]), ([], []), ([3, 9, 10], [3, 9, 10]), ([11, 11, 0, 1, 2, 3, 4, 5, 6, 7, 8, 9, 10, 11], [11])])
def impl_decoder_field.B5 : List Nat := [0, 1, 3, 7, 0, 16, 48, 112, 0, 496, 0, 2047, 4095]
theorem impl_decoder_field.tab5 : rtab .any (opsOf Try.f89 5) = impl_decoder_field.T5 := by kernel_rfl
theorem impl_decoder_field.bits5 : waitsOk impl_decoder_field.T5.2 impl_decoder_field.B5 = true := by kernel_rfl
set_option maxHeartbeats 8000000 in
set_option maxRecDepth 100000 in
theorem impl_decoder_field.calls (k : Nat) (gd gb : Nat) (b0 : Int) (A0 : Option Addr) (c0 : Nat) (l0 : List Int) (at_ : Int) (bad : Bool) (a1 : Int) (r1 r2 : Int) (r3 : Bool) (w0 w : World) (hB : Below w0.heap.size w0 w) (hg : w0.heap.size ≤ gd) (hd : w.heap[gd]? = some (.cells #[.pointer (some ⟨gb, 0, none⟩), .int .i64 at_, .bool bad] 94 (0, 0))) (hb : w.heap[gb]? = some (.cells #[.int .i64 b0, .slice A0 l0.length c0] 24 (0, 0))) (hr : Kd.C (Kd.int .i64) w0 A0 l0.length l0) (hc : l0.length ≤ c0) (h : impl_decoder_field.f k b0 l0 at_ bad a1 = some (r1, r2, r3)) :
    Calls Try.prog 89 #[.pointer (some ⟨gd, 0, none⟩), .int .i64 a1] w fun e w' => e = .returned (.int .i64 r1) ∧ w'.heap[gd]? = some (.cells #[.pointer (some ⟨gb, 0, none⟩), .int .i64 r2, .bool r3] 94 (0, 0)) ∧ KeepBut w w' gd none ∧ Below w0.heap.size w0 w' := by
  have hu94 := Try.underlying94
  have hu24 := Try.underlying24
  have HNE := Aside0.mk (show gb ≠ gd from by rintro rfl; rw [hb] at hd; simp at hd)
  have HR := Aside0.mk hr
  have HC := Aside0.mk hc
  have GEd := Aside0.mk hg
  have BKd := Aside0.mk hd
  have BKb := Aside0.mk hb
  have HB := Aside0.mk hB
  have HK := Aside0.mk (KeepBut.refl w gd none)
  clear hr hc hg hd hb hB
  replace h : (if bad = true then (some (0, at_, true)) else (if a1 > 24 then (some (0, at_, true)) else (if wrap64 (at_ + a1) > b0 then (some (0, at_, true)) else ((impl_Bits_field.f k b0 l0 (wrap64 (wrap64 (at_ + a1) - a1)) a1).bind fun t => (some (t, wrap64 (at_ + a1), false)))))) = some (r1, r2, r3) := h
  go_enter Try.func89, Try.ntmps89
  go_wp2
  replace BKd := Aside0.mk (blk_drew BKd.out)
  replace BKb := Aside0.mk (blk_drew BKb.out)
  replace HB := Aside0.mk (below_drew1 HB.out)
  replace HK := Aside0.mk (keep_drew HK.out)
  cases bad with
  | true =>
   rw [if_pos rfl] at h
   simp only [Option.some.injEq, Prod.mk.injEq] at h
   obtain ⟨rfl, rfl, rfl⟩ := h
   refine start_ (n := 28) (S := fun w' => w'.cell? ⟨gd, 0, none⟩ = some (.pointer (some ⟨gb, 0, none⟩)) ∧ w'.cell? ⟨gd, 1, none⟩ = some (.int .i64 at_) ∧ w'.cell? ⟨gd, 2, none⟩ = some (.bool true) ∧ w'.cell? ⟨gb, 0, none⟩ = some (.int .i64 b0)) (ds := [27]) #[false, false, false, false, false, false, false, false, false, false, false, false, false, false, false, false, false, false, false, false, false, false, false, false, false, false, false, false] (by kernel_rfl) rfl rfl ⟨(blk_cell BKd.out 0).trans rfl, (blk_cell BKd.out 1).trans rfl, (blk_cell BKd.out 2).trans rfl, (blk_cell BKb.out 0).trans rfl⟩ (fun hHeld => ?_); refine with_tabW impl_decoder_field.tab1 impl_decoder_field.bits1 (fun HT_ HW_ => ?_)
   generalize w.drew = w3 at BKd BKb HB HK hHeld ⊢
   refine pr_ 0 5 28 1 ?_
   refine pr_ 1 6 28 3 ?_
   refine pr_ 2 7 28 7 ?_
   refine pr_ 3 8 28 15 ?_
   refine tq_ 4 9 28 31 HT_.out HW_.out (by kernel_rfl) hHeld ?_ rfl (by rintro w' ⟨s0, s1, s2, s3⟩; go_simp; with_reducible rfl)
   refine pr_ 5 10 28 63 ?_
   refine ur_ 6 11 28 127 ?_
   refine ur_ 7 12 28 255 ?_
   refine pr_ 8 13 28 511 ?_
   refine pr_ 9 14 28 1023 ?_
   refine ur_ 10 15 28 2047 ?_
   refine ur_ 11 16 28 4095 ?_
   refine ur_ 12 17 28 8191 ?_
   refine ur_ 13 18 28 16383 ?_
   refine ur_ 14 19 28 32767 ?_
   refine ur_ 15 20 28 65535 ?_
   refine ur_ 16 21 28 131071 ?_
   refine ur_ 17 22 28 262143 ?_
   refine ur_ 18 23 28 524287 ?_
   refine ur_ 19 24 28 1048575 ?_
   refine ur_ 20 25 28 2097151 ?_
   refine ur_ 21 26 28 4194303 ?_
   refine ur_ 22 27 28 8388607 ?_
   refine ur_ 23 28 28 16777215 ?_
   refine pr_ 24 29 28 33554431 ?_
   refine pr_ 25 30 28 67108863 ?_
   refine pr_ 26 31 28 134217727 ?_
   have hd1_0 : w3.cell? ⟨gd, 0, none⟩ = some (.pointer (some ⟨gb, 0, none⟩)) := (blk_cell BKd.out 0).trans rfl
   have hf1_0 := blk_frozen BKd.out 0
   have hd1_1 : w3.cell? ⟨gd, 1, none⟩ = some (.int .i64 at_) := (blk_cell BKd.out 1).trans rfl
   have hf1_1 := blk_frozen BKd.out 1
   have hd1_2 : w3.cell? ⟨gd, 2, none⟩ = some (.bool true) := (blk_cell BKd.out 2).trans rfl
   have hf1_2 := blk_frozen BKd.out 2
   have hb1_0 : w3.cell? ⟨gb, 0, none⟩ = some (.int .i64 b0) := (blk_cell BKb.out 0).trans rfl
   refine last_ (i := 27) (N := none) (bsA 28 268435455) rfl rfl (one_of HT_.out (by kernel_rfl)) (by decide) (fun K hK => ?_)
   refine skip_ (w1 := ?_) (by rfl) rfl ?_ ?_
   rotate_left
   ·go_simp
    rfl
   refine hK.out _ _ ?_
   clear hK K
   refine done_ (done_of HT_.out (by kernel_rfl)) ?_
   replace BKd := Aside0.mk (show (w3.setCell ⟨gd, 2, none⟩ (.bool true)).heap[gd]? = some (.cells #[.pointer (some ⟨gb, 0, none⟩), .int .i64 at_, .bool true] 94 (0, 0)) from blk_put (cs := #[.pointer (some ⟨gb, 0, none⟩), .int .i64 at_, .bool true]) BKd.out 2 _ rfl)
   replace BKb := Aside0.mk (blk_far BKb.out (p := ⟨gd, 2, none⟩) HNE.out (.bool true))
   replace HB := Aside0.mk (show Below w0.heap.size w0 (w3.setCell ⟨gd, 2, none⟩ (.bool true)) from below_set HB.out GEd.out)
   replace HK := Aside0.mk (show KeepBut w (w3.setCell ⟨gd, 2, none⟩ (.bool true)) gd none from KeepBut.set_ HK.out 2 (.bool true))
   generalize w3.setCell ⟨gd, 2, none⟩ (.bool true) = w4 at BKd BKb HB HK ⊢
   have hd2_0 : w4.cell? ⟨gd, 0, none⟩ = some (.pointer (some ⟨gb, 0, none⟩)) := (blk_cell BKd.out 0).trans rfl
   have hf2_0 := blk_frozen BKd.out 0
   have hd2_1 : w4.cell? ⟨gd, 1, none⟩ = some (.int .i64 at_) := (blk_cell BKd.out 1).trans rfl
   have hf2_1 := blk_frozen BKd.out 1
   have hd2_2 : w4.cell? ⟨gd, 2, none⟩ = some (.bool true) := (blk_cell BKd.out 2).trans rfl
   have hf2_2 := blk_frozen BKd.out 2
   have hb2_0 : w4.cell? ⟨gb, 0, none⟩ = some (.int .i64 b0) := (blk_cell BKb.out 0).trans rfl
   try go_wp2
   go_ret
   exact ⟨rfl, BKd.out, HK.out, HB.out⟩
  | false =>
   rw [if_neg (by decide)] at h
   by_cases c1 : a1 > 24
   ·rw [if_pos c1] at h
    have c1b0 : decide (24 < a1) = true := decide_eq_true c1
    clear c1
    simp only [Option.some.injEq, Prod.mk.injEq] at h
    obtain ⟨rfl, rfl, rfl⟩ := h
    refine start_ (n := 28) (S := fun w' => w'.cell? ⟨gd, 0, none⟩ = some (.pointer (some ⟨gb, 0, none⟩)) ∧ w'.cell? ⟨gd, 1, none⟩ = some (.int .i64 at_) ∧ w'.cell? ⟨gd, 2, none⟩ = some (.bool false) ∧ w'.cell? ⟨gb, 0, none⟩ = some (.int .i64 b0)) (ds := [27]) #[false, false, false, false, false, false, false, false, false, false, false, false, false, false, false, false, false, false, false, false, false, false, false, false, false, false, false, false] (by kernel_rfl) rfl rfl ⟨(blk_cell BKd.out 0).trans rfl, (blk_cell BKd.out 1).trans rfl, (blk_cell BKd.out 2).trans rfl, (blk_cell BKb.out 0).trans rfl⟩ (fun hHeld => ?_); refine with_tabW impl_decoder_field.tab1 impl_decoder_field.bits1 (fun HT_ HW_ => ?_)
    generalize w.drew = w3 at BKd BKb HB HK hHeld ⊢
    refine pr_ 0 5 28 1 ?_
    refine pr_ 1 6 28 3 ?_
    refine pr_ 2 7 28 7 ?_
    refine pr_ 3 8 28 15 ?_
    refine tq_ 4 9 28 31 HT_.out HW_.out (by kernel_rfl) hHeld ?_ rfl (by rintro w' ⟨s0, s1, s2, s3⟩; go_simp; with_reducible rfl)
    refine pr_ 5 10 28 63 ?_
    refine pr_ 6 11 28 127 ?_
    refine pr_ 7 12 28 255 ?_
    refine pr_ 8 13 28 511 ?_
    refine pr_ 9 14 28 1023 ?_
    refine ur_ 10 15 28 2047 ?_
    refine ur_ 11 16 28 4095 ?_
    refine ur_ 12 17 28 8191 ?_
    refine ur_ 13 18 28 16383 ?_
    refine ur_ 14 19 28 32767 ?_
    refine ur_ 15 20 28 65535 ?_
    refine ur_ 16 21 28 131071 ?_
    refine ur_ 17 22 28 262143 ?_
    refine ur_ 18 23 28 524287 ?_
    refine ur_ 19 24 28 1048575 ?_
    refine ur_ 20 25 28 2097151 ?_
    refine ur_ 21 26 28 4194303 ?_
    refine ur_ 22 27 28 8388607 ?_
    refine ur_ 23 28 28 16777215 ?_
    refine pr_ 24 29 28 33554431 ?_
    refine pr_ 25 30 28 67108863 ?_
    refine pr_ 26 31 28 134217727 ?_
    have hd3_0 : w3.cell? ⟨gd, 0, none⟩ = some (.pointer (some ⟨gb, 0, none⟩)) := (blk_cell BKd.out 0).trans rfl
    have hf3_0 := blk_frozen BKd.out 0
    have hd3_1 : w3.cell? ⟨gd, 1, none⟩ = some (.int .i64 at_) := (blk_cell BKd.out 1).trans rfl
    have hf3_1 := blk_frozen BKd.out 1
    have hd3_2 : w3.cell? ⟨gd, 2, none⟩ = some (.bool false) := (blk_cell BKd.out 2).trans rfl
    have hf3_2 := blk_frozen BKd.out 2
    have hb3_0 : w3.cell? ⟨gb, 0, none⟩ = some (.int .i64 b0) := (blk_cell BKb.out 0).trans rfl
    refine last_ (i := 27) (N := none) (bsA 28 268435455) rfl rfl (one_of HT_.out (by kernel_rfl)) (by decide) (fun K hK => ?_)
    refine skip_ (w1 := ?_) (by rfl) rfl ?_ ?_
    rotate_left
    ·go_simp
     rfl
    refine hK.out _ _ ?_
    clear hK K
    refine done_ (done_of HT_.out (by kernel_rfl)) ?_
    replace BKd := Aside0.mk (show (w3.setCell ⟨gd, 2, none⟩ (.bool true)).heap[gd]? = some (.cells #[.pointer (some ⟨gb, 0, none⟩), .int .i64 at_, .bool true] 94 (0, 0)) from blk_put (cs := #[.pointer (some ⟨gb, 0, none⟩), .int .i64 at_, .bool false]) BKd.out 2 _ rfl)
    replace BKb := Aside0.mk (blk_far BKb.out (p := ⟨gd, 2, none⟩) HNE.out (.bool true))
    replace HB := Aside0.mk (show Below w0.heap.size w0 (w3.setCell ⟨gd, 2, none⟩ (.bool true)) from below_set HB.out GEd.out)
    replace HK := Aside0.mk (show KeepBut w (w3.setCell ⟨gd, 2, none⟩ (.bool true)) gd none from KeepBut.set_ HK.out 2 (.bool true))
    generalize w3.setCell ⟨gd, 2, none⟩ (.bool true) = w4 at BKd BKb HB HK ⊢
    have hd4_0 : w4.cell? ⟨gd, 0, none⟩ = some (.pointer (some ⟨gb, 0, none⟩)) := (blk_cell BKd.out 0).trans rfl
    have hf4_0 := blk_frozen BKd.out 0
    have hd4_1 : w4.cell? ⟨gd, 1, none⟩ = some (.int .i64 at_) := (blk_cell BKd.out 1).trans rfl
    have hf4_1 := blk_frozen BKd.out 1
    have hd4_2 : w4.cell? ⟨gd, 2, none⟩ = some (.bool true) := (blk_cell BKd.out 2).trans rfl
    have hf4_2 := blk_frozen BKd.out 2
    have hb4_0 : w4.cell? ⟨gb, 0, none⟩ = some (.int .i64 b0) := (blk_cell BKb.out 0).trans rfl
    try go_wp2
    go_ret
    exact ⟨rfl, BKd.out, HK.out, HB.out⟩
   ·rw [if_neg c1] at h
    have c1b0 : decide (24 < a1) = false := decide_eq_false c1
    clear c1
    by_cases c2 : wrap64 (at_ + a1) > b0
    ·rw [if_pos c2] at h
     have c2b0 : decide (b0 < wrap64 (at_ + a1)) = true := decide_eq_true c2
     clear c2
     simp only [Option.some.injEq, Prod.mk.injEq] at h
     obtain ⟨rfl, rfl, rfl⟩ := h
     refine start_ (n := 28) (S := fun w' => w'.cell? ⟨gd, 0, none⟩ = some (.pointer (some ⟨gb, 0, none⟩)) ∧ w'.cell? ⟨gd, 1, none⟩ = some (.int .i64 at_) ∧ w'.cell? ⟨gd, 2, none⟩ = some (.bool false) ∧ w'.cell? ⟨gb, 0, none⟩ = some (.int .i64 b0)) (ds := [27]) #[false, false, false, false, false, false, false, false, false, false, false, false, false, false, false, false, false, false, false, false, false, false, false, false, false, false, false, false] (by kernel_rfl) rfl rfl ⟨(blk_cell BKd.out 0).trans rfl, (blk_cell BKd.out 1).trans rfl, (blk_cell BKd.out 2).trans rfl, (blk_cell BKb.out 0).trans rfl⟩ (fun hHeld => ?_); refine with_tabW impl_decoder_field.tab1 impl_decoder_field.bits1 (fun HT_ HW_ => ?_)
     generalize w.drew = w3 at BKd BKb HB HK hHeld ⊢
     refine pr_ 0 5 28 1 ?_
     refine pr_ 1 6 28 3 ?_
     refine pr_ 2 7 28 7 ?_
     refine pr_ 3 8 28 15 ?_
     refine tq_ 4 9 28 31 HT_.out HW_.out (by kernel_rfl) hHeld ?_ rfl (by rintro w' ⟨s0, s1, s2, s3⟩; go_simp; with_reducible rfl)
     refine pr_ 5 10 28 63 ?_
     refine pr_ 6 11 28 127 ?_
     refine pr_ 7 12 28 255 ?_
     refine pr_ 8 13 28 511 ?_
     refine pr_ 9 14 28 1023 ?_
     refine pr_ 10 15 28 2047 ?_
     refine pr_ 11 16 28 4095 ?_
     refine pr_ 12 17 28 8191 ?_
     refine tq_ 13 18 28 16383 HT_.out HW_.out (by kernel_rfl) hHeld ?_ rfl (by rintro w' ⟨s0, s1, s2, s3⟩; go_simp; with_reducible rfl)
     refine pr_ 14 19 28 32767 ?_
     refine pr_ 15 20 28 65535 ?_
     refine pr_ 16 21 28 131071 ?_
     refine pr_ 17 22 28 262143 ?_
     refine pr_ 18 23 28 524287 ?_
     refine tq_ 19 24 28 1048575 HT_.out HW_.out (by kernel_rfl) hHeld ?_ rfl (by rintro w' ⟨s0, s1, s2, s3⟩; go_simp; with_reducible rfl)
     refine pr_ 20 25 28 2097151 ?_
     refine pr_ 21 26 28 4194303 ?_
     refine tq_ 22 27 28 8388607 HT_.out HW_.out (by kernel_rfl) hHeld ?_ rfl (by rintro w' ⟨s0, s1, s2, s3⟩; go_simp; with_reducible rfl)
     refine pr_ 23 28 28 16777215 ?_
     refine pr_ 24 29 28 33554431 ?_
     refine pr_ 25 30 28 67108863 ?_
     refine pr_ 26 31 28 134217727 ?_
     have hd5_0 : w3.cell? ⟨gd, 0, none⟩ = some (.pointer (some ⟨gb, 0, none⟩)) := (blk_cell BKd.out 0).trans rfl
     have hf5_0 := blk_frozen BKd.out 0
     have hd5_1 : w3.cell? ⟨gd, 1, none⟩ = some (.int .i64 at_) := (blk_cell BKd.out 1).trans rfl
     have hf5_1 := blk_frozen BKd.out 1
     have hd5_2 : w3.cell? ⟨gd, 2, none⟩ = some (.bool false) := (blk_cell BKd.out 2).trans rfl
     have hf5_2 := blk_frozen BKd.out 2
     have hb5_0 : w3.cell? ⟨gb, 0, none⟩ = some (.int .i64 b0) := (blk_cell BKb.out 0).trans rfl
     refine last_ (i := 27) (N := none) (bsA 28 268435455) rfl rfl (one_of HT_.out (by kernel_rfl)) (by decide) (fun K hK => ?_)
     refine skip_ (w1 := ?_) (by rfl) rfl ?_ ?_
     rotate_left
     ·go_simp
      rfl
     refine hK.out _ _ ?_
     clear hK K
     refine done_ (done_of HT_.out (by kernel_rfl)) ?_
     replace BKd := Aside0.mk (show (w3.setCell ⟨gd, 2, none⟩ (.bool true)).heap[gd]? = some (.cells #[.pointer (some ⟨gb, 0, none⟩), .int .i64 at_, .bool true] 94 (0, 0)) from blk_put (cs := #[.pointer (some ⟨gb, 0, none⟩), .int .i64 at_, .bool false]) BKd.out 2 _ rfl)
     replace BKb := Aside0.mk (blk_far BKb.out (p := ⟨gd, 2, none⟩) HNE.out (.bool true))
     replace HB := Aside0.mk (show Below w0.heap.size w0 (w3.setCell ⟨gd, 2, none⟩ (.bool true)) from below_set HB.out GEd.out)
     replace HK := Aside0.mk (show KeepBut w (w3.setCell ⟨gd, 2, none⟩ (.bool true)) gd none from KeepBut.set_ HK.out 2 (.bool true))
     generalize w3.setCell ⟨gd, 2, none⟩ (.bool true) = w4 at BKd BKb HB HK ⊢
     have hd6_0 : w4.cell? ⟨gd, 0, none⟩ = some (.pointer (some ⟨gb, 0, none⟩)) := (blk_cell BKd.out 0).trans rfl
     have hf6_0 := blk_frozen BKd.out 0
     have hd6_1 : w4.cell? ⟨gd, 1, none⟩ = some (.int .i64 at_) := (blk_cell BKd.out 1).trans rfl
     have hf6_1 := blk_frozen BKd.out 1
     have hd6_2 : w4.cell? ⟨gd, 2, none⟩ = some (.bool true) := (blk_cell BKd.out 2).trans rfl
     have hf6_2 := blk_frozen BKd.out 2
     have hb6_0 : w4.cell? ⟨gb, 0, none⟩ = some (.int .i64 b0) := (blk_cell BKb.out 0).trans rfl
     try go_wp2
     go_ret
     exact ⟨rfl, BKd.out, HK.out, HB.out⟩
    ·rw [if_neg c2] at h
     have c2b0 : decide (b0 < wrap64 (at_ + a1)) = false := decide_eq_false c2
     clear c2
     obtain ⟨t, A30, h⟩ := Option.bind_eq_some_iff.mp h
     have A3 := Aside0.mk A30
     clear A30
     simp only [Option.some.injEq, Prod.mk.injEq] at h
     obtain ⟨rfl, rfl, rfl⟩ := h
     refine start_ (n := 28) (S := fun w' => w'.cell? ⟨gd, 0, none⟩ = some (.pointer (some ⟨gb, 0, none⟩)) ∧ w'.cell? ⟨gd, 1, none⟩ = some (.int .i64 at_) ∧ w'.cell? ⟨gd, 2, none⟩ = some (.bool false) ∧ w'.cell? ⟨gb, 0, none⟩ = some (.int .i64 b0)) (ds := [27]) #[false, false, false, false, false, false, false, false, false, false, false, false, false, false, false, false, false, false, false, false, false, false, false, false, false, false, false, false] (by kernel_rfl) rfl rfl ⟨(blk_cell BKd.out 0).trans rfl, (blk_cell BKd.out 1).trans rfl, (blk_cell BKd.out 2).trans rfl, (blk_cell BKb.out 0).trans rfl⟩ (fun hHeld => ?_); refine with_tabW impl_decoder_field.tab1 impl_decoder_field.bits1 (fun HT_ HW_ => ?_)
     generalize w.drew = w3 at BKd BKb HB HK hHeld ⊢
     refine pr_ 0 5 28 1 ?_
     refine pr_ 1 6 28 3 ?_
     refine pr_ 2 7 28 7 ?_
     refine pr_ 3 8 28 15 ?_
     refine tq_ 4 9 28 31 HT_.out HW_.out (by kernel_rfl) hHeld ?_ rfl (by rintro w' ⟨s0, s1, s2, s3⟩; go_simp; with_reducible rfl)
     refine pr_ 5 10 28 63 ?_
     refine pr_ 6 11 28 127 ?_
     refine pr_ 7 12 28 255 ?_
     refine pr_ 8 13 28 511 ?_
     refine pr_ 9 14 28 1023 ?_
     refine pr_ 10 15 28 2047 ?_
     refine pr_ 11 16 28 4095 ?_
     refine pr_ 12 17 28 8191 ?_
     refine tq_ 13 18 28 16383 HT_.out HW_.out (by kernel_rfl) hHeld ?_ rfl (by rintro w' ⟨s0, s1, s2, s3⟩; go_simp; with_reducible rfl)
     refine pr_ 14 19 28 32767 ?_
     refine pr_ 15 20 28 65535 ?_
     refine pr_ 16 21 28 131071 ?_
     refine pr_ 17 22 28 262143 ?_
     refine pr_ 18 23 28 524287 ?_
     refine tq_ 19 24 28 1048575 HT_.out HW_.out (by kernel_rfl) hHeld ?_ rfl (by rintro w' ⟨s0, s1, s2, s3⟩; go_simp; with_reducible rfl)
     refine pr_ 20 25 28 2097151 ?_
     refine pr_ 21 26 28 4194303 ?_
     refine tq_ 22 27 28 8388607 HT_.out HW_.out (by kernel_rfl) hHeld ?_ rfl (by rintro w' ⟨s0, s1, s2, s3⟩; go_simp; with_reducible rfl)
     refine pr_ 23 28 28 16777215 ?_
     refine pr_ 24 29 28 33554431 ?_
     refine pr_ 25 30 28 67108863 ?_
     refine pr_ 26 31 28 134217727 ?_
     have hd7_0 : w3.cell? ⟨gd, 0, none⟩ = some (.pointer (some ⟨gb, 0, none⟩)) := (blk_cell BKd.out 0).trans rfl
     have hf7_0 := blk_frozen BKd.out 0
     have hd7_1 : w3.cell? ⟨gd, 1, none⟩ = some (.int .i64 at_) := (blk_cell BKd.out 1).trans rfl
     have hf7_1 := blk_frozen BKd.out 1
     have hd7_2 : w3.cell? ⟨gd, 2, none⟩ = some (.bool false) := (blk_cell BKd.out 2).trans rfl
     have hf7_2 := blk_frozen BKd.out 2
     have hb7_0 : w3.cell? ⟨gb, 0, none⟩ = some (.int .i64 b0) := (blk_cell BKb.out 0).trans rfl
     refine last_ (i := 27) (N := none) (bsA 28 268435455) rfl rfl (one_of HT_.out (by kernel_rfl)) (by decide) (fun K hK => ?_)
     refine skip_ (w1 := ?_) (by rfl) rfl ?_ ?_
     rotate_left
     ·go_simp
      rfl
     refine hK.out _ _ ?_
     clear hK K
     refine done_ (done_of HT_.out (by kernel_rfl)) ?_
     replace BKd := Aside0.mk (show (w3.setCell ⟨gd, 2, none⟩ (.bool false)).heap[gd]? = some (.cells #[.pointer (some ⟨gb, 0, none⟩), .int .i64 at_, .bool false] 94 (0, 0)) from blk_put (cs := #[.pointer (some ⟨gb, 0, none⟩), .int .i64 at_, .bool false]) BKd.out 2 _ rfl)
     replace BKb := Aside0.mk (blk_far BKb.out (p := ⟨gd, 2, none⟩) HNE.out (.bool false))
     replace HB := Aside0.mk (show Below w0.heap.size w0 (w3.setCell ⟨gd, 2, none⟩ (.bool false)) from below_set HB.out GEd.out)
     replace HK := Aside0.mk (show KeepBut w (w3.setCell ⟨gd, 2, none⟩ (.bool false)) gd none from KeepBut.set_ HK.out 2 (.bool false))
     generalize w3.setCell ⟨gd, 2, none⟩ (.bool false) = w4 at BKd BKb HB HK ⊢
     have hd8_0 : w4.cell? ⟨gd, 0, none⟩ = some (.pointer (some ⟨gb, 0, none⟩)) := (blk_cell BKd.out 0).trans rfl
     have hf8_0 := blk_frozen BKd.out 0
     have hd8_1 : w4.cell? ⟨gd, 1, none⟩ = some (.int .i64 at_) := (blk_cell BKd.out 1).trans rfl
     have hf8_1 := blk_frozen BKd.out 1
     have hd8_2 : w4.cell? ⟨gd, 2, none⟩ = some (.bool false) := (blk_cell BKd.out 2).trans rfl
     have hf8_2 := blk_frozen BKd.out 2
     have hb8_0 : w4.cell? ⟨gb, 0, none⟩ = some (.int .i64 b0) := (blk_cell BKb.out 0).trans rfl
     go_wp2
     replace BKd := Aside0.mk (show (w4.setCell ⟨gd, 1, none⟩ (.int .i64 (wrap64 (at_ + a1)))).heap[gd]? = some (.cells #[.pointer (some ⟨gb, 0, none⟩), .int .i64 (wrap64 (at_ + a1)), .bool false] 94 (0, 0)) from blk_put (cs := #[.pointer (some ⟨gb, 0, none⟩), .int .i64 at_, .bool false]) BKd.out 1 _ rfl)
     replace BKb := Aside0.mk (blk_far BKb.out (p := ⟨gd, 1, none⟩) HNE.out (.int .i64 (wrap64 (at_ + a1))))
     replace HB := Aside0.mk (show Below w0.heap.size w0 (w4.setCell ⟨gd, 1, none⟩ (.int .i64 (wrap64 (at_ + a1)))) from below_set HB.out GEd.out)
     replace HK := Aside0.mk (show KeepBut w (w4.setCell ⟨gd, 1, none⟩ (.int .i64 (wrap64 (at_ + a1)))) gd none from KeepBut.set_ HK.out 1 (.int .i64 (wrap64 (at_ + a1))))
     generalize w4.setCell ⟨gd, 1, none⟩ (.int .i64 (wrap64 (at_ + a1))) = w5 at BKd BKb HB HK ⊢
     have hd9_0 : w5.cell? ⟨gd, 0, none⟩ = some (.pointer (some ⟨gb, 0, none⟩)) := (blk_cell BKd.out 0).trans rfl
     have hf9_0 := blk_frozen BKd.out 0
     have hd9_1 : w5.cell? ⟨gd, 1, none⟩ = some (.int .i64 (wrap64 (at_ + a1))) := (blk_cell BKd.out 1).trans rfl
     have hf9_1 := blk_frozen BKd.out 1
     have hd9_2 : w5.cell? ⟨gd, 2, none⟩ = some (.bool false) := (blk_cell BKd.out 2).trans rfl
     have hf9_2 := blk_frozen BKd.out 2
     have hb9_0 : w5.cell? ⟨gb, 0, none⟩ = some (.int .i64 b0) := (blk_cell BKb.out 0).trans rfl
     replace BKd := Aside0.mk (blk_drew BKd.out)
     replace BKb := Aside0.mk (blk_drew BKb.out)
     replace HB := Aside0.mk (below_drew1 HB.out)
     replace HK := Aside0.mk (keep_drew HK.out)
     refine start_ (n := 13) (S := fun w' => w'.cell? ⟨gd, 0, none⟩ = some (.pointer (some ⟨gb, 0, none⟩)) ∧ w'.cell? ⟨gd, 1, none⟩ = some (.int .i64 (wrap64 (at_ + a1))) ∧ w'.cell? ⟨gd, 2, none⟩ = some (.bool false) ∧ w'.cell? ⟨gb, 0, none⟩ = some (.int .i64 b0)) (ds := []) #[false, false, false, false, false, false, false, false, false, false, false, false, false] (by kernel_rfl) rfl rfl ⟨(blk_cell BKd.out 0).trans rfl, (blk_cell BKd.out 1).trans rfl, (blk_cell BKd.out 2).trans rfl, (blk_cell BKb.out 0).trans rfl⟩ (fun hHeld => ?_); refine with_tabW impl_decoder_field.tab5 impl_decoder_field.bits5 (fun HT_ HW_ => ?_)
     generalize w5.drew = w6 at BKd BKb HB HK hHeld ⊢
     refine pr_ 0 44 13 1 ?_
     refine pr_ 1 45 13 3 ?_
     refine pr_ 2 46 13 7 ?_
     refine tq_ 3 47 13 15 HT_.out HW_.out (by kernel_rfl) hHeld ?_ rfl (by rintro w' ⟨s0, s1, s2, s3⟩; go_simp; with_reducible rfl)
     refine pr_ 4 48 13 31 ?_
     refine pr_ 5 49 13 63 ?_
     refine pr_ 6 50 13 127 ?_
     refine tq_ 7 51 13 255 HT_.out HW_.out (by kernel_rfl) hHeld ?_ rfl (by rintro w' ⟨s0, s1, s2, s3⟩; go_simp; with_reducible rfl)
     refine pr_ 8 52 13 511 ?_
     refine pr_ 9 53 13 1023 ?_
     refine pr_ 10 54 13 2047 ?_
     refine one_ (i := 11) (N := some 55) (bsA 13 4095) rfl rfl (one_of HT_.out (by kernel_rfl)) (by decide) (fun K hK => ?_)
     refine goes_ Try.func77 (by kernel_rfl) rfl #[.pointer (some ⟨gb, 0, none⟩), .int .i64 (wrap64 (wrap64 (at_ + a1) - a1)), .int .i64 a1] (by rfl) rfl rfl (by (try simp only [List.map_toArray, List.map_cons, List.map_nil]); first | done | rfl) ?_
     with_reducible refine (impl_Bits_field.calls k gb b0 A0 c0 l0 (wrap64 (wrap64 (at_ + a1) - a1)) a1 t _ (Kd.C_below HR.out HB.out) HC.out BKb.out A3.out).mono ?_
     rintro e w' ⟨rfl, ⟨nd, rfl⟩⟩
     refine ⟨_, rfl, ?_⟩
     refine hK.out _ _ hHeld (fun hHeld => ?_)
     clear hK K
     refine norm_ (a' := ?_) ?_ ?_
     rotate_left
     ·show Act.put _ (some 55) _ = _
      simp only [Act.put, List.setIfInBounds_toArray, List.set_cons_zero, List.set_cons_succ, i64_w]
      rfl
     refine pr_ 12 4 13 8191 ?_
     refine done_ (done_of HT_.out (by kernel_rfl)) ?_
     try go_wp2
     go_ret
     exact ⟨rfl, blk_drewN BKd.out _, keep_drewN HK.out _, pw_below_drewN HB.out _⟩
/-! ### impl_decoder_gamma: function 55 -/
def impl_decoder_gamma.f (k : Nat) (b0 : Int) (l0 : List Int) (at_ : Int) (bad : Bool) : Option (Int × Int × Bool) := if bad = true then (some (0, at_, true)) else ((impl_Bits_next.f k b0 l0 at_ true).bind fun t => (if (wrap64 (t - at_)) > 24 then (some (0, (mn (wrap64 (wrap64 (at_ + (wrap64 (t - at_))) + 1)) b0), true)) else (if 0 ≤ (wrap64 (t - at_)) then ((impl_decoder_field.f k b0 l0 (mn (wrap64 (wrap64 (at_ + (wrap64 (t - at_))) + 1)) b0) false (wrap64 (t - at_))).bind fun bt => (some (Go.bits .or .i64 (shl .i64 1 (wrap64 (t - at_))) bt.1, bt.2.1, bt.2.2))) else (none))))
theorem impl_decoder_gamma.mono : ∀ a0 a1 a2 a3 k, LeO (impl_decoder_gamma.f k a0 a1 a2 a3) (impl_decoder_gamma.f (k + 1) a0 a1 a2 a3) := by
  intro a0 a1 a2 a3 k
  unfold impl_decoder_gamma.f
  repeat' first
      | (with_reducible exact impl_Bits_next.mono _ _ _ _ _)
      | (with_reducible exact impl_decoder_field.mono _ _ _ _ _ _)
      | (with_reducible exact LeO.refl _)
      | (with_reducible exact LeO.none _)
      | (with_reducible refine LeO.ite ?_ ?_)
      | (with_reducible refine LeO.bind ?_ (fun _ => ?_))
      | exact impl_Bits_next.mono _ _ _ _ _
      | exact impl_decoder_field.mono _ _ _ _ _ _
      | exact LeO.none _
      | refine LeO.ite ?_ ?_
      | refine LeO.bind ?_ (fun _ => ?_)
noncomputable def impl_decoder_gamma.F (b0 : Int) (l0 : List Int) (at_ : Int) (bad : Bool) : Option (Int × Int × Bool) := lim fun k => impl_decoder_gamma.f k b0 l0 at_ bad
theorem impl_decoder_gamma.F_sup (b0 : Int) (l0 : List Int) (at_ : Int) (bad : Bool) : Sup (fun k => impl_decoder_gamma.f k b0 l0 at_ bad) (impl_decoder_gamma.F b0 l0 at_ bad) := Sup.of_mono fun k => impl_decoder_gamma.mono b0 l0 at_ bad k
theorem impl_decoder_gamma.F_eq (b0 : Int) (l0 : List Int) (at_ : Int) (bad : Bool) : impl_decoder_gamma.F b0 l0 at_ bad = if bad = true then (some (0, at_, true)) else ((impl_Bits_next.F b0 l0 at_ true).bind fun t => (if (wrap64 (t - at_)) > 24 then (some (0, (mn (wrap64 (wrap64 (at_ + (wrap64 (t - at_))) + 1)) b0), true)) else (if 0 ≤ (wrap64 (t - at_)) then ((impl_decoder_field.F b0 l0 (mn (wrap64 (wrap64 (at_ + (wrap64 (t - at_))) + 1)) b0) false (wrap64 (t - at_))).bind fun bt => (some (Go.bits .or .i64 (shl .i64 1 (wrap64 (t - at_))) bt.1, bt.2.1, bt.2.2))) else (none)))) := by
  refine Sup.unique (impl_decoder_gamma.F_sup b0 l0 at_ bad) (Sup.congr (g' := fun k => if bad = true then (some (0, at_, true)) else ((impl_Bits_next.f k b0 l0 at_ true).bind fun t => (if (wrap64 (t - at_)) > 24 then (some (0, (mn (wrap64 (wrap64 (at_ + (wrap64 (t - at_))) + 1)) b0), true)) else (if 0 ≤ (wrap64 (t - at_)) then ((impl_decoder_field.f k b0 l0 (mn (wrap64 (wrap64 (at_ + (wrap64 (t - at_))) + 1)) b0) false (wrap64 (t - at_))).bind fun bt => (some (Go.bits .or .i64 (shl .i64 1 (wrap64 (t - at_))) bt.1, bt.2.1, bt.2.2))) else (none))))) (fun k => by first | rfl | simp only [impl_decoder_gamma.f]) ?_)
  repeat' first
    | (with_reducible exact impl_Bits_next.F_sup _ _ _ _)
    | (with_reducible exact impl_decoder_field.F_sup _ _ _ _ _)
    | (with_reducible refine Sup.ite ?_ ?_)
    | (with_reducible refine Sup.bind ?_ (fun _ => ?_))
    | (with_reducible exact Sup.const _)
    | exact impl_Bits_next.F_sup _ _ _ _
    | exact impl_decoder_field.F_sup _ _ _ _ _
    | exact Sup.const _
def impl_decoder_gamma.T3 : Bool × List (List Nat × List Nat) := (true, [([], []), ([0], [0]), ([1], [1]), ([2], [2]), ([], []), ([4], [4]), ([5], [5]), ([6], [6]), ([3, 7], [3, 7]), ([], []), ([9], [9]), ([10], [10]), ([11], [11]), ([8, 12], [8, 12]), ([13, 8, 0, 1, 2, 3, 4, 5, 6, 7, 8, 9, 10, 11, 12, 13], [13])])
def impl_decoder_gamma.B3 : List Nat := [0, 1, 3, 7, 0, 16, 48, 112, 255, 0, 512, 1536, 3584, 8191, 16383]
theorem impl_decoder_gamma.tab3 : rtab .any (opsOf Try.f55 3) = impl_decoder_gamma.T3 := by kernel_rfl
theorem impl_decoder_gamma.bits3 : waitsOk impl_decoder_gamma.T3.2 impl_decoder_gamma.B3 = true := by kernel_rfl
def impl_decoder_gamma.T4 : Bool × List (List Nat × List Nat) := (true, [([], []), ([], []), ([1], [1]), ([2], [2]), ([3], [3]), ([], []), ([4, 5], [4, 5]), ([6], [6]), ([], []), ([8], [8]), ([9], [9]), ([10], [10]), ([11], [11]), ([12], [12]), ([13], [13]), ([7, 14], [7, 14]), ([0, 0, 1, 2, 3, 4, 5, 6, 7, 8, 9, 10, 11, 12, 13, 14, 15], [0]), ([16, 0, 1, 2, 3, 4, 5, 6, 7, 8, 9, 10, 11, 12, 13, 14, 15], [16]), ([17, 15, 0, 1, 2, 3, 4, 5, 6, 7, 8, 9, 10, 11, 12, 13, 14, 15], [15, 17])])
def impl_decoder_gamma.B4 : List Nat := [0, 0, 2, 6, 14, 0, 62, 126, 0, 256, 768, 1792, 3840, 7936, 16128, 32766, 65535, 131071, 262143]
theorem impl_decoder_gamma.tab4 : rtab .any (opsOf Try.f55 4) = impl_decoder_gamma.T4 := by kernel_rfl
theorem impl_decoder_gamma.bits4 : waitsOk impl_decoder_gamma.T4.2 impl_decoder_gamma.B4 = true := by kernel_rfl
def impl_decoder_gamma.T8 : Bool × List (List Nat × List Nat) := (true, [([], []), ([0], [0]), ([], []), ([], []), ([2, 3], [2, 3]), ([1, 4], [1, 4]), ([5, 4, 0, 1, 2, 3, 4, 5], [5])])
def impl_decoder_gamma.B8 : List Nat := [0, 1, 0, 0, 12, 31, 63]
theorem impl_decoder_gamma.tab8 : rtab .any (opsOf Try.f55 8) = impl_decoder_gamma.T8 := by kernel_rfl
theorem impl_decoder_gamma.bits8 : waitsOk impl_decoder_gamma.T8.2 impl_decoder_gamma.B8 = true := by kernel_rfl
set_option maxHeartbeats 8000000 in
set_option maxRecDepth 100000 in
theorem impl_decoder_gamma.calls (k : Nat) (gd gb : Nat) (b0 : Int) (A0 : Option Addr) (c0 : Nat) (l0 : List Int) (at_ : Int) (bad : Bool) (r1 r2 : Int) (r3 : Bool) (w0 w : World) (hB : Below w0.heap.size w0 w) (hg : w0.heap.size ≤ gd) (hd : w.heap[gd]? = some (.cells #[.pointer (some ⟨gb, 0, none⟩), .int .i64 at_, .bool bad] 94 (0, 0))) (hb : w.heap[gb]? = some (.cells #[.int .i64 b0, .slice A0 l0.length c0] 24 (0, 0))) (hr : Kd.C (Kd.int .i64) w0 A0 l0.length l0) (hc : l0.length ≤ c0) (h : impl_decoder_gamma.f k b0 l0 at_ bad = some (r1, r2, r3)) :
    Calls Try.prog 55 #[.pointer (some ⟨gd, 0, none⟩)] w fun e w' => e = .returned (.int .i64 r1) ∧ w'.heap[gd]? = some (.cells #[.pointer (some ⟨gb, 0, none⟩), .int .i64 r2, .bool r3] 94 (0, 0)) ∧ KeepBut w w' gd none ∧ Below w0.heap.size w0 w' := by
  have hu94 := Try.underlying94
  have hu24 := Try.underlying24
  have HNE := Aside0.mk (show gb ≠ gd from by rintro rfl; rw [hb] at hd; simp at hd)
  have HR := Aside0.mk hr
  have HC := Aside0.mk hc
  have GEd := Aside0.mk hg
  have BKd := Aside0.mk hd
  have BKb := Aside0.mk hb
  have HB := Aside0.mk hB
  have HK := Aside0.mk (KeepBut.refl w gd none)
  clear hr hc hg hd hb hB
  replace h : (if bad = true then (some (0, at_, true)) else ((impl_Bits_next.f k b0 l0 at_ true).bind fun t => (if (wrap64 (t - at_)) > 24 then (some (0, (mn (wrap64 (wrap64 (at_ + (wrap64 (t - at_))) + 1)) b0), true)) else (if 0 ≤ (wrap64 (t - at_)) then ((impl_decoder_field.f k b0 l0 (mn (wrap64 (wrap64 (at_ + (wrap64 (t - at_))) + 1)) b0) false (wrap64 (t - at_))).bind fun bt => (some (Go.bits .or .i64 (shl .i64 1 (wrap64 (t - at_))) bt.1, bt.2.1, bt.2.2))) else (none))))) = some (r1, r2, r3) := h
  go_enter Try.func55, Try.ntmps55
  cases bad with
  | true =>
   rw [if_pos rfl] at h
   simp only [Option.some.injEq, Prod.mk.injEq] at h
   obtain ⟨rfl, rfl, rfl⟩ := h
   have hd10_0 : w.cell? ⟨gd, 0, none⟩ = some (.pointer (some ⟨gb, 0, none⟩)) := (blk_cell BKd.out 0).trans rfl
   have hf10_0 := blk_frozen BKd.out 0
   have hd10_1 : w.cell? ⟨gd, 1, none⟩ = some (.int .i64 at_) := (blk_cell BKd.out 1).trans rfl
   have hf10_1 := blk_frozen BKd.out 1
   have hd10_2 : w.cell? ⟨gd, 2, none⟩ = some (.bool true) := (blk_cell BKd.out 2).trans rfl
   have hf10_2 := blk_frozen BKd.out 2
   have hb10_0 : w.cell? ⟨gb, 0, none⟩ = some (.int .i64 b0) := (blk_cell BKb.out 0).trans rfl
   go_wp2
   go_ret
   exact ⟨rfl, BKd.out, HK.out, HB.out⟩
  | false =>
   rw [if_neg (by decide)] at h
   obtain ⟨t, A30, h⟩ := Option.bind_eq_some_iff.mp h
   have A3 := Aside0.mk A30
   clear A30
   have hd11_0 : w.cell? ⟨gd, 0, none⟩ = some (.pointer (some ⟨gb, 0, none⟩)) := (blk_cell BKd.out 0).trans rfl
   have hf11_0 := blk_frozen BKd.out 0
   have hd11_1 : w.cell? ⟨gd, 1, none⟩ = some (.int .i64 at_) := (blk_cell BKd.out 1).trans rfl
   have hf11_1 := blk_frozen BKd.out 1
   have hd11_2 : w.cell? ⟨gd, 2, none⟩ = some (.bool false) := (blk_cell BKd.out 2).trans rfl
   have hf11_2 := blk_frozen BKd.out 2
   have hb11_0 : w.cell? ⟨gb, 0, none⟩ = some (.int .i64 b0) := (blk_cell BKb.out 0).trans rfl
   go_wp2
   replace BKd := Aside0.mk (blk_drew BKd.out)
   replace BKb := Aside0.mk (blk_drew BKb.out)
   replace HB := Aside0.mk (below_drew1 HB.out)
   replace HK := Aside0.mk (keep_drew HK.out)
   refine start_ (n := 15) (S := fun w' => w'.cell? ⟨gd, 0, none⟩ = some (.pointer (some ⟨gb, 0, none⟩)) ∧ w'.cell? ⟨gd, 1, none⟩ = some (.int .i64 at_) ∧ w'.cell? ⟨gd, 2, none⟩ = some (.bool false) ∧ w'.cell? ⟨gb, 0, none⟩ = some (.int .i64 b0)) (ds := []) #[false, false, false, false, false, false, false, false, false, false, false, false, false, false, false] (by kernel_rfl) rfl rfl ⟨(blk_cell BKd.out 0).trans rfl, (blk_cell BKd.out 1).trans rfl, (blk_cell BKd.out 2).trans rfl, (blk_cell BKb.out 0).trans rfl⟩ (fun hHeld => ?_); refine with_tabW impl_decoder_gamma.tab3 impl_decoder_gamma.bits3 (fun HT_ HW_ => ?_)
   generalize w.drew = w3 at BKd BKb HB HK hHeld ⊢
   refine pr_ 0 8 15 1 ?_
   refine pr_ 1 9 15 3 ?_
   refine pr_ 2 10 15 7 ?_
   refine tq_ 3 11 15 15 HT_.out HW_.out (by kernel_rfl) hHeld ?_ rfl (by rintro w' ⟨s0, s1, s2, s3⟩; go_simp; with_reducible rfl)
   refine pr_ 4 12 15 31 ?_
   refine pr_ 5 13 15 63 ?_
   refine pr_ 6 14 15 127 ?_
   refine tq_ 7 15 15 255 HT_.out HW_.out (by kernel_rfl) hHeld ?_ rfl (by rintro w' ⟨s0, s1, s2, s3⟩; go_simp; with_reducible rfl)
   refine pr_ 9 17 15 767 ?_
   refine pr_ 10 18 15 1791 ?_
   refine pr_ 11 19 15 3839 ?_
   refine tq_ 12 20 15 7935 HT_.out HW_.out (by kernel_rfl) hHeld ?_ rfl (by rintro w' ⟨s0, s1, s2, s3⟩; go_simp; with_reducible rfl)
   refine one_ (i := 8) (N := some 16) (bsA 15 8191) rfl rfl (one_of HT_.out (by kernel_rfl)) (by decide) (fun K hK => ?_)
   refine goes_ Try.func88 (by kernel_rfl) rfl #[.pointer (some ⟨gb, 0, none⟩), .int .i64 at_, .bool true] (by rfl) rfl rfl (by (try simp only [List.map_toArray, List.map_cons, List.map_nil]); first | done | rfl) ?_
   with_reducible refine (impl_Bits_next.calls k gb b0 A0 c0 l0 at_ true t _ (Kd.C_below HR.out HB.out) HC.out BKb.out A3.out).mono ?_
   rintro e w' ⟨rfl, ⟨nd, rfl⟩⟩
   refine ⟨_, rfl, ?_⟩
   refine hK.out _ _ hHeld (fun hHeld => ?_)
   clear hK K
   refine norm_ (a' := ?_) ?_ ?_
   rotate_left
   ·show Act.put _ (some 16) _ = _
    simp only [Act.put, List.setIfInBounds_toArray, List.set_cons_zero, List.set_cons_succ, i64_w]
    rfl
   refine pr_ 13 21 15 16383 ?_
   refine pr_ 14 3 15 32767 ?_
   refine done_ (done_of HT_.out (by kernel_rfl)) ?_
   replace BKd := Aside0.mk (blk_drewN BKd.out nd)
   replace BKb := Aside0.mk (blk_drewN BKb.out nd)
   replace HB := Aside0.mk (pw_below_drewN HB.out nd)
   replace HK := Aside0.mk (keep_drewN HK.out nd)
   generalize w3.drewN nd = w4 at BKd BKb HB HK ⊢
   try go_wp2
   replace BKd := Aside0.mk (blk_drew BKd.out)
   replace BKb := Aside0.mk (blk_drew BKb.out)
   replace HB := Aside0.mk (below_drew1 HB.out)
   replace HK := Aside0.mk (keep_drew HK.out)
   obtain ⟨mt, hmt⟩ : ∃ j_ : Int, (mn (wrap64 (wrap64 (at_ + (wrap64 (t - at_))) + 1)) b0) = j_ := ⟨_, rfl⟩
   simp only [hmt] at h
   have hmt_ : (if b0 < (wrap64 (wrap64 (at_ + (wrap64 (t - at_))) + 1)) then b0 else (wrap64 (wrap64 (at_ + (wrap64 (t - at_))) + 1))) = mt := hmt
   refine start_ (n := 19) (S := fun w' => w'.cell? ⟨gd, 0, none⟩ = some (.pointer (some ⟨gb, 0, none⟩)) ∧ w'.cell? ⟨gd, 1, none⟩ = some (.int .i64 at_) ∧ w'.cell? ⟨gd, 2, none⟩ = some (.bool false) ∧ w'.cell? ⟨gb, 0, none⟩ = some (.int .i64 b0)) (ds := [18]) #[false, false, false, false, false, false, false, false, false, false, false, false, false, false, false, false, false, false, false] (by kernel_rfl) rfl rfl ⟨(blk_cell BKd.out 0).trans rfl, (blk_cell BKd.out 1).trans rfl, (blk_cell BKd.out 2).trans rfl, (blk_cell BKb.out 0).trans rfl⟩ (fun hHeld => ?_); refine with_tabW impl_decoder_gamma.tab4 impl_decoder_gamma.bits4 (fun HT_ HW_ => ?_)
   generalize w4.drew = w5 at BKd BKb HB HK hHeld ⊢
   refine pr_ 0 22 19 1 ?_
   refine pr_ 1 23 19 3 ?_
   refine pr_ 2 24 19 7 ?_
   refine pr_ 3 25 19 15 ?_
   refine tq_ 4 26 19 31 HT_.out HW_.out (by kernel_rfl) hHeld ?_ rfl (by rintro w' ⟨s0, s1, s2, s3⟩; go_simp; with_reducible rfl)
   refine pr_ 5 27 19 63 ?_
   refine pr_ 6 28 19 127 ?_
   refine pr_ 7 29 19 255 ?_
   refine pr_ 8 30 19 511 ?_
   refine pr_ 9 31 19 1023 ?_
   refine pr_ 10 32 19 2047 ?_
   refine tq_ 11 33 19 4095 HT_.out HW_.out (by kernel_rfl) hHeld ?_ rfl (by rintro w' ⟨s0, s1, s2, s3⟩; go_simp; with_reducible rfl)
   refine pr_ 12 34 19 8191 ?_
   refine pr_ 13 35 19 16383 ?_
   refine tq_ 14 36 19 32767 HT_.out HW_.out (by kernel_rfl) hHeld ?_ rfl (by rintro w' ⟨s0, s1, s2, s3⟩; go_simp; with_reducible rfl)
   refine pr_ 15 37 19 65535 ?_
   refine pr_ 16 38 19 131071 ?_
   refine pr_ 17 39 19 262143 ?_
   have hd12_0 : w5.cell? ⟨gd, 0, none⟩ = some (.pointer (some ⟨gb, 0, none⟩)) := (blk_cell BKd.out 0).trans rfl
   have hf12_0 := blk_frozen BKd.out 0
   have hd12_1 : w5.cell? ⟨gd, 1, none⟩ = some (.int .i64 at_) := (blk_cell BKd.out 1).trans rfl
   have hf12_1 := blk_frozen BKd.out 1
   have hd12_2 : w5.cell? ⟨gd, 2, none⟩ = some (.bool false) := (blk_cell BKd.out 2).trans rfl
   have hf12_2 := blk_frozen BKd.out 2
   have hb12_0 : w5.cell? ⟨gb, 0, none⟩ = some (.int .i64 b0) := (blk_cell BKb.out 0).trans rfl
   refine last_ (i := 18) (N := none) (bsA 19 524287) rfl rfl (one_of HT_.out (by kernel_rfl)) (by decide) (fun K hK => ?_)
   refine skip_ (w1 := ?_) (by rfl) rfl ?_ ?_
   rotate_left
   ·go_simp
    rfl
   refine hK.out _ _ ?_
   clear hK K
   refine done_ (done_of HT_.out (by kernel_rfl)) ?_
   replace BKd := Aside0.mk (show (w5.setCell ⟨gd, 1, none⟩ (.int .i64 mt)).heap[gd]? = some (.cells #[.pointer (some ⟨gb, 0, none⟩), .int .i64 mt, .bool false] 94 (0, 0)) from blk_put (cs := #[.pointer (some ⟨gb, 0, none⟩), .int .i64 at_, .bool false]) BKd.out 1 _ rfl)
   replace BKb := Aside0.mk (blk_far BKb.out (p := ⟨gd, 1, none⟩) HNE.out (.int .i64 mt))
   replace HB := Aside0.mk (show Below w0.heap.size w0 (w5.setCell ⟨gd, 1, none⟩ (.int .i64 mt)) from below_set HB.out GEd.out)
   replace HK := Aside0.mk (show KeepBut w (w5.setCell ⟨gd, 1, none⟩ (.int .i64 mt)) gd none from KeepBut.set_ HK.out 1 (.int .i64 mt))
   generalize w5.setCell ⟨gd, 1, none⟩ (.int .i64 mt) = w6 at BKd BKb HB HK ⊢
   have hd13_0 : w6.cell? ⟨gd, 0, none⟩ = some (.pointer (some ⟨gb, 0, none⟩)) := (blk_cell BKd.out 0).trans rfl
   have hf13_0 := blk_frozen BKd.out 0
   have hd13_1 : w6.cell? ⟨gd, 1, none⟩ = some (.int .i64 mt) := (blk_cell BKd.out 1).trans rfl
   have hf13_1 := blk_frozen BKd.out 1
   have hd13_2 : w6.cell? ⟨gd, 2, none⟩ = some (.bool false) := (blk_cell BKd.out 2).trans rfl
   have hf13_2 := blk_frozen BKd.out 2
   have hb13_0 : w6.cell? ⟨gb, 0, none⟩ = some (.int .i64 b0) := (blk_cell BKb.out 0).trans rfl
   by_cases c1 : (wrap64 (t - at_)) > 24
   ·rw [if_pos c1] at h
    have c1b0 : decide (24 < (wrap64 (t - at_))) = true := decide_eq_true c1
    clear c1
    simp only [Option.some.injEq, Prod.mk.injEq] at h
    obtain ⟨rfl, rfl, rfl⟩ := h
    go_wp2
    replace BKd := Aside0.mk (show (w6.setCell ⟨gd, 2, none⟩ (.bool true)).heap[gd]? = some (.cells #[.pointer (some ⟨gb, 0, none⟩), .int .i64 mt, .bool true] 94 (0, 0)) from blk_put (cs := #[.pointer (some ⟨gb, 0, none⟩), .int .i64 mt, .bool false]) BKd.out 2 _ rfl)
    replace BKb := Aside0.mk (blk_far BKb.out (p := ⟨gd, 2, none⟩) HNE.out (.bool true))
    replace HB := Aside0.mk (show Below w0.heap.size w0 (w6.setCell ⟨gd, 2, none⟩ (.bool true)) from below_set HB.out GEd.out)
    replace HK := Aside0.mk (show KeepBut w (w6.setCell ⟨gd, 2, none⟩ (.bool true)) gd none from KeepBut.set_ HK.out 2 (.bool true))
    generalize w6.setCell ⟨gd, 2, none⟩ (.bool true) = w7 at BKd BKb HB HK ⊢
    have hd14_0 : w7.cell? ⟨gd, 0, none⟩ = some (.pointer (some ⟨gb, 0, none⟩)) := (blk_cell BKd.out 0).trans rfl
    have hf14_0 := blk_frozen BKd.out 0
    have hd14_1 : w7.cell? ⟨gd, 1, none⟩ = some (.int .i64 mt) := (blk_cell BKd.out 1).trans rfl
    have hf14_1 := blk_frozen BKd.out 1
    have hd14_2 : w7.cell? ⟨gd, 2, none⟩ = some (.bool true) := (blk_cell BKd.out 2).trans rfl
    have hf14_2 := blk_frozen BKd.out 2
    have hb14_0 : w7.cell? ⟨gb, 0, none⟩ = some (.int .i64 b0) := (blk_cell BKb.out 0).trans rfl
    try go_wp2
    go_ret
    exact ⟨rfl, BKd.out, HK.out, HB.out⟩
   ·rw [if_neg c1] at h
    have c1b0 : decide (24 < (wrap64 (t - at_))) = false := decide_eq_false c1
    clear c1
    by_cases c2 : 0 ≤ (wrap64 (t - at_))
    ·rw [if_pos c2] at h
     have c2b0 := eq_true c2
     have c2b1 : decide (0 ≤ (wrap64 (t - at_))) = true := decide_eq_true c2
     clear c2
     obtain ⟨ji, hji⟩ : ∃ j_ : Int, (shl .i64 1 (wrap64 (t - at_))) = j_ := ⟨_, rfl⟩
     rw [hji] at h
     have hji_ : (IntKind.i64.wrap (1 * 2 ^ min ((wrap64 (t - at_))).toNat 64)) = ji := hji
     have hjiz : (wrap64 (t - at_)) ≤ 64 → (IntKind.i64.wrap (1 * 2 ^ ((wrap64 (t - at_))).toNat)) = ji := shl_small hji
     have hjiu : (IntKind.i64.wrap (2 ^ min ((wrap64 (t - at_))).toNat 64)) = ji := by have h_ := hji_; rw [Int.one_mul] at h_; exact h_
     have hjiv : (wrap64 (t - at_)) ≤ 64 → (IntKind.i64.wrap (2 ^ ((wrap64 (t - at_))).toNat)) = ji := fun hle_ => by have h_ := hjiz hle_; rw [Int.one_mul] at h_; exact h_
     have hjiy : (wrap64 (1 * 2 ^ min ((wrap64 (t - at_))).toNat 64)) = ji := (i64_w _).symm.trans hji_
     have hjix : (wrap64 (t - at_)) ≤ 64 → (wrap64 (1 * 2 ^ ((wrap64 (t - at_))).toNat)) = ji := fun h_ => (i64_w _).symm.trans (hjiz h_)
     obtain ⟨⟨t1, t2, t3⟩, A40, h⟩ := Option.bind_eq_some_iff.mp h
     have A4 := Aside0.mk A40
     clear A40
     simp only [Option.some.injEq, Prod.mk.injEq] at h
     obtain ⟨rfl, rfl, rfl⟩ := h
     go_wp2
     replace BKd := Aside0.mk (blk_drew BKd.out)
     replace BKb := Aside0.mk (blk_drew BKb.out)
     replace HB := Aside0.mk (below_drew1 HB.out)
     replace HK := Aside0.mk (keep_drew HK.out)
     refine start_ (n := 7) (S := fun w' => True) (ds := []) #[false, false, false, false, false, false, false] (by kernel_rfl) rfl rfl trivial (fun hHeld => ?_); refine with_tabW impl_decoder_gamma.tab8 impl_decoder_gamma.bits8 (fun HT_ HW_ => ?_)
     generalize w6.drew = w8 at BKd BKb HB HK hHeld ⊢
     refine pr_ 0 45 7 1 ?_
     refine pr_ 1 46 7 3 ?_
     refine pr_ 2 47 7 7 ?_
     refine pr_ 3 48 7 15 ?_
     refine one_ (i := 4) (N := some 49) (bsA 7 31) rfl rfl (one_of HT_.out (by kernel_rfl)) (by decide) (fun K hK => ?_)
     refine goes_ Try.func89 (by kernel_rfl) rfl #[.pointer (some ⟨gd, 0, none⟩), .int .i64 (wrap64 (t - at_))] (by rfl) rfl rfl (by (try simp only [List.map_toArray, List.map_cons, List.map_nil]); first | done | rfl) ?_
     with_reducible refine (impl_decoder_field.calls k gd gb b0 A0 c0 l0 mt false (wrap64 (t - at_)) t1 t2 t3 w0 _ HB.out GEd.out BKd.out BKb.out HR.out HC.out A4.out).mono ?_
     rintro e w9 ⟨rfl, hbk, hkp, hbb⟩
     refine ⟨_, rfl, ?_⟩
     have n0_ := Aside0.mk hbk
     have n1_ := Aside0.mk (KeepBut.blk hkp BKb.out HNE.out (by simp))
     have n2_ := Aside0.mk (KeepBut.trans HK.out hkp (.inl rfl))
     have n3_ := Aside0.mk hbb
     clear BKd BKb HB HK hbk hkp hbb
     have BKd := n0_
     have BKb := n1_
     have HK := n2_
     have HB := n3_
     clear n0_ n1_ n2_ n3_
     refine hK.out _ _ trivial (fun hHeld => ?_)
     clear hK K
     refine norm_ (a' := ?_) ?_ ?_
     rotate_left
     ·show Act.put _ (some 49) _ = _
      simp only [Act.put, List.setIfInBounds_toArray, List.set_cons_zero, List.set_cons_succ, i64_w]
      rfl
     refine pr_ 5 50 7 63 ?_
     refine pr_ 6 2 7 127 ?_
     refine done_ (done_of HT_.out (by kernel_rfl)) ?_
     try go_wp2
     go_ret
     exact ⟨rfl, BKd.out, HK.out, HB.out⟩
    ·rw [if_neg c2] at h
     exact absurd h (by simp)
/-! ### slices_Equal_int_int: function 109 -/
def slices_Equal_int_int.l0 : Nat → List Int → List Int → Int → Int → Option (Bool)
  | 0, _, _, _, _ => none
  | k + 1, x0, x1, x12, x13 => if x13 < x12 then (if 0 ≤ x13 then (if x13 < (x0.length : Int) then (if x13 < (x1.length : Int) then (if (rd x0 x13) = (rd x1 x13) then (slices_Equal_int_int.l0 k x0 x1 x12 (wrap64 (x13 + 1))) else (some false)) else (none)) else (none)) else (none)) else (some true)
def slices_Equal_int_int.f (k : Nat) (l0 : List Int) (l1 : List Int) : Option (Bool) := if (l0.length : Int) = (l1.length : Int) then (slices_Equal_int_int.l0 k l0 l1 (l0.length : Int) 0) else (some false)
theorem slices_Equal_int_int.mono_l : ∀ k, (∀ y0 y1 y2 y3, LeO (slices_Equal_int_int.l0 k y0 y1 y2 y3) (slices_Equal_int_int.l0 (k + 1) y0 y1 y2 y3))
  | 0 => fun _ _ _ _ r h => by simp [slices_Equal_int_int.l0] at h
  | k + 1 => by
    have ih0 := slices_Equal_int_int.mono_l k
    · intro y0 y1 y2 y3
      unfold slices_Equal_int_int.l0
      repeat' first
      | (with_reducible exact ih0 _ _ _ _)
      | (with_reducible exact LeO.refl _)
      | (with_reducible exact LeO.none _)
      | (with_reducible refine LeO.ite ?_ ?_)
      | (with_reducible refine LeO.bind ?_ (fun _ => ?_))
      | exact ih0 _ _ _ _
      | exact LeO.none _
      | refine LeO.ite ?_ ?_
      | refine LeO.bind ?_ (fun _ => ?_)
theorem slices_Equal_int_int.mono : ∀ a0 a1 k, LeO (slices_Equal_int_int.f k a0 a1) (slices_Equal_int_int.f (k + 1) a0 a1) := by
  intro a0 a1 k
  have ih0 := slices_Equal_int_int.mono_l k
  unfold slices_Equal_int_int.f
  repeat' first
      | (with_reducible exact ih0 _ _ _ _)
      | (with_reducible exact LeO.refl _)
      | (with_reducible exact LeO.none _)
      | (with_reducible refine LeO.ite ?_ ?_)
      | (with_reducible refine LeO.bind ?_ (fun _ => ?_))
      | exact ih0 _ _ _ _
      | exact LeO.none _
      | refine LeO.ite ?_ ?_
      | refine LeO.bind ?_ (fun _ => ?_)
noncomputable def slices_Equal_int_int.L0 (y0 : List Int) (y1 : List Int) (y2 : Int) (y3 : Int) : Option (Bool) := lim fun k => slices_Equal_int_int.l0 k y0 y1 y2 y3
theorem slices_Equal_int_int.L0_sup (y0 : List Int) (y1 : List Int) (y2 : Int) (y3 : Int) : Sup (fun k => slices_Equal_int_int.l0 k y0 y1 y2 y3) (slices_Equal_int_int.L0 y0 y1 y2 y3) := Sup.of_mono fun k => slices_Equal_int_int.mono_l k y0 y1 y2 y3
noncomputable def slices_Equal_int_int.F (l0 : List Int) (l1 : List Int) : Option (Bool) := lim fun k => slices_Equal_int_int.f k l0 l1
theorem slices_Equal_int_int.F_sup (l0 : List Int) (l1 : List Int) : Sup (fun k => slices_Equal_int_int.f k l0 l1) (slices_Equal_int_int.F l0 l1) := Sup.of_mono fun k => slices_Equal_int_int.mono l0 l1 k
theorem slices_Equal_int_int.L0_eq (x0 : List Int) (x1 : List Int) (x12 : Int) (x13 : Int) : slices_Equal_int_int.L0 x0 x1 x12 x13 = if x13 < x12 then (if 0 ≤ x13 then (if x13 < (x0.length : Int) then (if x13 < (x1.length : Int) then (if (rd x0 x13) = (rd x1 x13) then (slices_Equal_int_int.L0 x0 x1 x12 (wrap64 (x13 + 1))) else (some false)) else (none)) else (none)) else (none)) else (some true) := by
  refine Sup.unique (slices_Equal_int_int.L0_sup x0 x1 x12 x13) (Sup.shift (fun k => slices_Equal_int_int.mono_l k x0 x1 x12 x13) (Sup.congr (g' := fun k => if x13 < x12 then (if 0 ≤ x13 then (if x13 < (x0.length : Int) then (if x13 < (x1.length : Int) then (if (rd x0 x13) = (rd x1 x13) then (slices_Equal_int_int.l0 k x0 x1 x12 (wrap64 (x13 + 1))) else (some false)) else (none)) else (none)) else (none)) else (some true)) (fun k => by first | rfl | simp only [slices_Equal_int_int.l0]) ?_))
  repeat' first
    | (with_reducible exact slices_Equal_int_int.L0_sup _ _ _ _)
    | (with_reducible refine Sup.ite ?_ ?_)
    | (with_reducible refine Sup.bind ?_ (fun _ => ?_))
    | (with_reducible exact Sup.const _)
    | exact slices_Equal_int_int.L0_sup _ _ _ _
    | exact Sup.const _
theorem slices_Equal_int_int.F_eq (l0 : List Int) (l1 : List Int) : slices_Equal_int_int.F l0 l1 = if (l0.length : Int) = (l1.length : Int) then (slices_Equal_int_int.L0 l0 l1 (l0.length : Int) 0) else (some false) := by
  refine Sup.unique (slices_Equal_int_int.F_sup l0 l1) (Sup.congr (g' := fun k => if (l0.length : Int) = (l1.length : Int) then (slices_Equal_int_int.l0 k l0 l1 (l0.length : Int) 0) else (some false)) (fun k => by first | rfl | simp only [slices_Equal_int_int.f]) ?_)
  repeat' first
    | (with_reducible exact slices_Equal_int_int.L0_sup _ _ _ _)
    | (with_reducible refine Sup.ite ?_ ?_)
    | (with_reducible refine Sup.bind ?_ (fun _ => ?_))
    | (with_reducible exact Sup.const _)
    | exact slices_Equal_int_int.L0_sup _ _ _ _
    | exact Sup.const _
set_option maxHeartbeats 8000000 in
set_option maxRecDepth 100000 in
theorem slices_Equal_int_int.calls (k : Nat) (A0 : Option Addr) (c0 : Nat) (l0 : List Int) (A1 : Option Addr) (c1 : Nat) (l1 : List Int) (r : Bool) (w : World) (hr0 : Kd.C (Kd.int .i64) w A0 l0.length l0) (hc0 : l0.length ≤ c0) (hr1 : Kd.C (Kd.int .i64) w A1 l1.length l1) (hc1 : l1.length ≤ c1) (h : slices_Equal_int_int.f k l0 l1 = some r) :
    Calls Try.prog 109 #[.slice A0 l0.length c0, .slice A1 l1.length c1] w fun e w' => e = .returned (.bool r) ∧ Drawn0 w w' := by
  have HR0 := Aside0.mk hr0
  have HC0 := Aside0.mk hc0
  clear hr0 hc0
  have HR1 := Aside0.mk hr1
  have HC1 := Aside0.mk hc1
  clear hr1 hc1
  have H : (if (l0.length : Int) = (l1.length : Int) then (slices_Equal_int_int.l0 k l0 l1 (l0.length : Int) 0) else (some false)) = some r := h
  clear h
  by_cases c3 : (l0.length : Int) = (l1.length : Int)
  ·rw [if_pos c3] at H
   have c3b0 : ((l0.length : Int) == (l1.length : Int)) = true := beq_iff_eq.mpr c3
   have c3b1 : ((l0.length : Int) != (l1.length : Int)) = false := bne_eq_false_iff_eq.mpr c3
   have c3b2 : (l0.length == l1.length) = true := by first | simpa using c3 | (simp at c3 ⊢; omega)
   clear c3
   have H' := Aside0.mk H
   clear H
   go_enter Try.func109, Try.ntmps109
   go_wp2
   repeat (go_quiet (fail); try go_wp2)
   go_loopg [13] k (fun kq v13 w' => ∃ (x13_1 : Int), v13 = .int .i64 x13_1 ∧ Aside0 (slices_Equal_int_int.l0 kq l0 l1 (l0.length : Int) x13_1 = some r) ∧ Aside0 (kq ≤ k) ∧ Drawn0 w w')
   case atStart => exact ⟨(0), rg_, H', ⟨Nat.le_refl _⟩, by repeat (first | exact Drawn0.refl _ | apply Drawn0.step)⟩
   case round =>
    clear H'
    try clear c1
    try clear p2
    try clear c3
    try clear c3b0
    try clear c3b1
    try clear c3b2
    obtain ⟨x13_1, rfl, HA, HK1, ⟨m1, rfl⟩⟩ := hrel
    cases gk with
    | zero => exact absurd HA.out (by simp [slices_Equal_int_int.l0])
    | succ k1 =>
     have H := HA.out
     clear HA
     simp only [slices_Equal_int_int.l0] at H
     by_cases c4 : x13_1 < (l0.length : Int)
     ·rw [if_pos c4] at H
      have c4b0 : decide (x13_1 < (l0.length : Int)) = true := decide_eq_true c4
      clear c4
      by_cases c5 : 0 ≤ x13_1
      ·rw [if_pos c5] at H
       have c5b0 : decide (0 ≤ x13_1) = true := decide_eq_true c5
       clear c5
       by_cases c6 : x13_1 < (l0.length : Int)
       ·rw [if_pos c6] at H
        have c6b0 : decide (x13_1 < (l0.length : Int)) = true := decide_eq_true c6
        clear c6
        by_cases c7 : x13_1 < (l1.length : Int)
        ·rw [if_pos c7] at H
         have c7b0 : decide (x13_1 < (l1.length : Int)) = true := decide_eq_true c7
         clear c7
         by_cases c8 : (rd l0 x13_1) = (rd l1 x13_1)
         ·rw [if_pos c8] at H
          have c8b0 : ((rd l0 x13_1) == (rd l1 x13_1)) = true := beq_iff_eq.mpr c8
          have c8b1 : ((rd l0 x13_1) != (rd l1 x13_1)) = false := bne_eq_false_iff_eq.mpr c8
          clear c8
          have H' := Aside0.mk H
          clear H
          have p362 : 0 ≤ (x13_1 : Int) := of_decide_eq_true as_
          have q362 : x13_1 < (l0.length : Int) := of_decide_eq_true as_
          obtain ⟨ad362, e362, hx362_0⟩ := Kd.at_int HR0.out x13_1 p362 q362
          cases e362
          replace p362 := eq_true p362
          replace q362 := eq_true q362
          have p363 : 0 ≤ (x13_1 : Int) := of_decide_eq_true as_
          have q363 : x13_1 < (l1.length : Int) := of_decide_eq_true as_
          obtain ⟨ad363, e363, hx363_0⟩ := Kd.at_int HR1.out x13_1 p363 q363
          cases e363
          replace p363 := eq_true p363
          replace q363 := eq_true q363
          go_wp2
          repeat (go_quiet (fail); try go_wp2)
          go_roundg k1
          case measure => have := HK1.out; omega
          case rel => exact ⟨(wrap64 (x13_1 + 1)), rg_, H', ⟨by have := HK1.out; omega⟩, by repeat (first | exact Drawn0.refl _ | apply Drawn0.step)⟩
         ·rw [if_neg c8] at H
          have c8b0 : ((rd l0 x13_1) == (rd l1 x13_1)) = false := beq_eq_false_iff_ne.mpr c8
          have c8b1 : ((rd l0 x13_1) != (rd l1 x13_1)) = true := bne_iff_ne.mpr c8
          obtain rfl := Option.some.inj H
          have p362 : 0 ≤ (x13_1 : Int) := of_decide_eq_true as_
          have q362 : x13_1 < (l0.length : Int) := of_decide_eq_true as_
          obtain ⟨ad362, e362, hx362_0⟩ := Kd.at_int HR0.out x13_1 p362 q362
          cases e362
          replace p362 := eq_true p362
          replace q362 := eq_true q362
          have p363 : 0 ≤ (x13_1 : Int) := of_decide_eq_true as_
          have q363 : x13_1 < (l1.length : Int) := of_decide_eq_true as_
          obtain ⟨ad363, e363, hx363_0⟩ := Kd.at_int HR1.out x13_1 p363 q363
          cases e363
          replace p363 := eq_true p363
          replace q363 := eq_true q363
          go_wp2
          repeat (go_quiet (fail); try go_wp2)
          go_ret
          exact ⟨rg_, by repeat (first | exact Drawn0.refl _ | apply Drawn0.step)⟩
        ·rw [if_neg c7] at H
         exact absurd H (by simp)
       ·rw [if_neg c6] at H
        exact absurd H (by simp)
      ·rw [if_neg c5] at H
       exact absurd H (by simp)
     ·rw [if_neg c4] at H
      have c4b0 : decide (x13_1 < (l0.length : Int)) = false := decide_eq_false c4
      clear c4
      obtain rfl := Option.some.inj H
      go_wp2
      repeat (go_quiet (fail); try go_wp2)
      go_ret
      exact ⟨rg_, by repeat (first | exact Drawn0.refl _ | apply Drawn0.step)⟩
  ·rw [if_neg c3] at H
   have c3b0 : ((l0.length : Int) == (l1.length : Int)) = false := beq_eq_false_iff_ne.mpr c3
   have c3b1 : ((l0.length : Int) != (l1.length : Int)) = true := bne_iff_ne.mpr c3
   have c3b2 : (l0.length == l1.length) = false := by first | simpa using c3 | (simp at c3 ⊢; omega)
   obtain rfl := Option.some.inj H
   go_enter Try.func109, Try.ntmps109
   go_wp2
   repeat (go_quiet (fail); try go_wp2)
   go_ret
   exact ⟨rg_, by repeat (first | exact Drawn0.refl _ | apply Drawn0.step)⟩
/-! ### impl_sameBits: function 87 -/
def impl_sameBits.f (k : Nat) (a0_0 : Int) (l0_1 : List Int) (a1_0 : Int) (l1_1 : List Int) : Option (Bool) := if a0_0 = a1_0 then ((slices_Equal_int_int.f k l0_1 l1_1).bind fun t366 => (some t366)) else (some false)
theorem impl_sameBits.mono : ∀ a0 a1 a2 a3 k, LeO (impl_sameBits.f k a0 a1 a2 a3) (impl_sameBits.f (k + 1) a0 a1 a2 a3) := by
  intro a0 a1 a2 a3 k
  unfold impl_sameBits.f
  repeat' first
      | (with_reducible exact slices_Equal_int_int.mono _ _ _)
      | (with_reducible exact LeO.refl _)
      | (with_reducible exact LeO.none _)
      | (with_reducible refine LeO.ite ?_ ?_)
      | (with_reducible refine LeO.bind ?_ (fun _ => ?_))
      | exact slices_Equal_int_int.mono _ _ _
      | exact LeO.none _
      | refine LeO.ite ?_ ?_
      | refine LeO.bind ?_ (fun _ => ?_)
noncomputable def impl_sameBits.F (a0_0 : Int) (l0_1 : List Int) (a1_0 : Int) (l1_1 : List Int) : Option (Bool) := lim fun k => impl_sameBits.f k a0_0 l0_1 a1_0 l1_1
theorem impl_sameBits.F_sup (a0_0 : Int) (l0_1 : List Int) (a1_0 : Int) (l1_1 : List Int) : Sup (fun k => impl_sameBits.f k a0_0 l0_1 a1_0 l1_1) (impl_sameBits.F a0_0 l0_1 a1_0 l1_1) := Sup.of_mono fun k => impl_sameBits.mono a0_0 l0_1 a1_0 l1_1 k
theorem impl_sameBits.F_eq (a0_0 : Int) (l0_1 : List Int) (a1_0 : Int) (l1_1 : List Int) : impl_sameBits.F a0_0 l0_1 a1_0 l1_1 = if a0_0 = a1_0 then ((slices_Equal_int_int.F l0_1 l1_1).bind fun t366 => (some t366)) else (some false) := by
  refine Sup.unique (impl_sameBits.F_sup a0_0 l0_1 a1_0 l1_1) (Sup.congr (g' := fun k => if a0_0 = a1_0 then ((slices_Equal_int_int.f k l0_1 l1_1).bind fun t366 => (some t366)) else (some false)) (fun k => by first | rfl | simp only [impl_sameBits.f]) ?_)
  repeat' first
    | (with_reducible exact slices_Equal_int_int.F_sup _ _)
    | (with_reducible refine Sup.ite ?_ ?_)
    | (with_reducible refine Sup.bind ?_ (fun _ => ?_))
    | (with_reducible exact Sup.const _)
    | exact slices_Equal_int_int.F_sup _ _
    | exact Sup.const _
set_option maxHeartbeats 8000000 in
set_option maxRecDepth 100000 in
theorem impl_sameBits.calls (k : Nat) (a0_0 : Int) (A0_1 : Option Addr) (c0_1 : Nat) (l0_1 : List Int) (a1_0 : Int) (A1_1 : Option Addr) (c1_1 : Nat) (l1_1 : List Int) (r : Bool) (w : World) (hr0_1 : Kd.C (Kd.int .i64) w A0_1 l0_1.length l0_1) (hc0_1 : l0_1.length ≤ c0_1) (hr1_1 : Kd.C (Kd.int .i64) w A1_1 l1_1.length l1_1) (hc1_1 : l1_1.length ≤ c1_1) (h : impl_sameBits.f k a0_0 l0_1 a1_0 l1_1 = some r) :
    Calls Try.prog 87 #[.agg #[.int .i64 a0_0, .slice A0_1 l0_1.length c0_1], .agg #[.int .i64 a1_0, .slice A1_1 l1_1.length c1_1]] w fun e w' => e = .returned (.bool r) ∧ Below w.heap.size w w' := by
  have hu24 := Try.underlying24
  have hu22 := Try.underlying22
  have HR0_1 := Aside0.mk hr0_1
  have HC0_1 := Aside0.mk hc0_1
  clear hr0_1 hc0_1
  have HR1_1 := Aside0.mk hr1_1
  have HC1_1 := Aside0.mk hc1_1
  clear hr1_1 hc1_1
  have HB := Aside0.mk (Below.refl w.heap.size w)
  have H : (if a0_0 = a1_0 then ((slices_Equal_int_int.f k l0_1 l1_1).bind fun t366 => (some t366)) else (some false)) = some r := h
  clear h
  by_cases c3 : a0_0 = a1_0
  ·rw [if_pos c3] at H
   have c3b0 : (a0_0 == a1_0) = true := beq_iff_eq.mpr c3
   have c3b1 : (a0_0 != a1_0) = false := bne_eq_false_iff_eq.mpr c3
   clear c3
   replace H := Option.bind_eq_some_iff.mp H
   obtain ⟨t366, A40, H⟩ := H
   replace H : (some t366) = some r := H
   have A4 := Aside0.mk A40
   clear A40
   obtain rfl := Option.some.inj H
   go_enter Try.func87, Try.ntmps87
   go_wp2_with (first | ((with_reducible refine gate_dst (N := 2) rfl ?_); refine bx_ 2 #[.int .i64 a0_0, .slice A0_1 l0_1.length c0_1] 24 ?_; intro gb364 hg w5 hbox hb; have BK364 := Aside0.mk (hbox); have GW364 := Aside0.mk ((ge_ hg)); have GE364 := Aside0.mk ((ge_ hg)); replace HB := Aside0.mk (below_step hB_ hb); clear hb hbox hg) | ((with_reducible refine gate_dst (N := 3) rfl ?_); refine bx_ 3 #[.int .i64 a1_0, .slice A1_1 l1_1.length c1_1] 24 ?_; intro gb365 hg w6 hbox hb; have BK365 := Aside0.mk (hbox); have GW365 := Aside0.mk ((ge_ hg)); have GE365 := Aside0.mk ((ge_ hg)); replace HB := Aside0.mk (below_step hB_ hb); have NB364_365 := Aside0.mk ((ne_ hg BK364)); have NB365_364 := Aside0.mk ((nf_ hg BK364)); replace BK364 := Aside0.mk (blk_below (kB_ BK364) hb); clear hb hbox hg; have hnb7 := NB364_365.out; have hnc7 := NB365_364.out; have hcz8_0 : w6.cell? ⟨gb364, 0, none⟩ = some (.int .i64 a0_0) := (blk_cell BK364.out 0).trans rfl; have hcz8_1 : w6.cell? ⟨gb364, 1, none⟩ = some (.slice A0_1 l0_1.length c0_1) := (blk_cell BK364.out 1).trans rfl; have hfz8_0 := blk_frozen BK364.out 0; have hfz8_1 := blk_frozen BK364.out 1; have hcz9_0 : w6.cell? ⟨gb365, 0, none⟩ = some (.int .i64 a1_0) := (blk_cell BK365.out 0).trans rfl; have hcz9_1 : w6.cell? ⟨gb365, 1, none⟩ = some (.slice A1_1 l1_1.length c1_1) := (blk_cell BK365.out 1).trans rfl; have hfz9_0 := blk_frozen BK365.out 0; have hfz9_1 := blk_frozen BK365.out 1) | (go_at_call 109; (with_reducible refine (slices_Equal_int_int.calls k _ _ l0_1 _ _ l1_1 t366 _ ?side1 ?side2 ?side3 ?side4 A4.out).mono ?_); (case side1 => exact kC_ HR0_1); (case side2 => exact HC0_1.out); (case side3 => exact kC_ HR1_1); (case side4 => exact HC1_1.out); rintro e w' ⟨rfl, ⟨nd, rfl⟩⟩))
   go_ret
   exact ⟨rf_, hB_⟩
  ·rw [if_neg c3] at H
   have c3b0 : (a0_0 == a1_0) = false := beq_eq_false_iff_ne.mpr c3
   have c3b1 : (a0_0 != a1_0) = true := bne_iff_ne.mpr c3
   obtain rfl := Option.some.inj H
   go_enter Try.func87, Try.ntmps87
   go_wp2_with (first | ((with_reducible refine gate_dst (N := 2) rfl ?_); refine bx_ 2 #[.int .i64 a0_0, .slice A0_1 l0_1.length c0_1] 24 ?_; intro gb364 hg w10 hbox hb; have BK364 := Aside0.mk (hbox); have GW364 := Aside0.mk ((ge_ hg)); have GE364 := Aside0.mk ((ge_ hg)); replace HB := Aside0.mk (below_step hB_ hb); clear hb hbox hg) | ((with_reducible refine gate_dst (N := 3) rfl ?_); refine bx_ 3 #[.int .i64 a1_0, .slice A1_1 l1_1.length c1_1] 24 ?_; intro gb365 hg w11 hbox hb; have BK365 := Aside0.mk (hbox); have GW365 := Aside0.mk ((ge_ hg)); have GE365 := Aside0.mk ((ge_ hg)); replace HB := Aside0.mk (below_step hB_ hb); have NB364_365 := Aside0.mk ((ne_ hg BK364)); have NB365_364 := Aside0.mk ((nf_ hg BK364)); replace BK364 := Aside0.mk (blk_below (kB_ BK364) hb); clear hb hbox hg; have hnb12 := NB364_365.out; have hnc12 := NB365_364.out; have hcz13_0 : w11.cell? ⟨gb364, 0, none⟩ = some (.int .i64 a0_0) := (blk_cell BK364.out 0).trans rfl; have hcz13_1 : w11.cell? ⟨gb364, 1, none⟩ = some (.slice A0_1 l0_1.length c0_1) := (blk_cell BK364.out 1).trans rfl; have hfz13_0 := blk_frozen BK364.out 0; have hfz13_1 := blk_frozen BK364.out 1; have hcz14_0 : w11.cell? ⟨gb365, 0, none⟩ = some (.int .i64 a1_0) := (blk_cell BK365.out 0).trans rfl; have hcz14_1 : w11.cell? ⟨gb365, 1, none⟩ = some (.slice A1_1 l1_1.length c1_1) := (blk_cell BK365.out 1).trans rfl; have hfz14_0 := blk_frozen BK365.out 0; have hfz14_1 := blk_frozen BK365.out 1))
   go_ret
   exact ⟨rf_, hB_⟩
/-! ### impl_decoder_delta: function 56 -/
def impl_decoder_delta.f (k : Nat) (b0 : Int) (l0 : List Int) (at_ : Int) (bad : Bool) : Option (Int × Int × Bool) := (impl_decoder_gamma.f k b0 l0 at_ bad).bind fun g => (if (wrap64 (g.1 - 1)) < 0 then (some (0, g.2.1, true)) else (if (wrap64 (g.1 - 1)) > 24 then (some (0, g.2.1, true)) else ((impl_decoder_field.f k b0 l0 g.2.1 g.2.2 (wrap64 (g.1 - 1))).bind fun bt => (some (Go.bits .or .i64 (shl .i64 1 (wrap64 (g.1 - 1))) bt.1, bt.2.1, bt.2.2)))))
theorem impl_decoder_delta.mono : ∀ a0 a1 a2 a3 k, LeO (impl_decoder_delta.f k a0 a1 a2 a3) (impl_decoder_delta.f (k + 1) a0 a1 a2 a3) := by
  intro a0 a1 a2 a3 k
  unfold impl_decoder_delta.f
  repeat' first
      | (with_reducible exact impl_decoder_gamma.mono _ _ _ _ _)
      | (with_reducible exact impl_decoder_field.mono _ _ _ _ _ _)
      | (with_reducible exact LeO.refl _)
      | (with_reducible exact LeO.none _)
      | (with_reducible refine LeO.ite ?_ ?_)
      | (with_reducible refine LeO.bind ?_ (fun _ => ?_))
      | exact impl_decoder_gamma.mono _ _ _ _ _
      | exact impl_decoder_field.mono _ _ _ _ _ _
      | exact LeO.none _
      | refine LeO.ite ?_ ?_
      | refine LeO.bind ?_ (fun _ => ?_)
noncomputable def impl_decoder_delta.F (b0 : Int) (l0 : List Int) (at_ : Int) (bad : Bool) : Option (Int × Int × Bool) := lim fun k => impl_decoder_delta.f k b0 l0 at_ bad
theorem impl_decoder_delta.F_sup (b0 : Int) (l0 : List Int) (at_ : Int) (bad : Bool) : Sup (fun k => impl_decoder_delta.f k b0 l0 at_ bad) (impl_decoder_delta.F b0 l0 at_ bad) := Sup.of_mono fun k => impl_decoder_delta.mono b0 l0 at_ bad k
theorem impl_decoder_delta.F_eq (b0 : Int) (l0 : List Int) (at_ : Int) (bad : Bool) : impl_decoder_delta.F b0 l0 at_ bad = (impl_decoder_gamma.F b0 l0 at_ bad).bind fun g => (if (wrap64 (g.1 - 1)) < 0 then (some (0, g.2.1, true)) else (if (wrap64 (g.1 - 1)) > 24 then (some (0, g.2.1, true)) else ((impl_decoder_field.F b0 l0 g.2.1 g.2.2 (wrap64 (g.1 - 1))).bind fun bt => (some (Go.bits .or .i64 (shl .i64 1 (wrap64 (g.1 - 1))) bt.1, bt.2.1, bt.2.2))))) := by
  refine Sup.unique (impl_decoder_delta.F_sup b0 l0 at_ bad) (Sup.congr (g' := fun k => (impl_decoder_gamma.f k b0 l0 at_ bad).bind fun g => (if (wrap64 (g.1 - 1)) < 0 then (some (0, g.2.1, true)) else (if (wrap64 (g.1 - 1)) > 24 then (some (0, g.2.1, true)) else ((impl_decoder_field.f k b0 l0 g.2.1 g.2.2 (wrap64 (g.1 - 1))).bind fun bt => (some (Go.bits .or .i64 (shl .i64 1 (wrap64 (g.1 - 1))) bt.1, bt.2.1, bt.2.2)))))) (fun k => by first | rfl | simp only [impl_decoder_delta.f]) ?_)
  repeat' first
    | (with_reducible exact impl_decoder_gamma.F_sup _ _ _ _)
    | (with_reducible exact impl_decoder_field.F_sup _ _ _ _ _)
    | (with_reducible refine Sup.ite ?_ ?_)
    | (with_reducible refine Sup.bind ?_ (fun _ => ?_))
    | (with_reducible exact Sup.const _)
    | exact impl_decoder_gamma.F_sup _ _ _ _
    | exact impl_decoder_field.F_sup _ _ _ _ _
    | exact Sup.const _
def impl_decoder_delta.T5 : Bool × List (List Nat × List Nat) := (true, [([], []), ([0], [0]), ([], []), ([], []), ([2, 3], [2, 3]), ([1, 4], [1, 4]), ([5, 4, 0, 1, 2, 3, 4, 5], [5])])
def impl_decoder_delta.B5 : List Nat := [0, 1, 0, 0, 12, 31, 63]
theorem impl_decoder_delta.tab5 : rtab .any (opsOf Try.f56 5) = impl_decoder_delta.T5 := by kernel_rfl
theorem impl_decoder_delta.bits5 : waitsOk impl_decoder_delta.T5.2 impl_decoder_delta.B5 = true := by kernel_rfl
set_option maxHeartbeats 8000000 in
set_option maxRecDepth 100000 in
theorem impl_decoder_delta.calls (k : Nat) (gd gb : Nat) (b0 : Int) (A0 : Option Addr) (c0 : Nat) (l0 : List Int) (at_ : Int) (bad : Bool) (r1 r2 : Int) (r3 : Bool) (w0 w : World) (hB : Below w0.heap.size w0 w) (hg : w0.heap.size ≤ gd) (hd : w.heap[gd]? = some (.cells #[.pointer (some ⟨gb, 0, none⟩), .int .i64 at_, .bool bad] 94 (0, 0))) (hb : w.heap[gb]? = some (.cells #[.int .i64 b0, .slice A0 l0.length c0] 24 (0, 0))) (hr : Kd.C (Kd.int .i64) w0 A0 l0.length l0) (hc : l0.length ≤ c0) (h : impl_decoder_delta.f k b0 l0 at_ bad = some (r1, r2, r3)) :
    Calls Try.prog 56 #[.pointer (some ⟨gd, 0, none⟩)] w fun e w' => e = .returned (.int .i64 r1) ∧ w'.heap[gd]? = some (.cells #[.pointer (some ⟨gb, 0, none⟩), .int .i64 r2, .bool r3] 94 (0, 0)) ∧ KeepBut w w' gd none ∧ Below w0.heap.size w0 w' := by
  have hu94 := Try.underlying94
  have hu24 := Try.underlying24
  have HNE := Aside0.mk (show gb ≠ gd from by rintro rfl; rw [hb] at hd; simp at hd)
  have HR := Aside0.mk hr
  have HC := Aside0.mk hc
  have GEd := Aside0.mk hg
  have BKd := Aside0.mk hd
  have BKb := Aside0.mk hb
  have HB := Aside0.mk hB
  have HK := Aside0.mk (KeepBut.refl w gd none)
  clear hr hc hg hd hb hB
  replace h : ((impl_decoder_gamma.f k b0 l0 at_ bad).bind fun g => (if (wrap64 (g.1 - 1)) < 0 then (some (0, g.2.1, true)) else (if (wrap64 (g.1 - 1)) > 24 then (some (0, g.2.1, true)) else ((impl_decoder_field.f k b0 l0 g.2.1 g.2.2 (wrap64 (g.1 - 1))).bind fun bt => (some (Go.bits .or .i64 (shl .i64 1 (wrap64 (g.1 - 1))) bt.1, bt.2.1, bt.2.2)))))) = some (r1, r2, r3) := h
  obtain ⟨⟨g1, g2, g3⟩, A30, h⟩ := Option.bind_eq_some_iff.mp h
  have A3 := Aside0.mk A30
  clear A30
  go_enter Try.func56, Try.ntmps56
  by_cases c0 : (wrap64 (g1 - 1)) < 0
  ·rw [if_pos c0] at h
   have c0b0 : decide ((wrap64 (g1 - 1)) < 0) = true := decide_eq_true c0
   clear c0
   simp only [Option.some.injEq, Prod.mk.injEq] at h
   obtain ⟨rfl, rfl, rfl⟩ := h
   go_wp2_with (go_at_call 55; (with_reducible refine (impl_decoder_gamma.calls k gd gb b0 A0 c0 l0 at_ bad g1 g2 g3 w0 _ HB.out GEd.out BKd.out BKb.out HR.out HC.out A3.out).mono ?_); rintro e w4 ⟨rfl, hbk, hkp, hbb⟩; have n0_ := Aside0.mk hbk; have n1_ := Aside0.mk (KeepBut.blk hkp BKb.out HNE.out (by simp)); have n2_ := Aside0.mk (KeepBut.trans HK.out hkp (.inl rfl)); have n3_ := Aside0.mk hbb; clear BKd BKb HB HK hbk hkp hbb; have BKd := n0_; have BKb := n1_; have HK := n2_; have HB := n3_; clear n0_ n1_ n2_ n3_; have hd15_0 : w4.cell? ⟨gd, 0, none⟩ = some (.pointer (some ⟨gb, 0, none⟩)) := (blk_cell BKd.out 0).trans rfl; have hf15_0 := blk_frozen BKd.out 0; have hd15_1 : w4.cell? ⟨gd, 1, none⟩ = some (.int .i64 g2) := (blk_cell BKd.out 1).trans rfl; have hf15_1 := blk_frozen BKd.out 1; have hd15_2 : w4.cell? ⟨gd, 2, none⟩ = some (.bool g3) := (blk_cell BKd.out 2).trans rfl; have hf15_2 := blk_frozen BKd.out 2; have hb15_0 : w4.cell? ⟨gb, 0, none⟩ = some (.int .i64 b0) := (blk_cell BKb.out 0).trans rfl)
   replace BKd := Aside0.mk (show (w4.setCell ⟨gd, 2, none⟩ (.bool true)).heap[gd]? = some (.cells #[.pointer (some ⟨gb, 0, none⟩), .int .i64 g2, .bool true] 94 (0, 0)) from blk_put (cs := #[.pointer (some ⟨gb, 0, none⟩), .int .i64 g2, .bool g3]) BKd.out 2 _ rfl)
   replace BKb := Aside0.mk (blk_far BKb.out (p := ⟨gd, 2, none⟩) HNE.out (.bool true))
   replace HB := Aside0.mk (show Below w0.heap.size w0 (w4.setCell ⟨gd, 2, none⟩ (.bool true)) from below_set HB.out GEd.out)
   replace HK := Aside0.mk (show KeepBut w (w4.setCell ⟨gd, 2, none⟩ (.bool true)) gd none from KeepBut.set_ HK.out 2 (.bool true))
   generalize w4.setCell ⟨gd, 2, none⟩ (.bool true) = w7 at BKd BKb HB HK ⊢
   have hd16_0 : w7.cell? ⟨gd, 0, none⟩ = some (.pointer (some ⟨gb, 0, none⟩)) := (blk_cell BKd.out 0).trans rfl
   have hf16_0 := blk_frozen BKd.out 0
   have hd16_1 : w7.cell? ⟨gd, 1, none⟩ = some (.int .i64 g2) := (blk_cell BKd.out 1).trans rfl
   have hf16_1 := blk_frozen BKd.out 1
   have hd16_2 : w7.cell? ⟨gd, 2, none⟩ = some (.bool true) := (blk_cell BKd.out 2).trans rfl
   have hf16_2 := blk_frozen BKd.out 2
   have hb16_0 : w7.cell? ⟨gb, 0, none⟩ = some (.int .i64 b0) := (blk_cell BKb.out 0).trans rfl
   try go_wp2
   go_ret
   exact ⟨rfl, BKd.out, HK.out, HB.out⟩
  ·rw [if_neg c0] at h
   have c0b0 : decide ((wrap64 (g1 - 1)) < 0) = false := decide_eq_false c0
   by_cases c1 : (wrap64 (g1 - 1)) > 24
   ·rw [if_pos c1] at h
    have c1b0 : decide (24 < (wrap64 (g1 - 1))) = true := decide_eq_true c1
    clear c0 c1
    simp only [Option.some.injEq, Prod.mk.injEq] at h
    obtain ⟨rfl, rfl, rfl⟩ := h
    go_wp2_with (go_at_call 55; (with_reducible refine (impl_decoder_gamma.calls k gd gb b0 A0 c0 l0 at_ bad g1 g2 g3 w0 _ HB.out GEd.out BKd.out BKb.out HR.out HC.out A3.out).mono ?_); rintro e w4 ⟨rfl, hbk, hkp, hbb⟩; have n0_ := Aside0.mk hbk; have n1_ := Aside0.mk (KeepBut.blk hkp BKb.out HNE.out (by simp)); have n2_ := Aside0.mk (KeepBut.trans HK.out hkp (.inl rfl)); have n3_ := Aside0.mk hbb; clear BKd BKb HB HK hbk hkp hbb; have BKd := n0_; have BKb := n1_; have HK := n2_; have HB := n3_; clear n0_ n1_ n2_ n3_; have hd17_0 : w4.cell? ⟨gd, 0, none⟩ = some (.pointer (some ⟨gb, 0, none⟩)) := (blk_cell BKd.out 0).trans rfl; have hf17_0 := blk_frozen BKd.out 0; have hd17_1 : w4.cell? ⟨gd, 1, none⟩ = some (.int .i64 g2) := (blk_cell BKd.out 1).trans rfl; have hf17_1 := blk_frozen BKd.out 1; have hd17_2 : w4.cell? ⟨gd, 2, none⟩ = some (.bool g3) := (blk_cell BKd.out 2).trans rfl; have hf17_2 := blk_frozen BKd.out 2; have hb17_0 : w4.cell? ⟨gb, 0, none⟩ = some (.int .i64 b0) := (blk_cell BKb.out 0).trans rfl)
    replace BKd := Aside0.mk (show (w4.setCell ⟨gd, 2, none⟩ (.bool true)).heap[gd]? = some (.cells #[.pointer (some ⟨gb, 0, none⟩), .int .i64 g2, .bool true] 94 (0, 0)) from blk_put (cs := #[.pointer (some ⟨gb, 0, none⟩), .int .i64 g2, .bool g3]) BKd.out 2 _ rfl)
    replace BKb := Aside0.mk (blk_far BKb.out (p := ⟨gd, 2, none⟩) HNE.out (.bool true))
    replace HB := Aside0.mk (show Below w0.heap.size w0 (w4.setCell ⟨gd, 2, none⟩ (.bool true)) from below_set HB.out GEd.out)
    replace HK := Aside0.mk (show KeepBut w (w4.setCell ⟨gd, 2, none⟩ (.bool true)) gd none from KeepBut.set_ HK.out 2 (.bool true))
    generalize w4.setCell ⟨gd, 2, none⟩ (.bool true) = w7 at BKd BKb HB HK ⊢
    have hd18_0 : w7.cell? ⟨gd, 0, none⟩ = some (.pointer (some ⟨gb, 0, none⟩)) := (blk_cell BKd.out 0).trans rfl
    have hf18_0 := blk_frozen BKd.out 0
    have hd18_1 : w7.cell? ⟨gd, 1, none⟩ = some (.int .i64 g2) := (blk_cell BKd.out 1).trans rfl
    have hf18_1 := blk_frozen BKd.out 1
    have hd18_2 : w7.cell? ⟨gd, 2, none⟩ = some (.bool true) := (blk_cell BKd.out 2).trans rfl
    have hf18_2 := blk_frozen BKd.out 2
    have hb18_0 : w7.cell? ⟨gb, 0, none⟩ = some (.int .i64 b0) := (blk_cell BKb.out 0).trans rfl
    try go_wp2
    go_ret
    exact ⟨rfl, BKd.out, HK.out, HB.out⟩
   ·rw [if_neg c1] at h
    have c1b0 : decide (24 < (wrap64 (g1 - 1))) = false := decide_eq_false c1
    have c2 : 0 ≤ (wrap64 (g1 - 1)) := by omega
    have c2b0 := eq_true c2
    have c2b1 : decide (0 ≤ (wrap64 (g1 - 1))) = true := decide_eq_true c2
    clear c0 c1 c2
    replace h : ((impl_decoder_field.f k b0 l0 g2 g3 (wrap64 (g1 - 1))).bind fun bt => (some (Go.bits .or .i64 (shl .i64 1 (wrap64 (g1 - 1))) bt.1, bt.2.1, bt.2.2))) = some (r1, r2, r3) := h
    obtain ⟨ji, hji⟩ : ∃ j_ : Int, (shl .i64 1 (wrap64 (g1 - 1))) = j_ := ⟨_, rfl⟩
    rw [hji] at h
    have hji_ : (IntKind.i64.wrap (1 * 2 ^ min ((wrap64 (g1 - 1))).toNat 64)) = ji := hji
    have hjiz : (wrap64 (g1 - 1)) ≤ 64 → (IntKind.i64.wrap (1 * 2 ^ ((wrap64 (g1 - 1))).toNat)) = ji := shl_small hji
    have hjiu : (IntKind.i64.wrap (2 ^ min ((wrap64 (g1 - 1))).toNat 64)) = ji := by have h_ := hji_; rw [Int.one_mul] at h_; exact h_
    have hjiv : (wrap64 (g1 - 1)) ≤ 64 → (IntKind.i64.wrap (2 ^ ((wrap64 (g1 - 1))).toNat)) = ji := fun hle_ => by have h_ := hjiz hle_; rw [Int.one_mul] at h_; exact h_
    have hjiy : (wrap64 (1 * 2 ^ min ((wrap64 (g1 - 1))).toNat 64)) = ji := (i64_w _).symm.trans hji_
    have hjix : (wrap64 (g1 - 1)) ≤ 64 → (wrap64 (1 * 2 ^ ((wrap64 (g1 - 1))).toNat)) = ji := fun h_ => (i64_w _).symm.trans (hjiz h_)
    obtain ⟨⟨t1, t2, t3⟩, A40, h⟩ := Option.bind_eq_some_iff.mp h
    have A4 := Aside0.mk A40
    clear A40
    simp only [Option.some.injEq, Prod.mk.injEq] at h
    obtain ⟨rfl, rfl, rfl⟩ := h
    go_wp2_with (go_at_call 55; (with_reducible refine (impl_decoder_gamma.calls k gd gb b0 A0 c0 l0 at_ bad g1 g2 g3 w0 _ HB.out GEd.out BKd.out BKb.out HR.out HC.out A3.out).mono ?_); rintro e w4 ⟨rfl, hbk, hkp, hbb⟩; have n0_ := Aside0.mk hbk; have n1_ := Aside0.mk (KeepBut.blk hkp BKb.out HNE.out (by simp)); have n2_ := Aside0.mk (KeepBut.trans HK.out hkp (.inl rfl)); have n3_ := Aside0.mk hbb; clear BKd BKb HB HK hbk hkp hbb; have BKd := n0_; have BKb := n1_; have HK := n2_; have HB := n3_; clear n0_ n1_ n2_ n3_)
    replace BKd := Aside0.mk (blk_drew BKd.out)
    replace BKb := Aside0.mk (blk_drew BKb.out)
    replace HB := Aside0.mk (below_drew1 HB.out)
    replace HK := Aside0.mk (keep_drew HK.out)
    refine start_ (n := 7) (S := fun w' => True) (ds := []) #[false, false, false, false, false, false, false] (by kernel_rfl) rfl rfl trivial (fun hHeld => ?_); refine with_tabW impl_decoder_delta.tab5 impl_decoder_delta.bits5 (fun HT_ HW_ => ?_)
    generalize w4.drew = w8 at BKd BKb HB HK hHeld ⊢
    refine pr_ 0 16 7 1 ?_
    refine pr_ 1 17 7 3 ?_
    refine pr_ 2 18 7 7 ?_
    refine pr_ 3 19 7 15 ?_
    refine one_ (i := 4) (N := some 20) (bsA 7 31) rfl rfl (one_of HT_.out (by kernel_rfl)) (by decide) (fun K hK => ?_)
    refine goes_ Try.func89 (by kernel_rfl) rfl #[.pointer (some ⟨gd, 0, none⟩), .int .i64 (wrap64 (g1 - 1))] (by rfl) rfl rfl (by (try simp only [List.map_toArray, List.map_cons, List.map_nil]); first | done | rfl) ?_
    with_reducible refine (impl_decoder_field.calls k gd gb b0 A0 c0 l0 g2 g3 (wrap64 (g1 - 1)) t1 t2 t3 w0 _ HB.out GEd.out BKd.out BKb.out HR.out HC.out A4.out).mono ?_
    rintro e w9 ⟨rfl, hbk, hkp, hbb⟩
    refine ⟨_, rfl, ?_⟩
    have n0_ := Aside0.mk hbk
    have n1_ := Aside0.mk (KeepBut.blk hkp BKb.out HNE.out (by simp))
    have n2_ := Aside0.mk (KeepBut.trans HK.out hkp (.inl rfl))
    have n3_ := Aside0.mk hbb
    clear BKd BKb HB HK hbk hkp hbb
    have BKd := n0_
    have BKb := n1_
    have HK := n2_
    have HB := n3_
    clear n0_ n1_ n2_ n3_
    refine hK.out _ _ trivial (fun hHeld => ?_)
    clear hK K
    refine norm_ (a' := ?_) ?_ ?_
    rotate_left
    ·show Act.put _ (some 20) _ = _
     simp only [Act.put, List.setIfInBounds_toArray, List.set_cons_zero, List.set_cons_succ, i64_w]
     rfl
    refine pr_ 5 21 7 63 ?_
    refine pr_ 6 2 7 127 ?_
    refine done_ (done_of HT_.out (by kernel_rfl)) ?_
    try go_wp2
    go_ret
    exact ⟨rfl, BKd.out, HK.out, HB.out⟩
end Go.Proofs.Ytkechjheiakibaa.X
