/- Written by a program of this session: what functions of the given program compute, and that their calls do so. -/
import Derived.Test.YtknofkpmeobhbaaXx0
import Derived.Test.YtknofkpmeobhbaaXg1a
import Derived.Test.YtknofkpmeobhbaaXg1b
import Derived.Test.YtknofkpmeobhbaaXs
namespace Go.Proofs.Ytknofkpmeobhbaa.X
open Go.RowKit Go.Proofs.YtknofkpmeobhbaaW.PrintWords Go.Proofs.YtknofkpmeobhbaaW.PrintLast Go.Proofs.YtknofkpmeobhbaaW.PrintMore
theorem cellsQ2_g1c {w : World} {g : Nat} {t : TypeId} {a0 a1 : Value} (k : w.heap[g]? = some (.cells #[a0, a1] t (0, 0))) : w.cell? ⟨g, 0, none⟩ = some a0 ∧ w.cell? ⟨g, 1, none⟩ = some a1 ∧ w.frozen? ⟨g, 0, none⟩ = false ∧ w.frozen? ⟨g, 1, none⟩ = false := ⟨(blk_cell k 0).trans rfl, (blk_cell k 1).trans rfl, blk_frozen k 0, blk_frozen k 1⟩
theorem cellsQ7_g1c {w : World} {g : Nat} {t : TypeId} {a0 a1 a2 a3 a4 a5 a6 : Value} (k : w.heap[g]? = some (.cells #[a0, a1, a2, a3, a4, a5, a6] t (0, 0))) : w.cell? ⟨g, 0, none⟩ = some a0 ∧ w.cell? ⟨g, 1, none⟩ = some a1 ∧ w.cell? ⟨g, 2, none⟩ = some a2 ∧ w.cell? ⟨g, 3, none⟩ = some a3 ∧ w.cell? ⟨g, 4, none⟩ = some a4 ∧ w.cell? ⟨g, 5, none⟩ = some a5 ∧ w.cell? ⟨g, 6, none⟩ = some a6 ∧ w.frozen? ⟨g, 0, none⟩ = false ∧ w.frozen? ⟨g, 1, none⟩ = false ∧ w.frozen? ⟨g, 2, none⟩ = false ∧ w.frozen? ⟨g, 3, none⟩ = false ∧ w.frozen? ⟨g, 4, none⟩ = false ∧ w.frozen? ⟨g, 5, none⟩ = false ∧ w.frozen? ⟨g, 6, none⟩ = false := ⟨(blk_cell k 0).trans rfl, (blk_cell k 1).trans rfl, (blk_cell k 2).trans rfl, (blk_cell k 3).trans rfl, (blk_cell k 4).trans rfl, (blk_cell k 5).trans rfl, (blk_cell k 6).trans rfl, blk_frozen k 0, blk_frozen k 1, blk_frozen k 2, blk_frozen k 3, blk_frozen k 4, blk_frozen k 5, blk_frozen k 6⟩
theorem farsQ2_g1c {τ : Type} {d : Kd τ} {e : Nat} {w : World} {base g : Nat} {ok : Nat → Prop} {v : Value} {xs : List τ} (h : d.R e w base ok v xs) (hok : ∀ k, ok k → k ≠ g) (u0 u1 : Value) : d.R e ((w.setCell ⟨g, 0, none⟩ u0).setCell ⟨g, 1, none⟩ u1) base ok v xs := Kd.R_far (p := ⟨g, 1, none⟩) (Kd.R_far (p := ⟨g, 0, none⟩) h hok u0) hok u1
theorem farsQ7_g1c {τ : Type} {d : Kd τ} {e : Nat} {w : World} {base g : Nat} {ok : Nat → Prop} {v : Value} {xs : List τ} (h : d.R e w base ok v xs) (hok : ∀ k, ok k → k ≠ g) (u0 u1 u2 u3 u4 u5 u6 : Value) : d.R e (((((((w.setCell ⟨g, 0, none⟩ u0).setCell ⟨g, 1, none⟩ u1).setCell ⟨g, 2, none⟩ u2).setCell ⟨g, 3, none⟩ u3).setCell ⟨g, 4, none⟩ u4).setCell ⟨g, 5, none⟩ u5).setCell ⟨g, 6, none⟩ u6) base ok v xs := Kd.R_far (p := ⟨g, 6, none⟩) (Kd.R_far (p := ⟨g, 5, none⟩) (Kd.R_far (p := ⟨g, 4, none⟩) (Kd.R_far (p := ⟨g, 3, none⟩) (Kd.R_far (p := ⟨g, 2, none⟩) (Kd.R_far (p := ⟨g, 1, none⟩) (Kd.R_far (p := ⟨g, 0, none⟩) h hok u0) hok u1) hok u2) hok u3) hok u4) hok u5) hok u6
open Go.Proofs.YtknofkpmeobhbaaW.PrintWords renaming blk_cell → Qc, blk_alloc → Qk, blk_drewN → Qm, blk_drew → Qw, below_size → Qz, below_step → Qp, blk_below → Qb, blk_put → Qu, blk_far → Qr
open Go.Proofs.YtknofkpmeobhbaaW.PrintWords.Kd renaming R_far → Qrf, R_mono → Qrm
open Go.Proofs.YtknofkpmeobhbaaW.PrintWords.Aside0 renaming mk → Qx
attribute [local go_sem] max2_int min2_int max_two min_two max_three min_three max_four min_four   -- for this text's walks alone
set_option linter.unusedVariables false
set_option linter.unusedSimpArgs false
/-! ### spec_spMerge: function 14 -/
mutual
def spec_spMerge.l0 : Nat → List Int → List Int → List Int → Int → Int → Option (List Int)
  | 0, _, _, _, _, _ => none
  | k + 1, x0, x1, x5, x6, x7 => if x6 < (x0.length : Int) then (spec_spMerge.j1 k x0 x1 x5 x6 x7 true) else (spec_spMerge.j1 k x0 x1 x5 x6 x7 (decide (x7 < (x1.length : Int))))
def spec_spMerge.j1 : Nat → List Int → List Int → List Int → Int → Int → Bool → Option (List Int)
  | 0, _, _, _, _, _, _ => none
  | k + 1, x0, x1, x5, x6, x7, x17 => if x17 = true then (if x7 = (x1.length : Int) then (if 0 ≤ x6 then (if x6 < (x0.length : Int) then (if x5.length < 17592186044416 then (spec_spMerge.l0 k x0 x1 (x5 ++ [rd x0 x6]) (wrap64 (x6 + 1)) x7) else (none)) else (none)) else (none)) else (if x6 < (x0.length : Int) then (if 0 ≤ x6 then (if 0 ≤ x7 then (if x7 < (x1.length : Int) then (if (rd x0 x6) ≤ (rd x1 x7) then (if x5.length < 17592186044416 then (spec_spMerge.l0 k x0 x1 (x5 ++ [rd x0 x6]) (wrap64 (x6 + 1)) x7) else (none)) else (if x5.length < 17592186044416 then (spec_spMerge.l0 k x0 x1 (x5 ++ [rd x1 x7]) x6 (wrap64 (x7 + 1))) else (none))) else (none)) else (none)) else (none)) else (if 0 ≤ x7 then (if x7 < (x1.length : Int) then (if x5.length < 17592186044416 then (spec_spMerge.l0 k x0 x1 (x5 ++ [rd x1 x7]) x6 (wrap64 (x7 + 1))) else (none)) else (none)) else (none)))) else (some x5)
end
def spec_spMerge.f (k : Nat) (l0 : List Int) (l1 : List Int) : Option (List Int) := spec_spMerge.l0 k l0 l1 ([] : List Int) 0 0
theorem spec_spMerge.mono_l : ∀ k, (∀ y0 y1 y2 y3 y4, LeO (spec_spMerge.l0 k y0 y1 y2 y3 y4) (spec_spMerge.l0 (k + 1) y0 y1 y2 y3 y4)) ∧ (∀ y0 y1 y2 y3 y4 y5, LeO (spec_spMerge.j1 k y0 y1 y2 y3 y4 y5) (spec_spMerge.j1 (k + 1) y0 y1 y2 y3 y4 y5))
  | 0 => ⟨fun _ _ _ _ _ r h => by simp [spec_spMerge.l0] at h, fun _ _ _ _ _ _ r h => by simp [spec_spMerge.j1] at h⟩
  | k + 1 => by
    obtain ⟨ih0, ih1⟩ := spec_spMerge.mono_l k
    refine ⟨?_, ?_⟩
    · intro y0 y1 y2 y3 y4
      unfold spec_spMerge.l0
      repeat' first
      | (with_reducible exact ih0 _ _ _ _ _)
      | (with_reducible exact ih1 _ _ _ _ _ _)
      | (with_reducible exact LeO.refl _)
      | (with_reducible exact LeO.none _)
      | (with_reducible refine LeO.ite ?_ ?_)
      | (with_reducible refine LeO.bind ?_ (fun _ => ?_))
      | exact ih0 _ _ _ _ _
      | exact ih1 _ _ _ _ _ _
      | exact LeO.none _
      | refine LeO.ite ?_ ?_
      | refine LeO.bind ?_ (fun _ => ?_)
    · intro y0 y1 y2 y3 y4 y5
      unfold spec_spMerge.j1
      repeat' first
      | (with_reducible exact ih0 _ _ _ _ _)
      | (with_reducible exact ih1 _ _ _ _ _ _)
      | (with_reducible exact LeO.refl _)
      | (with_reducible exact LeO.none _)
      | (with_reducible refine LeO.ite ?_ ?_)
      | (with_reducible refine LeO.bind ?_ (fun _ => ?_))
      | exact ih0 _ _ _ _ _
      | exact ih1 _ _ _ _ _ _
      | exact LeO.none _
      | refine LeO.ite ?_ ?_
      | refine LeO.bind ?_ (fun _ => ?_)
theorem spec_spMerge.mono : ∀ a0 a1 k, LeO (spec_spMerge.f k a0 a1) (spec_spMerge.f (k + 1) a0 a1) := by
  intro a0 a1 k
  obtain ⟨ih0, ih1⟩ := spec_spMerge.mono_l k
  unfold spec_spMerge.f
  repeat' first
      | (with_reducible exact ih0 _ _ _ _ _)
      | (with_reducible exact ih1 _ _ _ _ _ _)
      | (with_reducible exact LeO.refl _)
      | (with_reducible exact LeO.none _)
      | (with_reducible refine LeO.ite ?_ ?_)
      | (with_reducible refine LeO.bind ?_ (fun _ => ?_))
      | exact ih0 _ _ _ _ _
      | exact ih1 _ _ _ _ _ _
      | exact LeO.none _
      | refine LeO.ite ?_ ?_
      | refine LeO.bind ?_ (fun _ => ?_)
noncomputable def spec_spMerge.L0 (y0 : List Int) (y1 : List Int) (y2 : List Int) (y3 : Int) (y4 : Int) : Option (List Int) := lim fun k => spec_spMerge.l0 k y0 y1 y2 y3 y4
theorem spec_spMerge.L0_sup (y0 : List Int) (y1 : List Int) (y2 : List Int) (y3 : Int) (y4 : Int) : Sup (fun k => spec_spMerge.l0 k y0 y1 y2 y3 y4) (spec_spMerge.L0 y0 y1 y2 y3 y4) := Sup.of_mono fun k => (spec_spMerge.mono_l k).1 y0 y1 y2 y3 y4
noncomputable def spec_spMerge.J1 (y0 : List Int) (y1 : List Int) (y2 : List Int) (y3 : Int) (y4 : Int) (y5 : Bool) : Option (List Int) := lim fun k => spec_spMerge.j1 k y0 y1 y2 y3 y4 y5
theorem spec_spMerge.J1_sup (y0 : List Int) (y1 : List Int) (y2 : List Int) (y3 : Int) (y4 : Int) (y5 : Bool) : Sup (fun k => spec_spMerge.j1 k y0 y1 y2 y3 y4 y5) (spec_spMerge.J1 y0 y1 y2 y3 y4 y5) := Sup.of_mono fun k => (spec_spMerge.mono_l k).2 y0 y1 y2 y3 y4 y5
noncomputable def spec_spMerge.F (l0 : List Int) (l1 : List Int) : Option (List Int) := lim fun k => spec_spMerge.f k l0 l1
theorem spec_spMerge.F_sup (l0 : List Int) (l1 : List Int) : Sup (fun k => spec_spMerge.f k l0 l1) (spec_spMerge.F l0 l1) := Sup.of_mono fun k => spec_spMerge.mono l0 l1 k
theorem spec_spMerge.L0_eq (x0 : List Int) (x1 : List Int) (x5 : List Int) (x6 : Int) (x7 : Int) : spec_spMerge.L0 x0 x1 x5 x6 x7 = if x6 < (x0.length : Int) then (spec_spMerge.J1 x0 x1 x5 x6 x7 true) else (spec_spMerge.J1 x0 x1 x5 x6 x7 (decide (x7 < (x1.length : Int)))) := by
  refine Sup.unique (spec_spMerge.L0_sup x0 x1 x5 x6 x7) (Sup.shift (fun k => (spec_spMerge.mono_l k).1 x0 x1 x5 x6 x7) (Sup.congr (g' := fun k => if x6 < (x0.length : Int) then (spec_spMerge.j1 k x0 x1 x5 x6 x7 true) else (spec_spMerge.j1 k x0 x1 x5 x6 x7 (decide (x7 < (x1.length : Int))))) (fun k => by first | rfl | simp only [spec_spMerge.l0]) ?_))
  repeat' first
    | (with_reducible exact spec_spMerge.L0_sup _ _ _ _ _)
    | (with_reducible exact spec_spMerge.J1_sup _ _ _ _ _ _)
    | (with_reducible refine Sup.ite ?_ ?_)
    | (with_reducible refine Sup.bind ?_ (fun _ => ?_))
    | (with_reducible exact Sup.const _)
    | exact spec_spMerge.L0_sup _ _ _ _ _
    | exact spec_spMerge.J1_sup _ _ _ _ _ _
    | exact Sup.const _
theorem spec_spMerge.J1_eq (x0 : List Int) (x1 : List Int) (x5 : List Int) (x6 : Int) (x7 : Int) (x17 : Bool) : spec_spMerge.J1 x0 x1 x5 x6 x7 x17 = if x17 = true then (if x7 = (x1.length : Int) then (if 0 ≤ x6 then (if x6 < (x0.length : Int) then (if x5.length < 17592186044416 then (spec_spMerge.L0 x0 x1 (x5 ++ [rd x0 x6]) (wrap64 (x6 + 1)) x7) else (none)) else (none)) else (none)) else (if x6 < (x0.length : Int) then (if 0 ≤ x6 then (if 0 ≤ x7 then (if x7 < (x1.length : Int) then (if (rd x0 x6) ≤ (rd x1 x7) then (if x5.length < 17592186044416 then (spec_spMerge.L0 x0 x1 (x5 ++ [rd x0 x6]) (wrap64 (x6 + 1)) x7) else (none)) else (if x5.length < 17592186044416 then (spec_spMerge.L0 x0 x1 (x5 ++ [rd x1 x7]) x6 (wrap64 (x7 + 1))) else (none))) else (none)) else (none)) else (none)) else (if 0 ≤ x7 then (if x7 < (x1.length : Int) then (if x5.length < 17592186044416 then (spec_spMerge.L0 x0 x1 (x5 ++ [rd x1 x7]) x6 (wrap64 (x7 + 1))) else (none)) else (none)) else (none)))) else (some x5) := by
  refine Sup.unique (spec_spMerge.J1_sup x0 x1 x5 x6 x7 x17) (Sup.shift (fun k => (spec_spMerge.mono_l k).2 x0 x1 x5 x6 x7 x17) (Sup.congr (g' := fun k => if x17 = true then (if x7 = (x1.length : Int) then (if 0 ≤ x6 then (if x6 < (x0.length : Int) then (if x5.length < 17592186044416 then (spec_spMerge.l0 k x0 x1 (x5 ++ [rd x0 x6]) (wrap64 (x6 + 1)) x7) else (none)) else (none)) else (none)) else (if x6 < (x0.length : Int) then (if 0 ≤ x6 then (if 0 ≤ x7 then (if x7 < (x1.length : Int) then (if (rd x0 x6) ≤ (rd x1 x7) then (if x5.length < 17592186044416 then (spec_spMerge.l0 k x0 x1 (x5 ++ [rd x0 x6]) (wrap64 (x6 + 1)) x7) else (none)) else (if x5.length < 17592186044416 then (spec_spMerge.l0 k x0 x1 (x5 ++ [rd x1 x7]) x6 (wrap64 (x7 + 1))) else (none))) else (none)) else (none)) else (none)) else (if 0 ≤ x7 then (if x7 < (x1.length : Int) then (if x5.length < 17592186044416 then (spec_spMerge.l0 k x0 x1 (x5 ++ [rd x1 x7]) x6 (wrap64 (x7 + 1))) else (none)) else (none)) else (none)))) else (some x5)) (fun k => by first | rfl | simp only [spec_spMerge.j1]) ?_))
  repeat' first
    | (with_reducible exact spec_spMerge.L0_sup _ _ _ _ _)
    | (with_reducible exact spec_spMerge.J1_sup _ _ _ _ _ _)
    | (with_reducible refine Sup.ite ?_ ?_)
    | (with_reducible refine Sup.bind ?_ (fun _ => ?_))
    | (with_reducible exact Sup.const _)
    | exact spec_spMerge.L0_sup _ _ _ _ _
    | exact spec_spMerge.J1_sup _ _ _ _ _ _
    | exact Sup.const _
theorem spec_spMerge.F_eq (l0 : List Int) (l1 : List Int) : spec_spMerge.F l0 l1 = spec_spMerge.L0 l0 l1 ([] : List Int) 0 0 := by
  refine Sup.unique (spec_spMerge.F_sup l0 l1) (Sup.congr (g' := fun k => spec_spMerge.l0 k l0 l1 ([] : List Int) 0 0) (fun k => by first | rfl | simp only [spec_spMerge.f]) ?_)
  repeat' first
    | (with_reducible exact spec_spMerge.L0_sup _ _ _ _ _)
    | (with_reducible exact spec_spMerge.J1_sup _ _ _ _ _ _)
    | (with_reducible refine Sup.ite ?_ ?_)
    | (with_reducible refine Sup.bind ?_ (fun _ => ?_))
    | (with_reducible exact Sup.const _)
    | exact spec_spMerge.L0_sup _ _ _ _ _
    | exact spec_spMerge.J1_sup _ _ _ _ _ _
    | exact Sup.const _
set_option maxHeartbeats 8000000 in
set_option maxRecDepth 100000 in
theorem spec_spMerge.calls (k : Nat) (A0 : Option Addr) (c0 : Nat) (l0 : List Int) (A1 : Option Addr) (c1 : Nat) (l1 : List Int) (r : List Int) (w : World) (hr0 : Kd.C (Kd.int .i64) w A0 l0.length l0) (hc0 : l0.length ≤ c0) (hr1 : Kd.C (Kd.int .i64) w A1 l1.length l1) (hc1 : l1.length ≤ c1) (h : spec_spMerge.f k l0 l1 = some r) :
    Calls Try.prog 14 #[.slice A0 l0.length c0, .slice A1 l1.length c1] w fun e w' => ∃ v0_ : Value, e = .returned (v0_) ∧ Kd.R (Kd.int .i64) 3 w' w.heap.size (fun _ => True) v0_ r ∧ Below w.heap.size w w' := by
  have HR0 := Qx hr0; have HC0 := Qx hc0; clear hr0 hc0; have HR1 := Qx hr1; have HC1 := Qx hc1; clear hr1 hc1
  have HB := Qx (Below.refl w.heap.size w)
  have H : (spec_spMerge.l0 k l0 l1 ([] : List Int) 0 0) = some r := h
  clear h; have H' := Qx H; clear H
  go_enter Try.func14, Try.ntmps14
  go_wp2
  repeat (go_quiet (fail); try go_wp2)
  go_loopg [5, 6, 7] k (fun kq v5 v6 v7 w' => ∃ (x5_1 : List Int) (x6_1 : Int) (x7_1 : Int), v6 = .int .i64 x6_1 ∧ v7 = .int .i64 x7_1 ∧ Aside0 (spec_spMerge.l0 kq l0 l1 x5_1 x6_1 x7_1 = some r) ∧ Aside0 (kq ≤ k) ∧ Aside0 (Kd.R (Kd.int .i64) 3 w' w.heap.size (fun _ => True) v5 x5_1) ∧ Aside0 (Below w.heap.size w w'))
  case atStart => exact ⟨(([] : List Int)), (0), (0), rg_, rg_, H', ⟨Nat.le_refl _⟩, ⟨by first | exact Kd.R_nil _ _ _ _ _ | exact Kd.N_nil _ _ _ _ _ | exact Kd.V_nil _ _ _ _ _ | exact Kd.Q_nil _ _ _ _ _ | exact Kd.S_nil _ _ _ _ _⟩, ⟨hB_⟩⟩
  case round =>
   clear H'
   try clear c1
   try clear p2
   obtain ⟨x5_1, x6_1, x7_1, rfl, rfl, HA, HK1, HO_5, HB⟩ := hrel
   cases gk with
   | zero => exact absurd HA.out (by simp [spec_spMerge.l0])
   | succ k1 =>
    have H := HA.out; clear HA; simp only [spec_spMerge.l0] at H; have HC3 := Qx H; clear H
    go_upto_region 3 with (fail)
    repeat (go_quiet (fail); go_upto_region 3 with (fail))
    go_cut [17] (fun v17 wc => ∃ (kq : Nat) (x17_2 : Bool), v17 = .bool x17_2 ∧ Aside0 (spec_spMerge.j1 kq l0 l1 x5_1 x6_1 x7_1 x17_2 = some r) ∧ Aside0 (kq ≤ k1) ∧ Aside0 (Kd.R (Kd.int .i64) 3 wc w.heap.size (fun _ => True) u5 x5_1) ∧ Aside0 (Below w.heap.size w wc))
    case first =>
     have H := HC3.out; clear HC3
     by_cases c4 : x6_1 < (l0.length : Int)
     ·rw [if_pos c4] at H
      have c4b0 : decide (x6_1 < (l0.length : Int)) = true := decide_eq_true c4
      clear c4
      (first | rw [c4b0] | (simp only [i64_w, i32_w]; rw [c4b0]) | skip)
      have H' := Qx H; clear H
      go_wp2
      repeat (go_quiet (fail); try go_wp2)
      go_meet
      case rel => exact ⟨_, (true), rg_, H', ⟨by have := HK1.out; first | omega | exact Nat.le_refl _⟩, ⟨kR_ HO_5⟩, ⟨hB_⟩⟩
     ·rw [if_neg c4] at H
      have c4b0 : decide (x6_1 < (l0.length : Int)) = false := decide_eq_false c4
      clear c4
      (first | rw [c4b0] | (simp only [i64_w, i32_w]; rw [c4b0]) | skip)
      have H' := Qx H; clear H
      go_wp2
      repeat (go_quiet (fail); try go_wp2)
      go_meet
      case rel => exact ⟨_, (decide (x7_1 < (l1.length : Int))), rg_, H', ⟨by have := HK1.out; first | omega | exact Nat.le_refl _⟩, ⟨kR_ HO_5⟩, ⟨hB_⟩⟩
    case rest =>
     clear HC3
     try clear c1
     try clear p2
     try clear c4
     try clear c4b0
     try clear p2
     obtain ⟨kq, x17_2, rfl, HA, HJ2, HO_5, HB⟩ := hcut
     cases kq with
     | zero => exact absurd HA.out (by simp [spec_spMerge.j1])
     | succ kj2 =>
      have H := HA.out; clear HA; simp only [spec_spMerge.j1] at H
      by_cases c5 : x17_2 = true
      ·subst c5
       have H1 : (if x7_1 = (l1.length : Int) then (if 0 ≤ x6_1 then (if x6_1 < (l0.length : Int) then (if x5_1.length < 17592186044416 then (spec_spMerge.l0 kj2 l0 l1 (x5_1 ++ [rd l0 x6_1]) (wrap64 (x6_1 + 1)) x7_1) else (none)) else (none)) else (none)) else (if x6_1 < (l0.length : Int) then (if 0 ≤ x6_1 then (if 0 ≤ x7_1 then (if x7_1 < (l1.length : Int) then (if (rd l0 x6_1) ≤ (rd l1 x7_1) then (if x5_1.length < 17592186044416 then (spec_spMerge.l0 kj2 l0 l1 (x5_1 ++ [rd l0 x6_1]) (wrap64 (x6_1 + 1)) x7_1) else (none)) else (if x5_1.length < 17592186044416 then (spec_spMerge.l0 kj2 l0 l1 (x5_1 ++ [rd l1 x7_1]) x6_1 (wrap64 (x7_1 + 1))) else (none))) else (none)) else (none)) else (none)) else (if 0 ≤ x7_1 then (if x7_1 < (l1.length : Int) then (if x5_1.length < 17592186044416 then (spec_spMerge.l0 kj2 l0 l1 (x5_1 ++ [rd l1 x7_1]) x6_1 (wrap64 (x7_1 + 1))) else (none)) else (none)) else (none)))) = some r := by rw [if_pos rfl] at H; exact H
       clear H; have H := H1; clear H1
       by_cases c6 : x7_1 = (l1.length : Int)
       ·rw [if_pos c6] at H
        have c6b0 : (x7_1 == (l1.length : Int)) = true := beq_iff_eq.mpr c6
        have c6b1 : (x7_1 != (l1.length : Int)) = false := bne_eq_false_iff_eq.mpr c6
        clear c6
        by_cases c7 : 0 ≤ x6_1
        ·rw [if_pos c7] at H
         have c7b0 : decide (0 ≤ x6_1) = true := decide_eq_true c7
         clear c7
         by_cases c8 : x6_1 < (l0.length : Int)
         ·rw [if_pos c8] at H
          have c8b0 : decide (x6_1 < (l0.length : Int)) = true := decide_eq_true c8
          clear c8
          by_cases c9 : x5_1.length < 17592186044416
          ·rw [if_pos c9] at H; have LMc9 := Qx c9; clear c9
           obtain ⟨y193, hy193⟩ : ∃ y_ : List Int, y_ = (x5_1 ++ [rd l0 x6_1]) := ⟨_, rfl⟩
           replace H : (spec_spMerge.l0 kj2 l0 l1 y193 (wrap64 (x6_1 + 1)) x7_1) = some r := by first | (rw [hy193]; with_reducible exact H) | (have H2_ := (Option.bind_some _ _).symm.trans H; rw [hy193]; with_reducible exact H2_) | (have H2_ := (Option.bind_some _ _).symm.trans H; with_reducible exact H2_) | with_reducible exact H | (rw [hy193]; exact H) | exact H
           have Ny193 := Qx hy193; clear hy193; have H' := Qx H; clear H
           have p192 : 0 ≤ (x6_1 : Int) := of_decide_eq_true as_
           have q192 : x6_1 < (l0.length : Int) := of_decide_eq_true as_
           obtain ⟨ad192, e192, hx192_0⟩ := Kd.at_int HR0.out x6_1 p192 q192
           cases e192
           replace hx192_0 := (HB.out.cell (World.block_lt_of_cell? w _ hx192_0)).trans hx192_0
           replace p192 := eq_true p192; replace q192 := eq_true q192
           go_wp2_with (first | ((with_reducible refine gate_builtin (b := .append) (xs := #[.tmp 39, .tmp 44]) rfl ?_); (try (refine gate_guard (by rfl) ?_; dsimp only)); at_builtin; refine Kd.R_append (Kd.int .i64) (w0 := w) w.heap.size rfl (.tmp 39) (.tmp 44) 22 3 (.int .i64 0) 8 rfl Try.underlying22 info3 rfl (by decide) (by omega) u5 x5_1 (rd l0 x6_1) [.int .i64 (rd l0 x6_1)] (fun _ => True) (fun _ => False) rfl rfl ?aP (fun _ hk => hk.elim) ?aF ?aO ?aB ?aS ?aL ?_; (case aP => exact rfl); (case aB => exact hB_); (case aF => exact (fun _ _ => trivial)); (case aO => exact (kR_ HO_5)); (case aS => exact (Qz hB_)); (case aL => have := LMc9.out; omega); intro v194 w10 ho hb hg hat; rw [← Ny193.out] at ho; have n0_ := Qx (hb); have n1_ := Qx (ho); clear HB HO_5; have HB := n0_; have HO195 := n1_; clear n0_ n1_ ho hb hg hat))
           repeat (go_quiet (first | ((with_reducible refine gate_builtin (b := .append) (xs := #[.tmp 39, .tmp 44]) rfl ?_); (try (refine gate_guard (by rfl) ?_; dsimp only)); at_builtin; refine Kd.R_append (Kd.int .i64) (w0 := w) w.heap.size rfl (.tmp 39) (.tmp 44) 22 3 (.int .i64 0) 8 rfl Try.underlying22 info3 rfl (by decide) (by omega) u5 x5_1 (rd l0 x6_1) [.int .i64 (rd l0 x6_1)] (fun _ => True) (fun _ => False) rfl rfl ?aP (fun _ hk => hk.elim) ?aF ?aO ?aB ?aS ?aL ?_; (case aP => exact rfl); (case aB => exact hB_); (case aF => exact (fun _ _ => trivial)); (case aO => exact (kR_ HO_5)); (case aS => exact (Qz hB_)); (case aL => have := LMc9.out; omega); intro v194 w10 ho hb hg hat; rw [← Ny193.out] at ho; have n0_ := Qx (hb); have n1_ := Qx (ho); clear HB HO_5; have HB := n0_; have HO195 := n1_; clear n0_ n1_ ho hb hg hat)); try go_wp2_with (first | ((with_reducible refine gate_builtin (b := .append) (xs := #[.tmp 39, .tmp 44]) rfl ?_); (try (refine gate_guard (by rfl) ?_; dsimp only)); at_builtin; refine Kd.R_append (Kd.int .i64) (w0 := w) w.heap.size rfl (.tmp 39) (.tmp 44) 22 3 (.int .i64 0) 8 rfl Try.underlying22 info3 rfl (by decide) (by omega) u5 x5_1 (rd l0 x6_1) [.int .i64 (rd l0 x6_1)] (fun _ => True) (fun _ => False) rfl rfl ?aP (fun _ hk => hk.elim) ?aF ?aO ?aB ?aS ?aL ?_; (case aP => exact rfl); (case aB => exact hB_); (case aF => exact (fun _ _ => trivial)); (case aO => exact (kR_ HO_5)); (case aS => exact (Qz hB_)); (case aL => have := LMc9.out; omega); intro v194 w10 ho hb hg hat; rw [← Ny193.out] at ho; have n0_ := Qx (hb); have n1_ := Qx (ho); clear HB HO_5; have HB := n0_; have HO195 := n1_; clear n0_ n1_ ho hb hg hat)))
           go_roundg kj2
           case measure => have := HK1.out; have := HJ2.out; omega
           case rel => exact ⟨(y193), (wrap64 (x6_1 + 1)), (x7_1), rg_, rg_, H', ⟨by have := HK1.out; have := HJ2.out; omega⟩, ⟨kR_ HO195⟩, ⟨hB_⟩⟩
          ·rw [if_neg c9] at H
           exact absurd H (by simp)
         ·rw [if_neg c8] at H
          exact absurd H (by simp)
        ·rw [if_neg c7] at H
         exact absurd H (by simp)
       ·rw [if_neg c6] at H
        have c6b0 : (x7_1 == (l1.length : Int)) = false := beq_eq_false_iff_ne.mpr c6
        have c6b1 : (x7_1 != (l1.length : Int)) = true := bne_iff_ne.mpr c6
        by_cases c11 : x6_1 < (l0.length : Int)
        ·rw [if_pos c11] at H
         have c11b0 : decide (x6_1 < (l0.length : Int)) = true := decide_eq_true c11
         clear c11
         by_cases c12 : 0 ≤ x6_1
         ·rw [if_pos c12] at H
          have c12b0 : decide (0 ≤ x6_1) = true := decide_eq_true c12
          clear c12
          by_cases c13 : 0 ≤ x7_1
          ·rw [if_pos c13] at H
           have c13b0 : decide (0 ≤ x7_1) = true := decide_eq_true c13
           clear c13
           by_cases c14 : x7_1 < (l1.length : Int)
           ·rw [if_pos c14] at H
            have c14b0 : decide (x7_1 < (l1.length : Int)) = true := decide_eq_true c14
            clear c14
            by_cases c15 : (rd l0 x6_1) ≤ (rd l1 x7_1)
            ·rw [if_pos c15] at H
             have c15b0 : decide ((rd l0 x6_1) ≤ (rd l1 x7_1)) = true := decide_eq_true c15
             clear c15
             by_cases c16 : x5_1.length < 17592186044416
             ·rw [if_pos c16] at H; have LMc16 := Qx c16; clear c16
              obtain ⟨y199, hy199⟩ : ∃ y_ : List Int, y_ = (x5_1 ++ [rd l0 x6_1]) := ⟨_, rfl⟩
              replace H : (spec_spMerge.l0 kj2 l0 l1 y199 (wrap64 (x6_1 + 1)) x7_1) = some r := by first | (rw [hy199]; with_reducible exact H) | (have H2_ := (Option.bind_some _ _).symm.trans H; rw [hy199]; with_reducible exact H2_) | (have H2_ := (Option.bind_some _ _).symm.trans H; with_reducible exact H2_) | with_reducible exact H | (rw [hy199]; exact H) | exact H
              have Ny199 := Qx hy199; clear hy199; have H' := Qx H; clear H
              have p196 : 0 ≤ (x6_1 : Int) := of_decide_eq_true as_
              have q196 : x6_1 < (l0.length : Int) := of_decide_eq_true as_
              obtain ⟨ad196, e196, hx196_0⟩ := Kd.at_int HR0.out x6_1 p196 q196
              cases e196
              replace hx196_0 := (HB.out.cell (World.block_lt_of_cell? w _ hx196_0)).trans hx196_0
              replace p196 := eq_true p196; replace q196 := eq_true q196
              have p197 : 0 ≤ (x7_1 : Int) := of_decide_eq_true as_
              have q197 : x7_1 < (l1.length : Int) := of_decide_eq_true as_
              obtain ⟨ad197, e197, hx197_0⟩ := Kd.at_int HR1.out x7_1 p197 q197
              cases e197
              replace hx197_0 := (HB.out.cell (World.block_lt_of_cell? w _ hx197_0)).trans hx197_0
              replace p197 := eq_true p197; replace q197 := eq_true q197
              have p198 : 0 ≤ (x6_1 : Int) := of_decide_eq_true as_
              have q198 : x6_1 < (l0.length : Int) := of_decide_eq_true as_
              obtain ⟨ad198, e198, hx198_0⟩ := Kd.at_int HR0.out x6_1 p198 q198
              obtain rfl : ad196 = ad198 := (by injection e198)
              replace hx198_0 := (HB.out.cell (World.block_lt_of_cell? w _ hx198_0)).trans hx198_0
              replace p198 := eq_true p198; replace q198 := eq_true q198
              go_wp2_with (first | ((with_reducible refine gate_builtin (b := .append) (xs := #[.tmp 39, .tmp 44]) rfl ?_); (try (refine gate_guard (by rfl) ?_; dsimp only)); at_builtin; refine Kd.R_append (Kd.int .i64) (w0 := w) w.heap.size rfl (.tmp 39) (.tmp 44) 22 3 (.int .i64 0) 8 rfl Try.underlying22 info3 rfl (by decide) (by omega) u5 x5_1 (rd l0 x6_1) [.int .i64 (rd l0 x6_1)] (fun _ => True) (fun _ => False) rfl rfl ?aP (fun _ hk => hk.elim) ?aF ?aO ?aB ?aS ?aL ?_; (case aP => exact rfl); (case aB => exact hB_); (case aF => exact (fun _ _ => trivial)); (case aO => exact (kR_ HO_5)); (case aS => exact (Qz hB_)); (case aL => have := LMc16.out; omega); intro v200 w17 ho hb hg hat; rw [← Ny199.out] at ho; have n0_ := Qx (hb); have n1_ := Qx (ho); clear HB HO_5; have HB := n0_; have HO201 := n1_; clear n0_ n1_ ho hb hg hat))
              repeat (go_quiet (first | ((with_reducible refine gate_builtin (b := .append) (xs := #[.tmp 39, .tmp 44]) rfl ?_); (try (refine gate_guard (by rfl) ?_; dsimp only)); at_builtin; refine Kd.R_append (Kd.int .i64) (w0 := w) w.heap.size rfl (.tmp 39) (.tmp 44) 22 3 (.int .i64 0) 8 rfl Try.underlying22 info3 rfl (by decide) (by omega) u5 x5_1 (rd l0 x6_1) [.int .i64 (rd l0 x6_1)] (fun _ => True) (fun _ => False) rfl rfl ?aP (fun _ hk => hk.elim) ?aF ?aO ?aB ?aS ?aL ?_; (case aP => exact rfl); (case aB => exact hB_); (case aF => exact (fun _ _ => trivial)); (case aO => exact (kR_ HO_5)); (case aS => exact (Qz hB_)); (case aL => have := LMc16.out; omega); intro v200 w17 ho hb hg hat; rw [← Ny199.out] at ho; have n0_ := Qx (hb); have n1_ := Qx (ho); clear HB HO_5; have HB := n0_; have HO201 := n1_; clear n0_ n1_ ho hb hg hat)); try go_wp2_with (first | ((with_reducible refine gate_builtin (b := .append) (xs := #[.tmp 39, .tmp 44]) rfl ?_); (try (refine gate_guard (by rfl) ?_; dsimp only)); at_builtin; refine Kd.R_append (Kd.int .i64) (w0 := w) w.heap.size rfl (.tmp 39) (.tmp 44) 22 3 (.int .i64 0) 8 rfl Try.underlying22 info3 rfl (by decide) (by omega) u5 x5_1 (rd l0 x6_1) [.int .i64 (rd l0 x6_1)] (fun _ => True) (fun _ => False) rfl rfl ?aP (fun _ hk => hk.elim) ?aF ?aO ?aB ?aS ?aL ?_; (case aP => exact rfl); (case aB => exact hB_); (case aF => exact (fun _ _ => trivial)); (case aO => exact (kR_ HO_5)); (case aS => exact (Qz hB_)); (case aL => have := LMc16.out; omega); intro v200 w17 ho hb hg hat; rw [← Ny199.out] at ho; have n0_ := Qx (hb); have n1_ := Qx (ho); clear HB HO_5; have HB := n0_; have HO201 := n1_; clear n0_ n1_ ho hb hg hat)))
              go_roundg kj2
              case measure => have := HK1.out; have := HJ2.out; omega
              case rel => exact ⟨(y199), (wrap64 (x6_1 + 1)), (x7_1), rg_, rg_, H', ⟨by have := HK1.out; have := HJ2.out; omega⟩, ⟨kR_ HO201⟩, ⟨hB_⟩⟩
             ·rw [if_neg c16] at H
              exact absurd H (by simp)
            ·rw [if_neg c15] at H
             have c15b0 : decide ((rd l0 x6_1) ≤ (rd l1 x7_1)) = false := decide_eq_false c15
             clear c15
             by_cases c18 : x5_1.length < 17592186044416
             ·rw [if_pos c18] at H; have LMc18 := Qx c18; clear c18
              obtain ⟨y203, hy203⟩ : ∃ y_ : List Int, y_ = (x5_1 ++ [rd l1 x7_1]) := ⟨_, rfl⟩
              replace H : (spec_spMerge.l0 kj2 l0 l1 y203 x6_1 (wrap64 (x7_1 + 1))) = some r := by first | (rw [hy203]; with_reducible exact H) | (have H2_ := (Option.bind_some _ _).symm.trans H; rw [hy203]; with_reducible exact H2_) | (have H2_ := (Option.bind_some _ _).symm.trans H; with_reducible exact H2_) | with_reducible exact H | (rw [hy203]; exact H) | exact H
              have Ny203 := Qx hy203; clear hy203; have H' := Qx H; clear H
              have p196 : 0 ≤ (x6_1 : Int) := of_decide_eq_true as_
              have q196 : x6_1 < (l0.length : Int) := of_decide_eq_true as_
              obtain ⟨ad196, e196, hx196_0⟩ := Kd.at_int HR0.out x6_1 p196 q196
              cases e196
              replace hx196_0 := (HB.out.cell (World.block_lt_of_cell? w _ hx196_0)).trans hx196_0
              replace p196 := eq_true p196; replace q196 := eq_true q196
              have p197 : 0 ≤ (x7_1 : Int) := of_decide_eq_true as_
              have q197 : x7_1 < (l1.length : Int) := of_decide_eq_true as_
              obtain ⟨ad197, e197, hx197_0⟩ := Kd.at_int HR1.out x7_1 p197 q197
              cases e197
              replace hx197_0 := (HB.out.cell (World.block_lt_of_cell? w _ hx197_0)).trans hx197_0
              replace p197 := eq_true p197; replace q197 := eq_true q197
              have p202 : 0 ≤ (x7_1 : Int) := of_decide_eq_true as_
              have q202 : x7_1 < (l1.length : Int) := of_decide_eq_true as_
              obtain ⟨ad202, e202, hx202_0⟩ := Kd.at_int HR1.out x7_1 p202 q202
              obtain rfl : ad197 = ad202 := (by injection e202)
              replace hx202_0 := (HB.out.cell (World.block_lt_of_cell? w _ hx202_0)).trans hx202_0
              replace p202 := eq_true p202; replace q202 := eq_true q202
              go_wp2_with (first | ((with_reducible refine gate_builtin (b := .append) (xs := #[.tmp 48, .tmp 53]) rfl ?_); (try (refine gate_guard (by rfl) ?_; dsimp only)); at_builtin; refine Kd.R_append (Kd.int .i64) (w0 := w) w.heap.size rfl (.tmp 48) (.tmp 53) 22 3 (.int .i64 0) 8 rfl Try.underlying22 info3 rfl (by decide) (by omega) u5 x5_1 (rd l1 x7_1) [.int .i64 (rd l1 x7_1)] (fun _ => True) (fun _ => False) rfl rfl ?aP (fun _ hk => hk.elim) ?aF ?aO ?aB ?aS ?aL ?_; (case aP => exact rfl); (case aB => exact hB_); (case aF => exact (fun _ _ => trivial)); (case aO => exact (kR_ HO_5)); (case aS => exact (Qz hB_)); (case aL => have := LMc18.out; omega); intro v204 w19 ho hb hg hat; rw [← Ny203.out] at ho; have n0_ := Qx (hb); have n1_ := Qx (ho); clear HB HO_5; have HB := n0_; have HO205 := n1_; clear n0_ n1_ ho hb hg hat))
              repeat (go_quiet (first | ((with_reducible refine gate_builtin (b := .append) (xs := #[.tmp 48, .tmp 53]) rfl ?_); (try (refine gate_guard (by rfl) ?_; dsimp only)); at_builtin; refine Kd.R_append (Kd.int .i64) (w0 := w) w.heap.size rfl (.tmp 48) (.tmp 53) 22 3 (.int .i64 0) 8 rfl Try.underlying22 info3 rfl (by decide) (by omega) u5 x5_1 (rd l1 x7_1) [.int .i64 (rd l1 x7_1)] (fun _ => True) (fun _ => False) rfl rfl ?aP (fun _ hk => hk.elim) ?aF ?aO ?aB ?aS ?aL ?_; (case aP => exact rfl); (case aB => exact hB_); (case aF => exact (fun _ _ => trivial)); (case aO => exact (kR_ HO_5)); (case aS => exact (Qz hB_)); (case aL => have := LMc18.out; omega); intro v204 w19 ho hb hg hat; rw [← Ny203.out] at ho; have n0_ := Qx (hb); have n1_ := Qx (ho); clear HB HO_5; have HB := n0_; have HO205 := n1_; clear n0_ n1_ ho hb hg hat)); try go_wp2_with (first | ((with_reducible refine gate_builtin (b := .append) (xs := #[.tmp 48, .tmp 53]) rfl ?_); (try (refine gate_guard (by rfl) ?_; dsimp only)); at_builtin; refine Kd.R_append (Kd.int .i64) (w0 := w) w.heap.size rfl (.tmp 48) (.tmp 53) 22 3 (.int .i64 0) 8 rfl Try.underlying22 info3 rfl (by decide) (by omega) u5 x5_1 (rd l1 x7_1) [.int .i64 (rd l1 x7_1)] (fun _ => True) (fun _ => False) rfl rfl ?aP (fun _ hk => hk.elim) ?aF ?aO ?aB ?aS ?aL ?_; (case aP => exact rfl); (case aB => exact hB_); (case aF => exact (fun _ _ => trivial)); (case aO => exact (kR_ HO_5)); (case aS => exact (Qz hB_)); (case aL => have := LMc18.out; omega); intro v204 w19 ho hb hg hat; rw [← Ny203.out] at ho; have n0_ := Qx (hb); have n1_ := Qx (ho); clear HB HO_5; have HB := n0_; have HO205 := n1_; clear n0_ n1_ ho hb hg hat)))
              go_roundg kj2
              case measure => have := HK1.out; have := HJ2.out; omega
              case rel => exact ⟨(y203), (x6_1), (wrap64 (x7_1 + 1)), rg_, rg_, H', ⟨by have := HK1.out; have := HJ2.out; omega⟩, ⟨kR_ HO205⟩, ⟨hB_⟩⟩
             ·rw [if_neg c18] at H
              exact absurd H (by simp)
           ·rw [if_neg c14] at H
            exact absurd H (by simp)
          ·rw [if_neg c13] at H
           exact absurd H (by simp)
         ·rw [if_neg c12] at H
          exact absurd H (by simp)
        ·rw [if_neg c11] at H
         have c11b0 : decide (x6_1 < (l0.length : Int)) = false := decide_eq_false c11
         clear c11
         by_cases c20 : 0 ≤ x7_1
         ·rw [if_pos c20] at H
          have c20b0 : decide (0 ≤ x7_1) = true := decide_eq_true c20
          clear c20
          by_cases c21 : x7_1 < (l1.length : Int)
          ·rw [if_pos c21] at H
           have c21b0 : decide (x7_1 < (l1.length : Int)) = true := decide_eq_true c21
           clear c21
           by_cases c22 : x5_1.length < 17592186044416
           ·rw [if_pos c22] at H; have LMc22 := Qx c22; clear c22
            obtain ⟨y207, hy207⟩ : ∃ y_ : List Int, y_ = (x5_1 ++ [rd l1 x7_1]) := ⟨_, rfl⟩
            replace H : (spec_spMerge.l0 kj2 l0 l1 y207 x6_1 (wrap64 (x7_1 + 1))) = some r := by first | (rw [hy207]; with_reducible exact H) | (have H2_ := (Option.bind_some _ _).symm.trans H; rw [hy207]; with_reducible exact H2_) | (have H2_ := (Option.bind_some _ _).symm.trans H; with_reducible exact H2_) | with_reducible exact H | (rw [hy207]; exact H) | exact H
            have Ny207 := Qx hy207; clear hy207; have H' := Qx H; clear H
            have p206 : 0 ≤ (x7_1 : Int) := of_decide_eq_true as_
            have q206 : x7_1 < (l1.length : Int) := of_decide_eq_true as_
            obtain ⟨ad206, e206, hx206_0⟩ := Kd.at_int HR1.out x7_1 p206 q206
            cases e206
            replace hx206_0 := (HB.out.cell (World.block_lt_of_cell? w _ hx206_0)).trans hx206_0
            replace p206 := eq_true p206; replace q206 := eq_true q206
            go_wp2_with (first | ((with_reducible refine gate_builtin (b := .append) (xs := #[.tmp 48, .tmp 53]) rfl ?_); (try (refine gate_guard (by rfl) ?_; dsimp only)); at_builtin; refine Kd.R_append (Kd.int .i64) (w0 := w) w.heap.size rfl (.tmp 48) (.tmp 53) 22 3 (.int .i64 0) 8 rfl Try.underlying22 info3 rfl (by decide) (by omega) u5 x5_1 (rd l1 x7_1) [.int .i64 (rd l1 x7_1)] (fun _ => True) (fun _ => False) rfl rfl ?aP (fun _ hk => hk.elim) ?aF ?aO ?aB ?aS ?aL ?_; (case aP => exact rfl); (case aB => exact hB_); (case aF => exact (fun _ _ => trivial)); (case aO => exact (kR_ HO_5)); (case aS => exact (Qz hB_)); (case aL => have := LMc22.out; omega); intro v208 w23 ho hb hg hat; rw [← Ny207.out] at ho; have n0_ := Qx (hb); have n1_ := Qx (ho); clear HB HO_5; have HB := n0_; have HO209 := n1_; clear n0_ n1_ ho hb hg hat))
            repeat (go_quiet (first | ((with_reducible refine gate_builtin (b := .append) (xs := #[.tmp 48, .tmp 53]) rfl ?_); (try (refine gate_guard (by rfl) ?_; dsimp only)); at_builtin; refine Kd.R_append (Kd.int .i64) (w0 := w) w.heap.size rfl (.tmp 48) (.tmp 53) 22 3 (.int .i64 0) 8 rfl Try.underlying22 info3 rfl (by decide) (by omega) u5 x5_1 (rd l1 x7_1) [.int .i64 (rd l1 x7_1)] (fun _ => True) (fun _ => False) rfl rfl ?aP (fun _ hk => hk.elim) ?aF ?aO ?aB ?aS ?aL ?_; (case aP => exact rfl); (case aB => exact hB_); (case aF => exact (fun _ _ => trivial)); (case aO => exact (kR_ HO_5)); (case aS => exact (Qz hB_)); (case aL => have := LMc22.out; omega); intro v208 w23 ho hb hg hat; rw [← Ny207.out] at ho; have n0_ := Qx (hb); have n1_ := Qx (ho); clear HB HO_5; have HB := n0_; have HO209 := n1_; clear n0_ n1_ ho hb hg hat)); try go_wp2_with (first | ((with_reducible refine gate_builtin (b := .append) (xs := #[.tmp 48, .tmp 53]) rfl ?_); (try (refine gate_guard (by rfl) ?_; dsimp only)); at_builtin; refine Kd.R_append (Kd.int .i64) (w0 := w) w.heap.size rfl (.tmp 48) (.tmp 53) 22 3 (.int .i64 0) 8 rfl Try.underlying22 info3 rfl (by decide) (by omega) u5 x5_1 (rd l1 x7_1) [.int .i64 (rd l1 x7_1)] (fun _ => True) (fun _ => False) rfl rfl ?aP (fun _ hk => hk.elim) ?aF ?aO ?aB ?aS ?aL ?_; (case aP => exact rfl); (case aB => exact hB_); (case aF => exact (fun _ _ => trivial)); (case aO => exact (kR_ HO_5)); (case aS => exact (Qz hB_)); (case aL => have := LMc22.out; omega); intro v208 w23 ho hb hg hat; rw [← Ny207.out] at ho; have n0_ := Qx (hb); have n1_ := Qx (ho); clear HB HO_5; have HB := n0_; have HO209 := n1_; clear n0_ n1_ ho hb hg hat)))
            go_roundg kj2
            case measure => have := HK1.out; have := HJ2.out; omega
            case rel => exact ⟨(y207), (x6_1), (wrap64 (x7_1 + 1)), rg_, rg_, H', ⟨by have := HK1.out; have := HJ2.out; omega⟩, ⟨kR_ HO209⟩, ⟨hB_⟩⟩
           ·rw [if_neg c22] at H
            exact absurd H (by simp)
          ·rw [if_neg c21] at H
           exact absurd H (by simp)
         ·rw [if_neg c20] at H
          exact absurd H (by simp)
      ·replace c5 := Bool.eq_false_iff.mpr c5; subst c5
       have H1 : (some x5_1) = some r := by rw [if_neg (show ¬ (false = true) by decide)] at H; exact H
       clear H; have H := H1; clear H1; obtain rfl := Option.some.inj H
       go_wp2
       repeat (go_quiet (fail); try go_wp2)
       go_ret
       exact ⟨_, rf_, kR_ HO_5, hB_⟩
/-! ### spec_MergeSparse: function 5 -/
def spec_MergeSparse.j0 : Nat → Bool → Int → Int → Int → Int → List Int → Int → List Int → Int → Int → Int → Int → List Int → Int → List Int → Option (Int × Int × Int × Int × List Int × Int × List Int × Bool)
  | 0, _, _, _, _, _, _, _, _, _, _, _, _, _, _, _ => none
  | k + 1, x21, x211000, x211001, x211002, x211003, x211004, x211005, x211006, x212000, x212001, x212002, x212003, x212004, x212005, x212006 => if x21 = true then (some (0, 0, 0, 0, ([] : List Int), 0, ([] : List Int), false)) else ((spec_spList.f k x211000 x211001 x211002 x211003 x211004 x211005 x211006).bind fun t215 => ((spec_spList.f k x212000 x212001 x212002 x212003 x212004 x212005 x212006).bind fun t218 => ((spec_spMerge.f k t215 t218).bind fun t221 => ((spec_l1Most.f x211001 x212001).bind fun t224 => ((spec_spOf.f k t221 t224).bind fun bt225 => (some (bt225.1, bt225.2.1, bt225.2.2.1, bt225.2.2.2.1, bt225.2.2.2.2.1, bt225.2.2.2.2.2.1, bt225.2.2.2.2.2.2, true)))))))
def spec_MergeSparse.f (k : Nat) (a0_0 : Int) (a0_1 : Int) (a0_2 : Int) (a0_3 : Int) (l0_4 : List Int) (a0_5 : Int) (l0_6 : List Int) (a1_0 : Int) (a1_1 : Int) (a1_2 : Int) (a1_3 : Int) (l1_4 : List Int) (a1_5 : Int) (l1_6 : List Int) : Option (Int × Int × Int × Int × List Int × Int × List Int × Bool) := (spec_spGood.f k a0_0 a0_1 a0_2 a0_3 l0_4 a0_5 l0_6).bind fun t213 => (if t213 = true then ((spec_spGood.f k a1_0 a1_1 a1_2 a1_3 l1_4 a1_5 l1_6).bind fun t214 => (if t214 = true then (spec_MergeSparse.j0 k (decide ((wrap64 (a0_0 + a1_0)) > 60)) a0_0 a0_1 a0_2 a0_3 l0_4 a0_5 l0_6 a1_0 a1_1 a1_2 a1_3 l1_4 a1_5 l1_6) else (spec_MergeSparse.j0 k true a0_0 a0_1 a0_2 a0_3 l0_4 a0_5 l0_6 a1_0 a1_1 a1_2 a1_3 l1_4 a1_5 l1_6))) else (spec_MergeSparse.j0 k true a0_0 a0_1 a0_2 a0_3 l0_4 a0_5 l0_6 a1_0 a1_1 a1_2 a1_3 l1_4 a1_5 l1_6))
theorem spec_MergeSparse.mono_l : ∀ k, (∀ y0 y1 y2 y3 y4 y5 y6 y7 y8 y9 y10 y11 y12 y13 y14, LeO (spec_MergeSparse.j0 k y0 y1 y2 y3 y4 y5 y6 y7 y8 y9 y10 y11 y12 y13 y14) (spec_MergeSparse.j0 (k + 1) y0 y1 y2 y3 y4 y5 y6 y7 y8 y9 y10 y11 y12 y13 y14))
  | 0 => fun _ _ _ _ _ _ _ _ _ _ _ _ _ _ _ r h => by simp [spec_MergeSparse.j0] at h
  | k + 1 => by
    have ih0 := spec_MergeSparse.mono_l k
    · intro y0 y1 y2 y3 y4 y5 y6 y7 y8 y9 y10 y11 y12 y13 y14
      unfold spec_MergeSparse.j0
      repeat' first
      | (with_reducible exact ih0 _ _ _ _ _ _ _ _ _ _ _ _ _ _ _)
      | (with_reducible exact spec_spGood.mono _ _ _ _ _ _ _ _)
      | (with_reducible exact spec_spList.mono _ _ _ _ _ _ _ _)
      | (with_reducible exact spec_spMerge.mono _ _ _)
      | (with_reducible exact spec_spOf.mono _ _ _)
      | (with_reducible exact LeO.refl _)
      | (with_reducible exact LeO.none _)
      | (with_reducible refine LeO.ite ?_ ?_)
      | (with_reducible refine LeO.bind ?_ (fun _ => ?_))
      | exact ih0 _ _ _ _ _ _ _ _ _ _ _ _ _ _ _
      | exact spec_spGood.mono _ _ _ _ _ _ _ _
      | exact spec_spList.mono _ _ _ _ _ _ _ _
      | exact spec_spMerge.mono _ _ _
      | exact spec_spOf.mono _ _ _
      | exact LeO.none _
      | refine LeO.ite ?_ ?_
      | refine LeO.bind ?_ (fun _ => ?_)
theorem spec_MergeSparse.mono : ∀ a0 a1 a2 a3 a4 a5 a6 a7 a8 a9 a10 a11 a12 a13 k, LeO (spec_MergeSparse.f k a0 a1 a2 a3 a4 a5 a6 a7 a8 a9 a10 a11 a12 a13) (spec_MergeSparse.f (k + 1) a0 a1 a2 a3 a4 a5 a6 a7 a8 a9 a10 a11 a12 a13) := by
  intro a0 a1 a2 a3 a4 a5 a6 a7 a8 a9 a10 a11 a12 a13 k
  have ih0 := spec_MergeSparse.mono_l k
  unfold spec_MergeSparse.f
  repeat' first
      | (with_reducible exact ih0 _ _ _ _ _ _ _ _ _ _ _ _ _ _ _)
      | (with_reducible exact spec_spGood.mono _ _ _ _ _ _ _ _)
      | (with_reducible exact spec_spList.mono _ _ _ _ _ _ _ _)
      | (with_reducible exact spec_spMerge.mono _ _ _)
      | (with_reducible exact spec_spOf.mono _ _ _)
      | (with_reducible exact LeO.refl _)
      | (with_reducible exact LeO.none _)
      | (with_reducible refine LeO.ite ?_ ?_)
      | (with_reducible refine LeO.bind ?_ (fun _ => ?_))
      | exact ih0 _ _ _ _ _ _ _ _ _ _ _ _ _ _ _
      | exact spec_spGood.mono _ _ _ _ _ _ _ _
      | exact spec_spList.mono _ _ _ _ _ _ _ _
      | exact spec_spMerge.mono _ _ _
      | exact spec_spOf.mono _ _ _
      | exact LeO.none _
      | refine LeO.ite ?_ ?_
      | refine LeO.bind ?_ (fun _ => ?_)
noncomputable def spec_MergeSparse.J0 (y0 : Bool) (y1 : Int) (y2 : Int) (y3 : Int) (y4 : Int) (y5 : List Int) (y6 : Int) (y7 : List Int) (y8 : Int) (y9 : Int) (y10 : Int) (y11 : Int) (y12 : List Int) (y13 : Int) (y14 : List Int) : Option (Int × Int × Int × Int × List Int × Int × List Int × Bool) := lim fun k => spec_MergeSparse.j0 k y0 y1 y2 y3 y4 y5 y6 y7 y8 y9 y10 y11 y12 y13 y14
theorem spec_MergeSparse.J0_sup (y0 : Bool) (y1 : Int) (y2 : Int) (y3 : Int) (y4 : Int) (y5 : List Int) (y6 : Int) (y7 : List Int) (y8 : Int) (y9 : Int) (y10 : Int) (y11 : Int) (y12 : List Int) (y13 : Int) (y14 : List Int) : Sup (fun k => spec_MergeSparse.j0 k y0 y1 y2 y3 y4 y5 y6 y7 y8 y9 y10 y11 y12 y13 y14) (spec_MergeSparse.J0 y0 y1 y2 y3 y4 y5 y6 y7 y8 y9 y10 y11 y12 y13 y14) := Sup.of_mono fun k => spec_MergeSparse.mono_l k y0 y1 y2 y3 y4 y5 y6 y7 y8 y9 y10 y11 y12 y13 y14
noncomputable def spec_MergeSparse.F (a0_0 : Int) (a0_1 : Int) (a0_2 : Int) (a0_3 : Int) (l0_4 : List Int) (a0_5 : Int) (l0_6 : List Int) (a1_0 : Int) (a1_1 : Int) (a1_2 : Int) (a1_3 : Int) (l1_4 : List Int) (a1_5 : Int) (l1_6 : List Int) : Option (Int × Int × Int × Int × List Int × Int × List Int × Bool) := lim fun k => spec_MergeSparse.f k a0_0 a0_1 a0_2 a0_3 l0_4 a0_5 l0_6 a1_0 a1_1 a1_2 a1_3 l1_4 a1_5 l1_6
theorem spec_MergeSparse.F_sup (a0_0 : Int) (a0_1 : Int) (a0_2 : Int) (a0_3 : Int) (l0_4 : List Int) (a0_5 : Int) (l0_6 : List Int) (a1_0 : Int) (a1_1 : Int) (a1_2 : Int) (a1_3 : Int) (l1_4 : List Int) (a1_5 : Int) (l1_6 : List Int) : Sup (fun k => spec_MergeSparse.f k a0_0 a0_1 a0_2 a0_3 l0_4 a0_5 l0_6 a1_0 a1_1 a1_2 a1_3 l1_4 a1_5 l1_6) (spec_MergeSparse.F a0_0 a0_1 a0_2 a0_3 l0_4 a0_5 l0_6 a1_0 a1_1 a1_2 a1_3 l1_4 a1_5 l1_6) := Sup.of_mono fun k => spec_MergeSparse.mono a0_0 a0_1 a0_2 a0_3 l0_4 a0_5 l0_6 a1_0 a1_1 a1_2 a1_3 l1_4 a1_5 l1_6 k
theorem spec_MergeSparse.J0_eq (x21 : Bool) (x211000 : Int) (x211001 : Int) (x211002 : Int) (x211003 : Int) (x211004 : List Int) (x211005 : Int) (x211006 : List Int) (x212000 : Int) (x212001 : Int) (x212002 : Int) (x212003 : Int) (x212004 : List Int) (x212005 : Int) (x212006 : List Int) : spec_MergeSparse.J0 x21 x211000 x211001 x211002 x211003 x211004 x211005 x211006 x212000 x212001 x212002 x212003 x212004 x212005 x212006 = if x21 = true then (some (0, 0, 0, 0, ([] : List Int), 0, ([] : List Int), false)) else ((spec_spList.F x211000 x211001 x211002 x211003 x211004 x211005 x211006).bind fun t215 => ((spec_spList.F x212000 x212001 x212002 x212003 x212004 x212005 x212006).bind fun t218 => ((spec_spMerge.F t215 t218).bind fun t221 => ((spec_l1Most.f x211001 x212001).bind fun t224 => ((spec_spOf.F t221 t224).bind fun bt225 => (some (bt225.1, bt225.2.1, bt225.2.2.1, bt225.2.2.2.1, bt225.2.2.2.2.1, bt225.2.2.2.2.2.1, bt225.2.2.2.2.2.2, true))))))) := by
  refine Sup.unique (spec_MergeSparse.J0_sup x21 x211000 x211001 x211002 x211003 x211004 x211005 x211006 x212000 x212001 x212002 x212003 x212004 x212005 x212006) (Sup.shift (fun k => spec_MergeSparse.mono_l k x21 x211000 x211001 x211002 x211003 x211004 x211005 x211006 x212000 x212001 x212002 x212003 x212004 x212005 x212006) (Sup.congr (g' := fun k => if x21 = true then (some (0, 0, 0, 0, ([] : List Int), 0, ([] : List Int), false)) else ((spec_spList.f k x211000 x211001 x211002 x211003 x211004 x211005 x211006).bind fun t215 => ((spec_spList.f k x212000 x212001 x212002 x212003 x212004 x212005 x212006).bind fun t218 => ((spec_spMerge.f k t215 t218).bind fun t221 => ((spec_l1Most.f x211001 x212001).bind fun t224 => ((spec_spOf.f k t221 t224).bind fun bt225 => (some (bt225.1, bt225.2.1, bt225.2.2.1, bt225.2.2.2.1, bt225.2.2.2.2.1, bt225.2.2.2.2.2.1, bt225.2.2.2.2.2.2, true)))))))) (fun k => by first | rfl | simp only [spec_MergeSparse.j0]) ?_))
  repeat' first
    | (with_reducible exact spec_MergeSparse.J0_sup _ _ _ _ _ _ _ _ _ _ _ _ _ _ _)
    | (with_reducible exact spec_spGood.F_sup _ _ _ _ _ _ _)
    | (with_reducible exact spec_spOf.F_sup _ _)
    | (with_reducible exact spec_spMerge.F_sup _ _)
    | (with_reducible exact spec_spList.F_sup _ _ _ _ _ _ _)
    | (with_reducible refine Sup.ite ?_ ?_)
    | (with_reducible refine Sup.bind ?_ (fun _ => ?_))
    | (with_reducible exact Sup.const _)
    | exact spec_MergeSparse.J0_sup _ _ _ _ _ _ _ _ _ _ _ _ _ _ _
    | exact spec_spGood.F_sup _ _ _ _ _ _ _
    | exact spec_spOf.F_sup _ _
    | exact spec_spMerge.F_sup _ _
    | exact spec_spList.F_sup _ _ _ _ _ _ _
    | exact Sup.const _
theorem spec_MergeSparse.F_eq (a0_0 : Int) (a0_1 : Int) (a0_2 : Int) (a0_3 : Int) (l0_4 : List Int) (a0_5 : Int) (l0_6 : List Int) (a1_0 : Int) (a1_1 : Int) (a1_2 : Int) (a1_3 : Int) (l1_4 : List Int) (a1_5 : Int) (l1_6 : List Int) : spec_MergeSparse.F a0_0 a0_1 a0_2 a0_3 l0_4 a0_5 l0_6 a1_0 a1_1 a1_2 a1_3 l1_4 a1_5 l1_6 = (spec_spGood.F a0_0 a0_1 a0_2 a0_3 l0_4 a0_5 l0_6).bind fun t213 => (if t213 = true then ((spec_spGood.F a1_0 a1_1 a1_2 a1_3 l1_4 a1_5 l1_6).bind fun t214 => (if t214 = true then (spec_MergeSparse.J0 (decide ((wrap64 (a0_0 + a1_0)) > 60)) a0_0 a0_1 a0_2 a0_3 l0_4 a0_5 l0_6 a1_0 a1_1 a1_2 a1_3 l1_4 a1_5 l1_6) else (spec_MergeSparse.J0 true a0_0 a0_1 a0_2 a0_3 l0_4 a0_5 l0_6 a1_0 a1_1 a1_2 a1_3 l1_4 a1_5 l1_6))) else (spec_MergeSparse.J0 true a0_0 a0_1 a0_2 a0_3 l0_4 a0_5 l0_6 a1_0 a1_1 a1_2 a1_3 l1_4 a1_5 l1_6)) := by
  refine Sup.unique (spec_MergeSparse.F_sup a0_0 a0_1 a0_2 a0_3 l0_4 a0_5 l0_6 a1_0 a1_1 a1_2 a1_3 l1_4 a1_5 l1_6) (Sup.congr (g' := fun k => (spec_spGood.f k a0_0 a0_1 a0_2 a0_3 l0_4 a0_5 l0_6).bind fun t213 => (if t213 = true then ((spec_spGood.f k a1_0 a1_1 a1_2 a1_3 l1_4 a1_5 l1_6).bind fun t214 => (if t214 = true then (spec_MergeSparse.j0 k (decide ((wrap64 (a0_0 + a1_0)) > 60)) a0_0 a0_1 a0_2 a0_3 l0_4 a0_5 l0_6 a1_0 a1_1 a1_2 a1_3 l1_4 a1_5 l1_6) else (spec_MergeSparse.j0 k true a0_0 a0_1 a0_2 a0_3 l0_4 a0_5 l0_6 a1_0 a1_1 a1_2 a1_3 l1_4 a1_5 l1_6))) else (spec_MergeSparse.j0 k true a0_0 a0_1 a0_2 a0_3 l0_4 a0_5 l0_6 a1_0 a1_1 a1_2 a1_3 l1_4 a1_5 l1_6))) (fun k => by first | rfl | simp only [spec_MergeSparse.f]) ?_)
  repeat' first
    | (with_reducible exact spec_MergeSparse.J0_sup _ _ _ _ _ _ _ _ _ _ _ _ _ _ _)
    | (with_reducible exact spec_spGood.F_sup _ _ _ _ _ _ _)
    | (with_reducible exact spec_spOf.F_sup _ _)
    | (with_reducible exact spec_spMerge.F_sup _ _)
    | (with_reducible exact spec_spList.F_sup _ _ _ _ _ _ _)
    | (with_reducible refine Sup.ite ?_ ?_)
    | (with_reducible refine Sup.bind ?_ (fun _ => ?_))
    | (with_reducible exact Sup.const _)
    | exact spec_MergeSparse.J0_sup _ _ _ _ _ _ _ _ _ _ _ _ _ _ _
    | exact spec_spGood.F_sup _ _ _ _ _ _ _
    | exact spec_spOf.F_sup _ _
    | exact spec_spMerge.F_sup _ _
    | exact spec_spList.F_sup _ _ _ _ _ _ _
    | exact Sup.const _
def spec_MergeSparse.T3 : Bool × List (List Nat × List Nat) := (true, [([], []), ([0], [0]), ([], []), ([2, 1], [2]), ([1, 3, 3], [1, 3]), ([], []), ([5], [5]), ([], []), ([7], [7]), ([6, 8, 4], [6, 8]), ([4, 9, 9], [4, 9]), ([10, 10, 0, 1, 2, 3, 4, 5, 6, 7, 8, 9, 10], [10]), ([11, 0, 1, 2, 3, 4, 5, 6, 7, 8, 9, 10, 11], [])])
def spec_MergeSparse.B3 : List Nat := [0, 1, 0, 7, 15, 0, 32, 0, 128, 511, 1023, 2047, 4095]
theorem spec_MergeSparse.tab3 : rtab .any (opsOf Try.f5 3) = spec_MergeSparse.T3 := by kernel_rfl
theorem spec_MergeSparse.bits3 : waitsOk spec_MergeSparse.T3.2 spec_MergeSparse.B3 = true := by kernel_rfl
set_option maxHeartbeats 8000000 in
set_option maxRecDepth 100000 in
theorem spec_MergeSparse.calls (k : Nat) (a0_0 : Int) (a0_1 : Int) (a0_2 : Int) (a0_3 : Int) (A0_4 : Option Addr) (c0_4 : Nat) (l0_4 : List Int) (a0_5 : Int) (A0_6 : Option Addr) (c0_6 : Nat) (l0_6 : List Int) (a1_0 : Int) (a1_1 : Int) (a1_2 : Int) (a1_3 : Int) (A1_4 : Option Addr) (c1_4 : Nat) (l1_4 : List Int) (a1_5 : Int) (A1_6 : Option Addr) (c1_6 : Nat) (l1_6 : List Int) (r1 : Int) (r2 : Int) (r3 : Int) (r4 : Int) (r5 : List Int) (r6 : Int) (r7 : List Int) (r8 : Bool) (w : World) (hr0_4 : Kd.C (Kd.int .i64) w A0_4 l0_4.length l0_4) (hc0_4 : l0_4.length ≤ c0_4) (hr0_6 : Kd.C (Kd.int .i64) w A0_6 l0_6.length l0_6) (hc0_6 : l0_6.length ≤ c0_6) (hr1_4 : Kd.C (Kd.int .i64) w A1_4 l1_4.length l1_4) (hc1_4 : l1_4.length ≤ c1_4) (hr1_6 : Kd.C (Kd.int .i64) w A1_6 l1_6.length l1_6) (hc1_6 : l1_6.length ≤ c1_6) (h : spec_MergeSparse.f k a0_0 a0_1 a0_2 a0_3 l0_4 a0_5 l0_6 a1_0 a1_1 a1_2 a1_3 l1_4 a1_5 l1_6 = some (r1, r2, r3, r4, r5, r6, r7, r8)) :
    Calls Try.prog 5 #[.agg #[.int .i64 a0_0, .int .i64 a0_1, .int .i64 a0_2, .int .i64 a0_3, .slice A0_4 l0_4.length c0_4, .int .i64 a0_5, .slice A0_6 l0_6.length c0_6], .agg #[.int .i64 a1_0, .int .i64 a1_1, .int .i64 a1_2, .int .i64 a1_3, .slice A1_4 l1_4.length c1_4, .int .i64 a1_5, .slice A1_6 l1_6.length c1_6]] w fun e w' => ∃ v4_ v6_ : Value, e = .returned (.tuple #[.agg #[.int .i64 r1, .int .i64 r2, .int .i64 r3, .int .i64 r4, v4_, .int .i64 r6, v6_], .bool r8]) ∧ Kd.R (Kd.int .i64) 3 w' w.heap.size (fun k_ => some k_ ≠ (v6_ : Value).ownBlock) v4_ r5 ∧ Kd.R (Kd.int .i64) 3 w' w.heap.size (fun k_ => some k_ ≠ (v4_ : Value).ownBlock) v6_ r7 ∧ Below w.heap.size w w' := by
  have hu30 := Try.underlying30; have HR0_4 := Qx hr0_4; have HC0_4 := Qx hc0_4; clear hr0_4 hc0_4; have HR0_6 := Qx hr0_6; have HC0_6 := Qx hc0_6; clear hr0_6 hc0_6; have HR1_4 := Qx hr1_4; have HC1_4 := Qx hc1_4; clear hr1_4 hc1_4; have HR1_6 := Qx hr1_6; have HC1_6 := Qx hc1_6; clear hr1_6 hc1_6
  have HB := Qx (Below.refl w.heap.size w)
  have H : ((spec_spGood.f k a0_0 a0_1 a0_2 a0_3 l0_4 a0_5 l0_6).bind fun t213 => (if t213 = true then ((spec_spGood.f k a1_0 a1_1 a1_2 a1_3 l1_4 a1_5 l1_6).bind fun t214 => (if t214 = true then (spec_MergeSparse.j0 k (decide ((wrap64 (a0_0 + a1_0)) > 60)) a0_0 a0_1 a0_2 a0_3 l0_4 a0_5 l0_6 a1_0 a1_1 a1_2 a1_3 l1_4 a1_5 l1_6) else (spec_MergeSparse.j0 k true a0_0 a0_1 a0_2 a0_3 l0_4 a0_5 l0_6 a1_0 a1_1 a1_2 a1_3 l1_4 a1_5 l1_6))) else (spec_MergeSparse.j0 k true a0_0 a0_1 a0_2 a0_3 l0_4 a0_5 l0_6 a1_0 a1_1 a1_2 a1_3 l1_4 a1_5 l1_6))) = some (r1, r2, r3, r4, r5, r6, r7, r8) := h
  clear h; have HC3 := Qx H; clear H
  go_enter Try.func5, Try.ntmps5
  go_upto_region 1 with (first | ((with_reducible refine gate_dst (N := 2) rfl ?_); refine bx_ 2 #[.int .i64 a0_0, .int .i64 a0_1, .int .i64 a0_2, .int .i64 a0_3, .slice A0_4 l0_4.length c0_4, .int .i64 a0_5, .slice A0_6 l0_6.length c0_6] 30 ?_; intro gb210 hg w4 hbox hb; have BK210 := Qx (hbox); have GW210 := Qx ((ge_ hg)); have GE210 := Qx ((ge_ hg)); replace HB := Qx (Qp hB_ hb); clear hb hbox hg) | ((with_reducible refine gate_dst (N := 3) rfl ?_); refine bx_ 3 #[.int .i64 a1_0, .int .i64 a1_1, .int .i64 a1_2, .int .i64 a1_3, .slice A1_4 l1_4.length c1_4, .int .i64 a1_5, .slice A1_6 l1_6.length c1_6] 30 ?_; intro gb211 hg w5 hbox hb; have BK211 := Qx (hbox); have GW211 := Qx ((ge_ hg)); have GE211 := Qx ((ge_ hg)); replace HB := Qx (Qp hB_ hb); have NB210_211 := Qx ((ne_ hg BK210)); have NB211_210 := Qx ((nf_ hg BK210)); replace BK210 := Qx (Qb (kB_ BK210) hb); clear hb hbox hg) | ((with_reducible refine gate_dst (N := 4) rfl ?_); refine bx_ 4 #[.int .i64 0, .int .i64 0, .int .i64 0, .int .i64 0, .slice none 0 0, .int .i64 0, .slice none 0 0] 30 ?_; intro gb212 hg w6 hbox hb; have BK212 := Qx (hbox); have GW212 := Qx ((ge_ hg)); have GE212 := Qx ((ge_ hg)); replace HB := Qx (Qp hB_ hb); have NB210_212 := Qx ((ne_ hg BK210)); have NB212_210 := Qx ((nf_ hg BK210)); replace BK210 := Qx (Qb (kB_ BK210) hb); have NB211_212 := Qx ((ne_ hg BK211)); have NB212_211 := Qx ((nf_ hg BK211)); replace BK211 := Qx (Qb (kB_ BK211) hb); clear hb hbox hg))
  (try simp only [Act.put, List.setIfInBounds_toArray, List.set_cons_zero, List.set_cons_succ])
  go_cut [21] (fun v21 wc => ∃ (kq : Nat) (x21_2 : Bool), v21 = .bool x21_2 ∧ Aside0 (spec_MergeSparse.j0 kq x21_2 a0_0 a0_1 a0_2 a0_3 l0_4 a0_5 l0_6 a1_0 a1_1 a1_2 a1_3 l1_4 a1_5 l1_6 = some (r1, r2, r3, r4, r5, r6, r7, r8)) ∧ Aside0 (kq ≤ k) ∧ Aside0 (wc.heap[gb210]? = some (.cells #[.int .i64 a0_0, .int .i64 a0_1, .int .i64 a0_2, .int .i64 a0_3, (.slice A0_4 l0_4.length c0_4), .int .i64 a0_5, (.slice A0_6 l0_6.length c0_6)] 30 (0, 0))) ∧ Aside0 (wc.heap[gb211]? = some (.cells #[.int .i64 a1_0, .int .i64 a1_1, .int .i64 a1_2, .int .i64 a1_3, (.slice A1_4 l1_4.length c1_4), .int .i64 a1_5, (.slice A1_6 l1_6.length c1_6)] 30 (0, 0))) ∧ Aside0 (wc.heap[gb212]? = some (.cells #[.int .i64 0, .int .i64 0, .int .i64 0, .int .i64 0, (.slice none 0 0), .int .i64 0, (.slice none 0 0)] 30 (0, 0))) ∧ Aside0 (Below w.heap.size w wc))
  case first =>
   have H := HC3.out; clear HC3; replace H := Option.bind_eq_some_iff.mp H; obtain ⟨t213, A70, H⟩ := H
   have A7 := Qx A70; clear A70
   by_cases c8 : t213 = true
   ·subst c8
    have H1 : ((spec_spGood.f k a1_0 a1_1 a1_2 a1_3 l1_4 a1_5 l1_6).bind fun t214 => (if t214 = true then (spec_MergeSparse.j0 k (decide ((wrap64 (a0_0 + a1_0)) > 60)) a0_0 a0_1 a0_2 a0_3 l0_4 a0_5 l0_6 a1_0 a1_1 a1_2 a1_3 l1_4 a1_5 l1_6) else (spec_MergeSparse.j0 k true a0_0 a0_1 a0_2 a0_3 l0_4 a0_5 l0_6 a1_0 a1_1 a1_2 a1_3 l1_4 a1_5 l1_6))) = some (r1, r2, r3, r4, r5, r6, r7, r8) := by rw [if_pos rfl] at H; exact H
    clear H; have H := H1; clear H1; replace H := Option.bind_eq_some_iff.mp H; obtain ⟨t214, A90, H⟩ := H
    have A9 := Qx A90; clear A90
    by_cases c10 : t214 = true
    ·subst c10
     have H1 : (spec_MergeSparse.j0 k (decide ((wrap64 (a0_0 + a1_0)) > 60)) a0_0 a0_1 a0_2 a0_3 l0_4 a0_5 l0_6 a1_0 a1_1 a1_2 a1_3 l1_4 a1_5 l1_6) = some (r1, r2, r3, r4, r5, r6, r7, r8) := by rw [if_pos rfl] at H; exact H
     clear H; have H := H1; clear H1; have H' := Qx H; clear H; have hnb11 := NB210_211.out; have hnc11 := NB211_210.out; have hnb12 := NB210_212.out; have hnc12 := NB212_210.out
     obtain ⟨hcz13_0, hcz13_1, hcz13_2, hcz13_3, hcz13_4, hcz13_5, hcz13_6, hfz13_0, hfz13_1, hfz13_2, hfz13_3, hfz13_4, hfz13_5, hfz13_6⟩ := cellsQ7_g1c (w := w6) BK210.out
     go_wp2_with (first | ((with_reducible refine gate_callee (f := 12) rfl ?_); refine gl_ 7 Try.func12 #[.agg #[.int .i64 a0_0, .int .i64 a0_1, .int .i64 a0_2, .int .i64 a0_3, .slice A0_4 l0_4.length c0_4, .int .i64 a0_5, .slice A0_6 l0_6.length c0_6]] ?_; (with_reducible refine (spec_spGood.calls k a0_0 a0_1 a0_2 a0_3 _ _ l0_4 a0_5 _ _ l0_6 true _ ?side1 ?side2 ?side3 ?side4 A7.out).mono ?_); (case side1 => exact kC_ HR0_4); (case side2 => exact HC0_4.out); (case side3 => exact kC_ HR0_6); (case side4 => exact HC0_6.out); rintro e w14 ⟨rfl, hb⟩; refine ⟨_, rfl, ?_⟩; replace BK210 := Qx (Qb (kB_ BK210) hb); replace BK211 := Qx (Qb (kB_ BK211) hb); replace BK212 := Qx (Qb (kB_ BK212) hb); replace HB := Qx (Qp hB_ hb); (try clear hb); (try clear hb2); (try clear hk); (try clear hi); have hnb15 := NB211_212.out; have hnc15 := NB212_211.out; obtain ⟨hcz16_0, hcz16_1, hcz16_2, hcz16_3, hcz16_4, hcz16_5, hcz16_6, hfz16_0, hfz16_1, hfz16_2, hfz16_3, hfz16_4, hfz16_5, hfz16_6⟩ := cellsQ7_g1c (w := w14) BK211.out) | (go_at_call 12; (with_reducible refine (spec_spGood.calls k a1_0 a1_1 a1_2 a1_3 _ _ l1_4 a1_5 _ _ l1_6 true _ ?side1 ?side2 ?side3 ?side4 A9.out).mono ?_); (case side1 => exact kC_ HR1_4); (case side2 => exact HC1_4.out); (case side3 => exact kC_ HR1_6); (case side4 => exact HC1_6.out); rintro e w17 ⟨rfl, hb⟩; replace BK210 := Qx (Qb (kB_ BK210) hb); replace BK211 := Qx (Qb (kB_ BK211) hb); replace BK212 := Qx (Qb (kB_ BK212) hb); replace HB := Qx (Qp hB_ hb); (try clear hb); (try clear hb2); (try clear hk); (try clear hi); obtain ⟨hcz18_0, hcz18_1, hcz18_2, hcz18_3, hcz18_4, hcz18_5, hcz18_6, hfz18_0, hfz18_1, hfz18_2, hfz18_3, hfz18_4, hfz18_5, hfz18_6⟩ := cellsQ7_g1c (w := w17) BK210.out; obtain ⟨hcz19_0, hcz19_1, hcz19_2, hcz19_3, hcz19_4, hcz19_5, hcz19_6, hfz19_0, hfz19_1, hfz19_2, hfz19_3, hfz19_4, hfz19_5, hfz19_6⟩ := cellsQ7_g1c (w := w17) BK211.out))
     go_meet
     case rel => exact ⟨_, (decide ((wrap64 (a0_0 + a1_0)) > 60)), rg_, H', ⟨by first | omega | exact Nat.le_refl _⟩, ⟨kB_ BK210⟩, ⟨kB_ BK211⟩, ⟨kB_ BK212⟩, ⟨hB_⟩⟩
    ·replace c10 := Bool.eq_false_iff.mpr c10; subst c10
     have H1 : (spec_MergeSparse.j0 k true a0_0 a0_1 a0_2 a0_3 l0_4 a0_5 l0_6 a1_0 a1_1 a1_2 a1_3 l1_4 a1_5 l1_6) = some (r1, r2, r3, r4, r5, r6, r7, r8) := by rw [if_neg (show ¬ (false = true) by decide)] at H; exact H
     clear H; have H := H1; clear H1; have H' := Qx H; clear H; have hnb20 := NB210_211.out; have hnc20 := NB211_210.out; have hnb21 := NB210_212.out; have hnc21 := NB212_210.out
     obtain ⟨hcz22_0, hcz22_1, hcz22_2, hcz22_3, hcz22_4, hcz22_5, hcz22_6, hfz22_0, hfz22_1, hfz22_2, hfz22_3, hfz22_4, hfz22_5, hfz22_6⟩ := cellsQ7_g1c (w := w6) BK210.out
     go_wp2_with (first | ((with_reducible refine gate_callee (f := 12) rfl ?_); refine gl_ 7 Try.func12 #[.agg #[.int .i64 a0_0, .int .i64 a0_1, .int .i64 a0_2, .int .i64 a0_3, .slice A0_4 l0_4.length c0_4, .int .i64 a0_5, .slice A0_6 l0_6.length c0_6]] ?_; (with_reducible refine (spec_spGood.calls k a0_0 a0_1 a0_2 a0_3 _ _ l0_4 a0_5 _ _ l0_6 true _ ?side1 ?side2 ?side3 ?side4 A7.out).mono ?_); (case side1 => exact kC_ HR0_4); (case side2 => exact HC0_4.out); (case side3 => exact kC_ HR0_6); (case side4 => exact HC0_6.out); rintro e w23 ⟨rfl, hb⟩; refine ⟨_, rfl, ?_⟩; replace BK210 := Qx (Qb (kB_ BK210) hb); replace BK211 := Qx (Qb (kB_ BK211) hb); replace BK212 := Qx (Qb (kB_ BK212) hb); replace HB := Qx (Qp hB_ hb); (try clear hb); (try clear hb2); (try clear hk); (try clear hi); have hnb24 := NB211_212.out; have hnc24 := NB212_211.out; obtain ⟨hcz25_0, hcz25_1, hcz25_2, hcz25_3, hcz25_4, hcz25_5, hcz25_6, hfz25_0, hfz25_1, hfz25_2, hfz25_3, hfz25_4, hfz25_5, hfz25_6⟩ := cellsQ7_g1c (w := w23) BK211.out) | (go_at_call 12; (with_reducible refine (spec_spGood.calls k a1_0 a1_1 a1_2 a1_3 _ _ l1_4 a1_5 _ _ l1_6 false _ ?side1 ?side2 ?side3 ?side4 A9.out).mono ?_); (case side1 => exact kC_ HR1_4); (case side2 => exact HC1_4.out); (case side3 => exact kC_ HR1_6); (case side4 => exact HC1_6.out); rintro e w26 ⟨rfl, hb⟩; replace BK210 := Qx (Qb (kB_ BK210) hb); replace BK211 := Qx (Qb (kB_ BK211) hb); replace BK212 := Qx (Qb (kB_ BK212) hb); replace HB := Qx (Qp hB_ hb); (try clear hb); (try clear hb2); (try clear hk); (try clear hi)))
     go_meet
     case rel => exact ⟨_, (true), rg_, H', ⟨by first | omega | exact Nat.le_refl _⟩, ⟨kB_ BK210⟩, ⟨kB_ BK211⟩, ⟨kB_ BK212⟩, ⟨hB_⟩⟩
   ·replace c8 := Bool.eq_false_iff.mpr c8; subst c8
    have H1 : (spec_MergeSparse.j0 k true a0_0 a0_1 a0_2 a0_3 l0_4 a0_5 l0_6 a1_0 a1_1 a1_2 a1_3 l1_4 a1_5 l1_6) = some (r1, r2, r3, r4, r5, r6, r7, r8) := by rw [if_neg (show ¬ (false = true) by decide)] at H; exact H
    clear H; have H := H1; clear H1; have H' := Qx H; clear H; have hnb27 := NB210_211.out; have hnc27 := NB211_210.out; have hnb28 := NB210_212.out; have hnc28 := NB212_210.out
    obtain ⟨hcz29_0, hcz29_1, hcz29_2, hcz29_3, hcz29_4, hcz29_5, hcz29_6, hfz29_0, hfz29_1, hfz29_2, hfz29_3, hfz29_4, hfz29_5, hfz29_6⟩ := cellsQ7_g1c (w := w6) BK210.out
    go_wp2_with (first | ((with_reducible refine gate_callee (f := 12) rfl ?_); refine gl_ 7 Try.func12 #[.agg #[.int .i64 a0_0, .int .i64 a0_1, .int .i64 a0_2, .int .i64 a0_3, .slice A0_4 l0_4.length c0_4, .int .i64 a0_5, .slice A0_6 l0_6.length c0_6]] ?_; (with_reducible refine (spec_spGood.calls k a0_0 a0_1 a0_2 a0_3 _ _ l0_4 a0_5 _ _ l0_6 false _ ?side1 ?side2 ?side3 ?side4 A7.out).mono ?_); (case side1 => exact kC_ HR0_4); (case side2 => exact HC0_4.out); (case side3 => exact kC_ HR0_6); (case side4 => exact HC0_6.out); rintro e w30 ⟨rfl, hb⟩; refine ⟨_, rfl, ?_⟩; replace BK210 := Qx (Qb (kB_ BK210) hb); replace BK211 := Qx (Qb (kB_ BK211) hb); replace BK212 := Qx (Qb (kB_ BK212) hb); replace HB := Qx (Qp hB_ hb); (try clear hb); (try clear hb2); (try clear hk); (try clear hi)))
    go_meet
    case rel => exact ⟨_, (true), rg_, H', ⟨by first | omega | exact Nat.le_refl _⟩, ⟨kB_ BK210⟩, ⟨kB_ BK211⟩, ⟨kB_ BK212⟩, ⟨hB_⟩⟩
  case rest =>
   clear HC3
   try clear c1
   try clear c2
   try clear p2
   try clear c5
   try clear p6
   try clear c8
   try clear c10
   try clear c11
   try clear c12
   try clear c15
   try clear c20
   try clear c21
   try clear c24
   try clear c27
   try clear c28
   try clear hcz13_0
   try clear hcz13_1
   try clear hcz13_2
   try clear hcz13_3
   try clear hcz13_4
   try clear hcz13_5
   try clear hcz13_6
   try clear hcz16_0
   try clear hcz16_1
   try clear hcz16_2
   try clear hcz16_3
   try clear hcz16_4
   try clear hcz16_5
   try clear hcz16_6
   try clear hcz18_0
   try clear hcz18_1
   try clear hcz18_2
   try clear hcz18_3
   try clear hcz18_4
   try clear hcz18_5
   try clear hcz18_6
   try clear hcz19_0
   try clear hcz19_1
   try clear hcz19_2
   try clear hcz19_3
   try clear hcz19_4
   try clear hcz19_5
   try clear hcz19_6
   try clear hcz22_0
   try clear hcz22_1
   try clear hcz22_2
   try clear hcz22_3
   try clear hcz22_4
   try clear hcz22_5
   try clear hcz22_6
   try clear hcz25_0
   try clear hcz25_1
   try clear hcz25_2
   try clear hcz25_3
   try clear hcz25_4
   try clear hcz25_5
   try clear hcz25_6
   try clear hcz29_0
   try clear hcz29_1
   try clear hcz29_2
   try clear hcz29_3
   try clear hcz29_4
   try clear hcz29_5
   try clear hcz29_6
   try clear hfz13_0
   try clear hfz13_1
   try clear hfz13_2
   try clear hfz13_3
   try clear hfz13_4
   try clear hfz13_5
   try clear hfz13_6
   try clear hfz16_0
   try clear hfz16_1
   try clear hfz16_2
   try clear hfz16_3
   try clear hfz16_4
   try clear hfz16_5
   try clear hfz16_6
   try clear hfz18_0
   try clear hfz18_1
   try clear hfz18_2
   try clear hfz18_3
   try clear hfz18_4
   try clear hfz18_5
   try clear hfz18_6
   try clear hfz19_0
   try clear hfz19_1
   try clear hfz19_2
   try clear hfz19_3
   try clear hfz19_4
   try clear hfz19_5
   try clear hfz19_6
   try clear hfz22_0
   try clear hfz22_1
   try clear hfz22_2
   try clear hfz22_3
   try clear hfz22_4
   try clear hfz22_5
   try clear hfz22_6
   try clear hfz25_0
   try clear hfz25_1
   try clear hfz25_2
   try clear hfz25_3
   try clear hfz25_4
   try clear hfz25_5
   try clear hfz25_6
   try clear hfz29_0
   try clear hfz29_1
   try clear hfz29_2
   try clear hfz29_3
   try clear hfz29_4
   try clear hfz29_5
   try clear hfz29_6
   obtain ⟨kq, x21_2, rfl, HA, HJ2, BK210, BK211, BK212, HB⟩ := hcut
   cases kq with
   | zero => exact absurd HA.out (by simp [spec_MergeSparse.j0])
   | succ kj2 =>
    have H := HA.out; clear HA; simp only [spec_MergeSparse.j0] at H
    by_cases c31 : x21_2 = true
    ·subst c31
     have H1 : (some (0, 0, 0, 0, ([] : List Int), 0, ([] : List Int), false)) = some (r1, r2, r3, r4, r5, r6, r7, r8) := by rw [if_pos rfl] at H; exact H
     clear H; have H := H1; clear H1; simp only [Option.some.injEq, Prod.mk.injEq] at H; obtain ⟨rfl, rfl, rfl, rfl, rfl, rfl, rfl, rfl⟩ := H; have hnb32 := NB212_210.out; have hnc32 := NB210_212.out; have hnb33 := NB212_211.out; have hnc33 := NB211_212.out
     obtain ⟨hcz34_0, hcz34_1, hcz34_2, hcz34_3, hcz34_4, hcz34_5, hcz34_6, hfz34_0, hfz34_1, hfz34_2, hfz34_3, hfz34_4, hfz34_5, hfz34_6⟩ := cellsQ7_g1c (w := wc) BK212.out
     go_wp2
     refine bodyPost_ret (results_ct rfl _ _ gb212 30 #[.int .i64 0, .int .i64 0, .int .i64 0, .int .i64 0, .slice none 0 0, .int .i64 0, .slice none 0 0] (0, 0) _ rfl (by (with_reducible repeat (first | refine Qm ?_ _ | refine Qw ?_ | refine Qk ?_ _)); refine Qu (cs := #[.int .i64 0, .int .i64 0, .int .i64 0, .int .i64 0, .slice none 0 0, .int .i64 0, .slice none 0 0]) ?_ 6 _ rfl; (with_reducible repeat (first | refine Qm ?_ _ | refine Qw ?_ | refine Qk ?_ _)); refine Qu (cs := #[.int .i64 0, .int .i64 0, .int .i64 0, .int .i64 0, .slice none 0 0, .int .i64 0, .slice none 0 0]) ?_ 5 _ rfl; (with_reducible repeat (first | refine Qm ?_ _ | refine Qw ?_ | refine Qk ?_ _)); refine Qu (cs := #[.int .i64 0, .int .i64 0, .int .i64 0, .int .i64 0, .slice none 0 0, .int .i64 0, .slice none 0 0]) ?_ 4 _ rfl; (with_reducible repeat (first | refine Qm ?_ _ | refine Qw ?_ | refine Qk ?_ _)); refine Qu (cs := #[.int .i64 0, .int .i64 0, .int .i64 0, .int .i64 0, .slice none 0 0, .int .i64 0, .slice none 0 0]) ?_ 3 _ rfl; (with_reducible repeat (first | refine Qm ?_ _ | refine Qw ?_ | refine Qk ?_ _)); refine Qu (cs := #[.int .i64 0, .int .i64 0, .int .i64 0, .int .i64 0, .slice none 0 0, .int .i64 0, .slice none 0 0]) ?_ 2 _ rfl; (with_reducible repeat (first | refine Qm ?_ _ | refine Qw ?_ | refine Qk ?_ _)); refine Qu (cs := #[.int .i64 0, .int .i64 0, .int .i64 0, .int .i64 0, .slice none 0 0, .int .i64 0, .slice none 0 0]) ?_ 1 _ rfl; (with_reducible repeat (first | refine Qm ?_ _ | refine Qw ?_ | refine Qk ?_ _)); refine Qu (cs := #[.int .i64 0, .int .i64 0, .int .i64 0, .int .i64 0, .slice none 0 0, .int .i64 0, .slice none 0 0]) ?_ 0 _ rfl; (with_reducible repeat (first | refine Qm ?_ _ | refine Qw ?_ | refine Qk ?_ _)); exact BK212.out) Try.underlying30 rfl (by kernel_rfl)) rfl ?_
     exact ⟨_, _, rf_, by first | exact Kd.R_nil _ _ _ _ _ | exact Kd.N_nil _ _ _ _ _ | exact Kd.V_nil _ _ _ _ _ | exact Kd.Q_nil _ _ _ _ _ | exact Kd.S_nil _ _ _ _ _, by first | exact Kd.R_nil _ _ _ _ _ | exact Kd.N_nil _ _ _ _ _ | exact Kd.V_nil _ _ _ _ _ | exact Kd.Q_nil _ _ _ _ _ | exact Kd.S_nil _ _ _ _ _, hB_⟩
    ·replace c31 := Bool.eq_false_iff.mpr c31; subst c31
     have H1 : ((spec_spList.f kj2 a0_0 a0_1 a0_2 a0_3 l0_4 a0_5 l0_6).bind fun t215 => ((spec_spList.f kj2 a1_0 a1_1 a1_2 a1_3 l1_4 a1_5 l1_6).bind fun t218 => ((spec_spMerge.f kj2 t215 t218).bind fun t221 => ((spec_l1Most.f a0_1 a1_1).bind fun t224 => ((spec_spOf.f kj2 t221 t224).bind fun bt225 => (some (bt225.1, bt225.2.1, bt225.2.2.1, bt225.2.2.2.1, bt225.2.2.2.2.1, bt225.2.2.2.2.2.1, bt225.2.2.2.2.2.2, true))))))) = some (r1, r2, r3, r4, r5, r6, r7, r8) := by rw [if_neg (show ¬ (false = true) by decide)] at H; exact H
     clear H; have H := H1; clear H1; replace H := Option.bind_eq_some_iff.mp H; obtain ⟨t215, A350, H⟩ := H
     have A35 := Qx A350; clear A350; replace H := Option.bind_eq_some_iff.mp H; obtain ⟨t218, A360, H⟩ := H
     have A36 := Qx A360; clear A360; replace H := Option.bind_eq_some_iff.mp H; obtain ⟨t221, A370, H⟩ := H
     have A37 := Qx A370; clear A370; replace H := Option.bind_eq_some_iff.mp H; obtain ⟨t224, A380, H⟩ := H
     have A38 := Qx A380; clear A380; replace H := Option.bind_eq_some_iff.mp H; obtain ⟨⟨t225, t226, t227, t228, t229, t232, t233⟩, A390, H⟩ := H
     have A39 := Qx A390; clear A390; simp only [Option.some.injEq, Prod.mk.injEq] at H; obtain ⟨rfl, rfl, rfl, rfl, rfl, rfl, rfl, rfl⟩ := H
     try go_wp2
     replace BK210 := Qx (Qw BK210.out)
     replace BK211 := Qx (Qw BK211.out)
     replace BK212 := Qx (Qw BK212.out)
     replace HB := Qx (below_drew1 HB.out)
     refine start_ (n := 13) (S := fun w' => w'.cell? ⟨gb210, 0, none⟩ = some (.int .i64 a0_0) ∧ w'.cell? ⟨gb210, 1, none⟩ = some (.int .i64 a0_1) ∧ w'.cell? ⟨gb210, 2, none⟩ = some (.int .i64 a0_2) ∧ w'.cell? ⟨gb210, 3, none⟩ = some (.int .i64 a0_3) ∧ w'.cell? ⟨gb210, 4, none⟩ = some (.slice A0_4 l0_4.length c0_4) ∧ w'.cell? ⟨gb210, 5, none⟩ = some (.int .i64 a0_5) ∧ w'.cell? ⟨gb210, 6, none⟩ = some (.slice A0_6 l0_6.length c0_6) ∧ w'.cell? ⟨gb211, 0, none⟩ = some (.int .i64 a1_0) ∧ w'.cell? ⟨gb211, 1, none⟩ = some (.int .i64 a1_1) ∧ w'.cell? ⟨gb211, 2, none⟩ = some (.int .i64 a1_2) ∧ w'.cell? ⟨gb211, 3, none⟩ = some (.int .i64 a1_3) ∧ w'.cell? ⟨gb211, 4, none⟩ = some (.slice A1_4 l1_4.length c1_4) ∧ w'.cell? ⟨gb211, 5, none⟩ = some (.int .i64 a1_5) ∧ w'.cell? ⟨gb211, 6, none⟩ = some (.slice A1_6 l1_6.length c1_6)) (ds := []) #[false, false, false, false, false, false, false, false, false, false, false, false, false] (by kernel_rfl) rfl rfl ⟨(Qc BK210.out 0).trans rfl, (Qc BK210.out 1).trans rfl, (Qc BK210.out 2).trans rfl, (Qc BK210.out 3).trans rfl, (Qc BK210.out 4).trans rfl, (Qc BK210.out 5).trans rfl, (Qc BK210.out 6).trans rfl, (Qc BK211.out 0).trans rfl, (Qc BK211.out 1).trans rfl, (Qc BK211.out 2).trans rfl, (Qc BK211.out 3).trans rfl, (Qc BK211.out 4).trans rfl, (Qc BK211.out 5).trans rfl, (Qc BK211.out 6).trans rfl⟩ (fun hHeld => ?_); refine with_tabW spec_MergeSparse.tab3 spec_MergeSparse.bits3 (fun HT_ HW_ => ?_)
     generalize wc.drew = w40 at BK210 BK211 BK212 HB hHeld ⊢
     refine pr_ 5 28 13 32 ?_
     refine pr_ 7 30 13 160 ?_
     refine tq_ 0 23 13 161 HT_.out HW_.out (by kernel_rfl) hHeld ?_ rfl (by rintro w' ⟨s0, s1, s2, s3, s4, s5, s6, s7, s8, s9, s10, s11, s12, s13⟩; go_simp; with_reducible rfl)
     refine tq_ 2 25 13 165 HT_.out HW_.out (by kernel_rfl) hHeld ?_ rfl (by rintro w' ⟨s0, s1, s2, s3, s4, s5, s6, s7, s8, s9, s10, s11, s12, s13⟩; go_simp; with_reducible rfl)
     refine tq_ 6 29 13 229 HT_.out HW_.out (by kernel_rfl) hHeld ?_ rfl (by rintro w' ⟨s0, s1, s2, s3, s4, s5, s6, s7, s8, s9, s10, s11, s12, s13⟩; go_simp; with_reducible rfl)
     refine tq_ 8 31 13 485 HT_.out HW_.out (by kernel_rfl) hHeld ?_ rfl (by rintro w' ⟨s0, s1, s2, s3, s4, s5, s6, s7, s8, s9, s10, s11, s12, s13⟩; go_simp; with_reducible rfl)
     refine one_ (i := 1) (N := some 24) (bsA 13 487) rfl rfl (one_of HT_.out (by kernel_rfl)) (by decide) (fun K hK => ?_)
     refine goes_ Try.func15 (by kernel_rfl) rfl #[.agg #[.int .i64 a0_0, .int .i64 a0_1, .int .i64 a0_2, .int .i64 a0_3, .slice A0_4 l0_4.length c0_4, .int .i64 a0_5, .slice A0_6 l0_6.length c0_6]] (by rfl) rfl rfl (by (try simp only [List.map_toArray, List.map_cons, List.map_nil]); first | done | rfl | (simp only [List.length_drop, List.length_take]; rfl)) ?_
     with_reducible refine (spec_spList.calls kj2 a0_0 a0_1 a0_2 a0_3 _ _ l0_4 a0_5 _ _ l0_6 t215 _ ?side1 ?side2 ?side3 ?side4 A35.out).mono ?_
     (case side1 => exact kC_ HR0_4)
     (case side2 => exact HC0_4.out)
     (case side3 => exact kC_ HR0_6)
     (case side4 => exact HC0_6.out)
     rintro e w41 ⟨v216, rfl, ho0, hb⟩
     refine ⟨_, rfl, ?_⟩
     have HO217 := Qx (Kd.R_lower ho0 (Qz hB_))
     replace BK210 := Qx (Qb (kB_ BK210) hb)
     replace BK211 := Qx (Qb (kB_ BK211) hb)
     replace BK212 := Qx (Qb (kB_ BK212) hb)
     replace HB := Qx (Qp hB_ hb)
     (try clear hb); (try clear hb2); (try clear hk); (try clear hi); (try clear ho0)
     refine hK.out _ _ ⟨(Qc BK210.out 0).trans rfl, (Qc BK210.out 1).trans rfl, (Qc BK210.out 2).trans rfl, (Qc BK210.out 3).trans rfl, (Qc BK210.out 4).trans rfl, (Qc BK210.out 5).trans rfl, (Qc BK210.out 6).trans rfl, (Qc BK211.out 0).trans rfl, (Qc BK211.out 1).trans rfl, (Qc BK211.out 2).trans rfl, (Qc BK211.out 3).trans rfl, (Qc BK211.out 4).trans rfl, (Qc BK211.out 5).trans rfl, (Qc BK211.out 6).trans rfl⟩ (fun hHeld => ?_)
     clear hK K
     refine norm_ (a' := ?_) ?_ ?_
     rotate_left
     ·show Act.put _ (some 24) _ = _
      simp only [Act.put, List.setIfInBounds_toArray, List.set_cons_zero, List.set_cons_succ, i64_w]
      rfl
     refine one_ (i := 3) (N := some 26) (bsA 13 495) rfl rfl (one_of HT_.out (by kernel_rfl)) (by decide) (fun K hK => ?_)
     refine goes_ Try.func15 (by kernel_rfl) rfl #[.agg #[.int .i64 a1_0, .int .i64 a1_1, .int .i64 a1_2, .int .i64 a1_3, .slice A1_4 l1_4.length c1_4, .int .i64 a1_5, .slice A1_6 l1_6.length c1_6]] (by rfl) rfl rfl (by (try simp only [List.map_toArray, List.map_cons, List.map_nil]); first | done | rfl | (simp only [List.length_drop, List.length_take]; rfl)) ?_
     with_reducible refine (spec_spList.calls kj2 a1_0 a1_1 a1_2 a1_3 _ _ l1_4 a1_5 _ _ l1_6 t218 _ ?side1 ?side2 ?side3 ?side4 A36.out).mono ?_
     (case side1 => exact kC_ HR1_4)
     (case side2 => exact HC1_4.out)
     (case side3 => exact kC_ HR1_6)
     (case side4 => exact HC1_6.out)
     rintro e w42 ⟨v219, rfl, ho0, hb⟩
     refine ⟨_, rfl, ?_⟩
     have HO220 := Qx (Kd.R_lower (Kd.R_new' ho0 (Kd.R_lt (kR_ HO217))) (Qz hB_))
     replace HO217 := Qx (Kd.R_elder' (kR_ HO217) (Kd.R_base ho0) hb)
     replace BK210 := Qx (Qb (kB_ BK210) hb)
     replace BK211 := Qx (Qb (kB_ BK211) hb)
     replace BK212 := Qx (Qb (kB_ BK212) hb)
     replace HB := Qx (Qp hB_ hb)
     (try clear hb); (try clear hb2); (try clear hk); (try clear hi); (try clear ho0); obtain ⟨Ao43, co43, eo43⟩ := Kd.R_slice HO217.out
     (first | subst eo43 | (injection eo43 with f1_ f2_ f3_; have f4_ := f1_.symm; have f5_ := f3_.symm; clear f1_ f2_ f3_; subst f4_; subst f5_))
     obtain ⟨Ao44, co44, eo44⟩ := Kd.R_slice HO220.out
     (first | subst eo44 | (injection eo44 with f1_ f2_ f3_; have f4_ := f1_.symm; have f5_ := f3_.symm; clear f1_ f2_ f3_; subst f4_; subst f5_))
     refine hK.out _ _ ⟨(Qc BK210.out 0).trans rfl, (Qc BK210.out 1).trans rfl, (Qc BK210.out 2).trans rfl, (Qc BK210.out 3).trans rfl, (Qc BK210.out 4).trans rfl, (Qc BK210.out 5).trans rfl, (Qc BK210.out 6).trans rfl, (Qc BK211.out 0).trans rfl, (Qc BK211.out 1).trans rfl, (Qc BK211.out 2).trans rfl, (Qc BK211.out 3).trans rfl, (Qc BK211.out 4).trans rfl, (Qc BK211.out 5).trans rfl, (Qc BK211.out 6).trans rfl⟩ (fun hHeld => ?_)
     clear hK K
     refine norm_ (a' := ?_) ?_ ?_
     rotate_left
     ·show Act.put _ (some 26) _ = _
      simp only [Act.put, List.setIfInBounds_toArray, List.set_cons_zero, List.set_cons_succ, i64_w]
      rfl
     refine one_ (i := 4) (N := some 27) (bsA 13 511) rfl rfl (one_of HT_.out (by kernel_rfl)) (by decide) (fun K hK => ?_)
     refine goes_ Try.func14 (by kernel_rfl) rfl #[.slice Ao43 t215.length co43, .slice Ao44 t218.length co44] (by rfl) rfl rfl (by (try simp only [List.map_toArray, List.map_cons, List.map_nil]); first | done | rfl | (simp only [List.length_drop, List.length_take]; rfl)) ?_
     with_reducible refine (spec_spMerge.calls kj2 _ _ t215 _ _ t218 t221 _ ?side1 ?side2 ?side3 ?side4 A37.out).mono ?_
     (case side1 => exact kD_ HO217)
     (case side2 => exact (Kd.R_reads' HO217.out).2.1)
     (case side3 => exact kD_ HO220)
     (case side4 => exact (Kd.R_reads' HO220.out).2.1)
     rintro e w45 ⟨v222, rfl, ho0, hb⟩
     refine ⟨_, rfl, ?_⟩
     have HO223 := Qx (Kd.R_lower (Kd.R_new' (Kd.R_new' ho0 (Kd.R_lt (kR_ HO217))) (Kd.R_lt (kR_ HO220))) (Qz hB_))
     replace HO217 := Qx (Kd.R_elder' (kR_ HO217) (Kd.R_base ho0) hb)
     replace HO220 := Qx (Kd.R_elder' (kR_ HO220) (Kd.R_base ho0) hb)
     replace BK210 := Qx (Qb (kB_ BK210) hb)
     replace BK211 := Qx (Qb (kB_ BK211) hb)
     replace BK212 := Qx (Qb (kB_ BK212) hb)
     replace HB := Qx (Qp hB_ hb)
     (try clear hb); (try clear hb2); (try clear hk); (try clear hi); (try clear ho0)
     refine hK.out _ _ ⟨(Qc BK210.out 0).trans rfl, (Qc BK210.out 1).trans rfl, (Qc BK210.out 2).trans rfl, (Qc BK210.out 3).trans rfl, (Qc BK210.out 4).trans rfl, (Qc BK210.out 5).trans rfl, (Qc BK210.out 6).trans rfl, (Qc BK211.out 0).trans rfl, (Qc BK211.out 1).trans rfl, (Qc BK211.out 2).trans rfl, (Qc BK211.out 3).trans rfl, (Qc BK211.out 4).trans rfl, (Qc BK211.out 5).trans rfl, (Qc BK211.out 6).trans rfl⟩ (fun hHeld => ?_)
     clear hK K
     refine norm_ (a' := ?_) ?_ ?_
     rotate_left
     ·show Act.put _ (some 27) _ = _
      simp only [Act.put, List.setIfInBounds_toArray, List.set_cons_zero, List.set_cons_succ, i64_w]
      rfl
     refine one_ (i := 9) (N := some 32) (bsA 13 1023) rfl rfl (one_of HT_.out (by kernel_rfl)) (by decide) (fun K hK => ?_)
     refine goes_ Try.func16 (by kernel_rfl) rfl #[.int .i64 a0_1, .int .i64 a1_1] (by rfl) rfl rfl (by (try simp only [List.map_toArray, List.map_cons, List.map_nil]); first | done | rfl | (simp only [List.length_drop, List.length_take]; rfl)) ?_
     with_reducible refine (spec_l1Most.calls a0_1 a1_1 t224 _ A38.out).mono ?_
     rintro e w' ⟨rfl, ⟨nd, rfl⟩⟩
     refine ⟨_, rfl, ?_⟩
     obtain ⟨Ao46, co46, eo46⟩ := Kd.R_slice HO223.out
     (first | subst eo46 | (injection eo46 with f1_ f2_ f3_; have f4_ := f1_.symm; have f5_ := f3_.symm; clear f1_ f2_ f3_; subst f4_; subst f5_))
     refine hK.out _ _ ⟨(Qc BK210.out 0).trans rfl, (Qc BK210.out 1).trans rfl, (Qc BK210.out 2).trans rfl, (Qc BK210.out 3).trans rfl, (Qc BK210.out 4).trans rfl, (Qc BK210.out 5).trans rfl, (Qc BK210.out 6).trans rfl, (Qc BK211.out 0).trans rfl, (Qc BK211.out 1).trans rfl, (Qc BK211.out 2).trans rfl, (Qc BK211.out 3).trans rfl, (Qc BK211.out 4).trans rfl, (Qc BK211.out 5).trans rfl, (Qc BK211.out 6).trans rfl⟩ (fun hHeld => ?_)
     clear hK K
     refine norm_ (a' := ?_) ?_ ?_
     rotate_left
     ·show Act.put _ (some 32) _ = _
      simp only [Act.put, List.setIfInBounds_toArray, List.set_cons_zero, List.set_cons_succ, i64_w]
      rfl
     refine one_ (i := 10) (N := some 33) (bsA 13 2047) rfl rfl (one_of HT_.out (by kernel_rfl)) (by decide) (fun K hK => ?_)
     refine goes_ Try.func13 (by kernel_rfl) rfl #[.slice Ao46 t221.length co46, .int .i64 t224] (by rfl) rfl rfl (by (try simp only [List.map_toArray, List.map_cons, List.map_nil]); first | done | rfl | (simp only [List.length_drop, List.length_take]; rfl)) ?_
     with_reducible refine (spec_spOf.calls kj2 _ _ t221 t224 t225 t226 t227 t228 t229 t232 t233 _ ?side1 ?side2 A39.out).mono ?_
     (case side1 => exact kD_ HO223)
     (case side2 => exact (Kd.R_reads' HO223.out).2.1)
     rintro e w47 ⟨v230, v234, rfl, ho0, ho1, hb⟩
     refine ⟨_, rfl, ?_⟩
     have HO231 := Qx (Kd.R_lower (Kd.R_new' (Kd.R_new' (Kd.R_new' ho0 (Kd.R_lt (kR_ HO217))) (Kd.R_lt (kR_ HO220))) (Kd.R_lt (kR_ HO223))) (Qz hB_))
     have HO235 := Qx (Kd.R_lower (Kd.R_new' (Kd.R_new' (Kd.R_new' ho1 (Kd.R_lt (kR_ HO217))) (Kd.R_lt (kR_ HO220))) (Kd.R_lt (kR_ HO223))) (Qz hB_))
     replace HO217 := Qx (Qrm (Kd.R_told (Kd.R_told (Kd.R_old (kR_ HO217) hb) (Kd.R_base ho0)) (Kd.R_base ho1)) (fun _ h_ => h_.1))
     replace HO220 := Qx (Qrm (Kd.R_told (Kd.R_told (Kd.R_old (kR_ HO220) hb) (Kd.R_base ho0)) (Kd.R_base ho1)) (fun _ h_ => h_.1))
     replace HO223 := Qx (Qrm (Kd.R_told (Kd.R_told (Kd.R_old (kR_ HO223) hb) (Kd.R_base ho0)) (Kd.R_base ho1)) (fun _ h_ => h_.1))
     replace BK210 := Qx (Qb (kB_ BK210) hb)
     replace BK211 := Qx (Qb (kB_ BK211) hb)
     replace BK212 := Qx (Qb (kB_ BK212) hb)
     replace HB := Qx (Qp hB_ hb)
     (try clear hb); (try clear hb2); (try clear hk); (try clear hi); (try clear ho0); (try clear ho1); obtain ⟨Ao52, co52, eo52⟩ := Kd.R_slice HO231.out
     (first | subst eo52 | (injection eo52 with f1_ f2_ f3_; have f4_ := f1_.symm; have f5_ := f3_.symm; clear f1_ f2_ f3_; subst f4_; subst f5_))
     obtain ⟨Ao55, co55, eo55⟩ := Kd.R_slice HO235.out
     (first | subst eo55 | (injection eo55 with f1_ f2_ f3_; have f4_ := f1_.symm; have f5_ := f3_.symm; clear f1_ f2_ f3_; subst f4_; subst f5_))
     refine hK.out _ _ ⟨(Qc BK210.out 0).trans rfl, (Qc BK210.out 1).trans rfl, (Qc BK210.out 2).trans rfl, (Qc BK210.out 3).trans rfl, (Qc BK210.out 4).trans rfl, (Qc BK210.out 5).trans rfl, (Qc BK210.out 6).trans rfl, (Qc BK211.out 0).trans rfl, (Qc BK211.out 1).trans rfl, (Qc BK211.out 2).trans rfl, (Qc BK211.out 3).trans rfl, (Qc BK211.out 4).trans rfl, (Qc BK211.out 5).trans rfl, (Qc BK211.out 6).trans rfl⟩ (fun hHeld => ?_)
     clear hK K
     refine norm_ (a' := ?_) ?_ ?_
     rotate_left
     ·show Act.put _ (some 33) _ = _
      simp only [Act.put, List.setIfInBounds_toArray, List.set_cons_zero, List.set_cons_succ, i64_w]
      rfl
     refine one_ (i := 11) (N := none) (bsA 13 4095) rfl rfl (one_of HT_.out (by kernel_rfl)) (by decide) (fun K hK => ?_)
     have hs48 : w47.cell? ⟨gb212, 0, none⟩ = some (.int .i64 0) := (Qc BK212.out 0).trans rfl
     have hfs48 := blk_frozen BK212.out 0; have hns48_0 := NB210_212.out; have hns48_1 := NB211_212.out; have hms48_0 := NB212_210.out; have hms48_1 := NB212_211.out
     have hs49 : w47.cell? ⟨gb212, 1, none⟩ = some (.int .i64 0) := (Qc BK212.out 1).trans rfl
     have hfs49 := blk_frozen BK212.out 1; have hns49_0 := NB210_212.out; have hns49_1 := NB211_212.out; have hms49_0 := NB212_210.out; have hms49_1 := NB212_211.out
     have hs50 : w47.cell? ⟨gb212, 2, none⟩ = some (.int .i64 0) := (Qc BK212.out 2).trans rfl
     have hfs50 := blk_frozen BK212.out 2; have hns50_0 := NB210_212.out; have hns50_1 := NB211_212.out; have hms50_0 := NB212_210.out; have hms50_1 := NB212_211.out
     have hs51 : w47.cell? ⟨gb212, 3, none⟩ = some (.int .i64 0) := (Qc BK212.out 3).trans rfl
     have hfs51 := blk_frozen BK212.out 3; have hns51_0 := NB210_212.out; have hns51_1 := NB211_212.out; have hms51_0 := NB212_210.out; have hms51_1 := NB212_211.out
     have hs53 : w47.cell? ⟨gb212, 4, none⟩ = some (.slice none 0 0) := (Qc BK212.out 4).trans rfl
     have hfs53 := blk_frozen BK212.out 4; have hns53_0 := NB210_212.out; have hns53_1 := NB211_212.out; have hms53_0 := NB212_210.out; have hms53_1 := NB212_211.out
     have hs54 : w47.cell? ⟨gb212, 5, none⟩ = some (.int .i64 0) := (Qc BK212.out 5).trans rfl
     have hfs54 := blk_frozen BK212.out 5; have hns54_0 := NB210_212.out; have hns54_1 := NB211_212.out; have hms54_0 := NB212_210.out; have hms54_1 := NB212_211.out
     have hs56 : w47.cell? ⟨gb212, 6, none⟩ = some (.slice none 0 0) := (Qc BK212.out 6).trans rfl
     have hfs56 := blk_frozen BK212.out 6; have hns56_0 := NB210_212.out; have hns56_1 := NB211_212.out; have hms56_0 := NB212_210.out; have hms56_1 := NB212_211.out
     refine skip_ (w1 := ?_) (by rfl) rfl ?_ ?_
     rotate_left
     ·go_simp
      rfl
     refine hK.out _ _ ⟨((cell_far (p := ⟨gb212, _, none⟩) NB210_212.out _).trans (((cell_far (p := ⟨gb212, _, none⟩) NB210_212.out _).trans (((cell_far (p := ⟨gb212, _, none⟩) NB210_212.out _).trans (((cell_far (p := ⟨gb212, _, none⟩) NB210_212.out _).trans (((cell_far (p := ⟨gb212, _, none⟩) NB210_212.out _).trans (((cell_far (p := ⟨gb212, _, none⟩) NB210_212.out _).trans (((cell_far (p := ⟨gb212, _, none⟩) NB210_212.out _).trans (hHeld.1)))))))))))))), ((cell_far (p := ⟨gb212, _, none⟩) NB210_212.out _).trans (((cell_far (p := ⟨gb212, _, none⟩) NB210_212.out _).trans (((cell_far (p := ⟨gb212, _, none⟩) NB210_212.out _).trans (((cell_far (p := ⟨gb212, _, none⟩) NB210_212.out _).trans (((cell_far (p := ⟨gb212, _, none⟩) NB210_212.out _).trans (((cell_far (p := ⟨gb212, _, none⟩) NB210_212.out _).trans (((cell_far (p := ⟨gb212, _, none⟩) NB210_212.out _).trans (hHeld.2.1)))))))))))))), ((cell_far (p := ⟨gb212, _, none⟩) NB210_212.out _).trans (((cell_far (p := ⟨gb212, _, none⟩) NB210_212.out _).trans (((cell_far (p := ⟨gb212, _, none⟩) NB210_212.out _).trans (((cell_far (p := ⟨gb212, _, none⟩) NB210_212.out _).trans (((cell_far (p := ⟨gb212, _, none⟩) NB210_212.out _).trans (((cell_far (p := ⟨gb212, _, none⟩) NB210_212.out _).trans (((cell_far (p := ⟨gb212, _, none⟩) NB210_212.out _).trans (hHeld.2.2.1)))))))))))))), ((cell_far (p := ⟨gb212, _, none⟩) NB210_212.out _).trans (((cell_far (p := ⟨gb212, _, none⟩) NB210_212.out _).trans (((cell_far (p := ⟨gb212, _, none⟩) NB210_212.out _).trans (((cell_far (p := ⟨gb212, _, none⟩) NB210_212.out _).trans (((cell_far (p := ⟨gb212, _, none⟩) NB210_212.out _).trans (((cell_far (p := ⟨gb212, _, none⟩) NB210_212.out _).trans (((cell_far (p := ⟨gb212, _, none⟩) NB210_212.out _).trans (hHeld.2.2.2.1)))))))))))))), ((cell_far (p := ⟨gb212, _, none⟩) NB210_212.out _).trans (((cell_far (p := ⟨gb212, _, none⟩) NB210_212.out _).trans (((cell_far (p := ⟨gb212, _, none⟩) NB210_212.out _).trans (((cell_far (p := ⟨gb212, _, none⟩) NB210_212.out _).trans (((cell_far (p := ⟨gb212, _, none⟩) NB210_212.out _).trans (((cell_far (p := ⟨gb212, _, none⟩) NB210_212.out _).trans (((cell_far (p := ⟨gb212, _, none⟩) NB210_212.out _).trans (hHeld.2.2.2.2.1)))))))))))))), ((cell_far (p := ⟨gb212, _, none⟩) NB210_212.out _).trans (((cell_far (p := ⟨gb212, _, none⟩) NB210_212.out _).trans (((cell_far (p := ⟨gb212, _, none⟩) NB210_212.out _).trans (((cell_far (p := ⟨gb212, _, none⟩) NB210_212.out _).trans (((cell_far (p := ⟨gb212, _, none⟩) NB210_212.out _).trans (((cell_far (p := ⟨gb212, _, none⟩) NB210_212.out _).trans (((cell_far (p := ⟨gb212, _, none⟩) NB210_212.out _).trans (hHeld.2.2.2.2.2.1)))))))))))))), ((cell_far (p := ⟨gb212, _, none⟩) NB210_212.out _).trans (((cell_far (p := ⟨gb212, _, none⟩) NB210_212.out _).trans (((cell_far (p := ⟨gb212, _, none⟩) NB210_212.out _).trans (((cell_far (p := ⟨gb212, _, none⟩) NB210_212.out _).trans (((cell_far (p := ⟨gb212, _, none⟩) NB210_212.out _).trans (((cell_far (p := ⟨gb212, _, none⟩) NB210_212.out _).trans (((cell_far (p := ⟨gb212, _, none⟩) NB210_212.out _).trans (hHeld.2.2.2.2.2.2.1)))))))))))))), ((cell_far (p := ⟨gb212, _, none⟩) NB211_212.out _).trans (((cell_far (p := ⟨gb212, _, none⟩) NB211_212.out _).trans (((cell_far (p := ⟨gb212, _, none⟩) NB211_212.out _).trans (((cell_far (p := ⟨gb212, _, none⟩) NB211_212.out _).trans (((cell_far (p := ⟨gb212, _, none⟩) NB211_212.out _).trans (((cell_far (p := ⟨gb212, _, none⟩) NB211_212.out _).trans (((cell_far (p := ⟨gb212, _, none⟩) NB211_212.out _).trans (hHeld.2.2.2.2.2.2.2.1)))))))))))))), ((cell_far (p := ⟨gb212, _, none⟩) NB211_212.out _).trans (((cell_far (p := ⟨gb212, _, none⟩) NB211_212.out _).trans (((cell_far (p := ⟨gb212, _, none⟩) NB211_212.out _).trans (((cell_far (p := ⟨gb212, _, none⟩) NB211_212.out _).trans (((cell_far (p := ⟨gb212, _, none⟩) NB211_212.out _).trans (((cell_far (p := ⟨gb212, _, none⟩) NB211_212.out _).trans (((cell_far (p := ⟨gb212, _, none⟩) NB211_212.out _).trans (hHeld.2.2.2.2.2.2.2.2.1)))))))))))))), ((cell_far (p := ⟨gb212, _, none⟩) NB211_212.out _).trans (((cell_far (p := ⟨gb212, _, none⟩) NB211_212.out _).trans (((cell_far (p := ⟨gb212, _, none⟩) NB211_212.out _).trans (((cell_far (p := ⟨gb212, _, none⟩) NB211_212.out _).trans (((cell_far (p := ⟨gb212, _, none⟩) NB211_212.out _).trans (((cell_far (p := ⟨gb212, _, none⟩) NB211_212.out _).trans (((cell_far (p := ⟨gb212, _, none⟩) NB211_212.out _).trans (hHeld.2.2.2.2.2.2.2.2.2.1)))))))))))))), ((cell_far (p := ⟨gb212, _, none⟩) NB211_212.out _).trans (((cell_far (p := ⟨gb212, _, none⟩) NB211_212.out _).trans (((cell_far (p := ⟨gb212, _, none⟩) NB211_212.out _).trans (((cell_far (p := ⟨gb212, _, none⟩) NB211_212.out _).trans (((cell_far (p := ⟨gb212, _, none⟩) NB211_212.out _).trans (((cell_far (p := ⟨gb212, _, none⟩) NB211_212.out _).trans (((cell_far (p := ⟨gb212, _, none⟩) NB211_212.out _).trans (hHeld.2.2.2.2.2.2.2.2.2.2.1)))))))))))))), ((cell_far (p := ⟨gb212, _, none⟩) NB211_212.out _).trans (((cell_far (p := ⟨gb212, _, none⟩) NB211_212.out _).trans (((cell_far (p := ⟨gb212, _, none⟩) NB211_212.out _).trans (((cell_far (p := ⟨gb212, _, none⟩) NB211_212.out _).trans (((cell_far (p := ⟨gb212, _, none⟩) NB211_212.out _).trans (((cell_far (p := ⟨gb212, _, none⟩) NB211_212.out _).trans (((cell_far (p := ⟨gb212, _, none⟩) NB211_212.out _).trans (hHeld.2.2.2.2.2.2.2.2.2.2.2.1)))))))))))))), ((cell_far (p := ⟨gb212, _, none⟩) NB211_212.out _).trans (((cell_far (p := ⟨gb212, _, none⟩) NB211_212.out _).trans (((cell_far (p := ⟨gb212, _, none⟩) NB211_212.out _).trans (((cell_far (p := ⟨gb212, _, none⟩) NB211_212.out _).trans (((cell_far (p := ⟨gb212, _, none⟩) NB211_212.out _).trans (((cell_far (p := ⟨gb212, _, none⟩) NB211_212.out _).trans (((cell_far (p := ⟨gb212, _, none⟩) NB211_212.out _).trans (hHeld.2.2.2.2.2.2.2.2.2.2.2.2.1)))))))))))))), ((cell_far (p := ⟨gb212, _, none⟩) NB211_212.out _).trans (((cell_far (p := ⟨gb212, _, none⟩) NB211_212.out _).trans (((cell_far (p := ⟨gb212, _, none⟩) NB211_212.out _).trans (((cell_far (p := ⟨gb212, _, none⟩) NB211_212.out _).trans (((cell_far (p := ⟨gb212, _, none⟩) NB211_212.out _).trans (((cell_far (p := ⟨gb212, _, none⟩) NB211_212.out _).trans (((cell_far (p := ⟨gb212, _, none⟩) NB211_212.out _).trans (hHeld.2.2.2.2.2.2.2.2.2.2.2.2.2))))))))))))))⟩ (fun hHeld => ?_)
     clear hK K
     refine pr_ 12 5 13 8191 ?_
     refine done_ (done_of HT_.out (by kernel_rfl)) ?_
     try go_wp2
     refine bodyPost_ret (results_ct rfl _ _ gb212 30 #[.int .i64 t225, .int .i64 t226, .int .i64 t227, .int .i64 t228, .slice Ao52 t229.length co52, .int .i64 t232, .slice Ao55 t233.length co55] (0, 0) _ rfl (by (with_reducible repeat (first | refine Qm ?_ _ | refine Qw ?_ | refine Qk ?_ _)); refine Qu (cs := #[.int .i64 t225, .int .i64 t226, .int .i64 t227, .int .i64 t228, .slice Ao52 t229.length co52, .int .i64 t232, .slice none 0 0]) ?_ 6 _ rfl; (with_reducible repeat (first | refine Qm ?_ _ | refine Qw ?_ | refine Qk ?_ _)); refine Qu (cs := #[.int .i64 t225, .int .i64 t226, .int .i64 t227, .int .i64 t228, .slice Ao52 t229.length co52, .int .i64 0, .slice none 0 0]) ?_ 5 _ rfl; (with_reducible repeat (first | refine Qm ?_ _ | refine Qw ?_ | refine Qk ?_ _)); refine Qu (cs := #[.int .i64 t225, .int .i64 t226, .int .i64 t227, .int .i64 t228, .slice none 0 0, .int .i64 0, .slice none 0 0]) ?_ 4 _ rfl; (with_reducible repeat (first | refine Qm ?_ _ | refine Qw ?_ | refine Qk ?_ _)); refine Qu (cs := #[.int .i64 t225, .int .i64 t226, .int .i64 t227, .int .i64 0, .slice none 0 0, .int .i64 0, .slice none 0 0]) ?_ 3 _ rfl; (with_reducible repeat (first | refine Qm ?_ _ | refine Qw ?_ | refine Qk ?_ _)); refine Qu (cs := #[.int .i64 t225, .int .i64 t226, .int .i64 0, .int .i64 0, .slice none 0 0, .int .i64 0, .slice none 0 0]) ?_ 2 _ rfl; (with_reducible repeat (first | refine Qm ?_ _ | refine Qw ?_ | refine Qk ?_ _)); refine Qu (cs := #[.int .i64 t225, .int .i64 0, .int .i64 0, .int .i64 0, .slice none 0 0, .int .i64 0, .slice none 0 0]) ?_ 1 _ rfl; (with_reducible repeat (first | refine Qm ?_ _ | refine Qw ?_ | refine Qk ?_ _)); refine Qu (cs := #[.int .i64 0, .int .i64 0, .int .i64 0, .int .i64 0, .slice none 0 0, .int .i64 0, .slice none 0 0]) ?_ 0 _ rfl; (with_reducible repeat (first | refine Qm ?_ _ | refine Qw ?_ | refine Qk ?_ _)); exact BK212.out) Try.underlying30 rfl (by kernel_rfl)) rfl ?_
     exact ⟨_, _, rf_, by (with_reducible repeat (first | apply Kd.R_alloc | apply Kd.R_drewN | apply Kd.R_drew)); exact Qrm (farsQ7_g1c (Kd.R_types HO231.out BK212.out (by decide)) (fun _ hk => hk.2) (.int .i64 t225) (.int .i64 t226) (.int .i64 t227) (.int .i64 t228) (.slice Ao52 t229.length co52) (.int .i64 t232) (.slice Ao55 t233.length co55)) (fun _ hk => hk.1.1.1.1), by (with_reducible repeat (first | apply Kd.R_alloc | apply Kd.R_drewN | apply Kd.R_drew)); exact Qrm (farsQ7_g1c (Kd.R_types HO235.out BK212.out (by decide)) (fun _ hk => hk.2) (.int .i64 t225) (.int .i64 t226) (.int .i64 t227) (.int .i64 t228) (.slice Ao52 t229.length co52) (.int .i64 t232) (.slice Ao55 t233.length co55)) (fun _ hk => hk.1.1.1.1), hB_⟩
/-! ### laws_toIntS: function 36 -/
def laws_toIntS.l0 : Nat → List Int → List Int → Int → Option (List Int)
  | 0, _, _, _ => none
  | k + 1, x0, x3, x4 => if x4 < (x0.length : Int) then (if 0 ≤ x4 then (if x4 < (x3.length : Int) then (laws_toIntS.l0 k x0 (x3.set (x4 : Int).toNat (rd x0 x4)) (wrap64 (x4 + 1))) else (none)) else (none)) else (some x3)
def laws_toIntS.f (k : Nat) (l0 : List Int) : Option (List Int) := if 0 ≤ (l0.length : Int) then (if ((l0.length : Int) : Int).toNat ≤ 35184372088832 then (laws_toIntS.l0 k l0 (List.replicate ((l0.length : Int) : Int).toNat 0) 0) else (none)) else (none)
theorem laws_toIntS.mono_l : ∀ k, (∀ y0 y1 y2, LeO (laws_toIntS.l0 k y0 y1 y2) (laws_toIntS.l0 (k + 1) y0 y1 y2))
  | 0 => fun _ _ _ r h => by simp [laws_toIntS.l0] at h
  | k + 1 => by
    have ih0 := laws_toIntS.mono_l k
    · intro y0 y1 y2
      unfold laws_toIntS.l0
      repeat' first
      | (with_reducible exact ih0 _ _ _)
      | (with_reducible exact LeO.refl _)
      | (with_reducible exact LeO.none _)
      | (with_reducible refine LeO.ite ?_ ?_)
      | (with_reducible refine LeO.bind ?_ (fun _ => ?_))
      | exact ih0 _ _ _
      | exact LeO.none _
      | refine LeO.ite ?_ ?_
      | refine LeO.bind ?_ (fun _ => ?_)
theorem laws_toIntS.mono : ∀ a0 k, LeO (laws_toIntS.f k a0) (laws_toIntS.f (k + 1) a0) := by
  intro a0 k
  have ih0 := laws_toIntS.mono_l k
  unfold laws_toIntS.f
  repeat' first
      | (with_reducible exact ih0 _ _ _)
      | (with_reducible exact LeO.refl _)
      | (with_reducible exact LeO.none _)
      | (with_reducible refine LeO.ite ?_ ?_)
      | (with_reducible refine LeO.bind ?_ (fun _ => ?_))
      | exact ih0 _ _ _
      | exact LeO.none _
      | refine LeO.ite ?_ ?_
      | refine LeO.bind ?_ (fun _ => ?_)
noncomputable def laws_toIntS.L0 (y0 : List Int) (y1 : List Int) (y2 : Int) : Option (List Int) := lim fun k => laws_toIntS.l0 k y0 y1 y2
theorem laws_toIntS.L0_sup (y0 : List Int) (y1 : List Int) (y2 : Int) : Sup (fun k => laws_toIntS.l0 k y0 y1 y2) (laws_toIntS.L0 y0 y1 y2) := Sup.of_mono fun k => laws_toIntS.mono_l k y0 y1 y2
noncomputable def laws_toIntS.F (l0 : List Int) : Option (List Int) := lim fun k => laws_toIntS.f k l0
theorem laws_toIntS.F_sup (l0 : List Int) : Sup (fun k => laws_toIntS.f k l0) (laws_toIntS.F l0) := Sup.of_mono fun k => laws_toIntS.mono l0 k
theorem laws_toIntS.L0_eq (x0 : List Int) (x3 : List Int) (x4 : Int) : laws_toIntS.L0 x0 x3 x4 = if x4 < (x0.length : Int) then (if 0 ≤ x4 then (if x4 < (x3.length : Int) then (laws_toIntS.L0 x0 (x3.set (x4 : Int).toNat (rd x0 x4)) (wrap64 (x4 + 1))) else (none)) else (none)) else (some x3) := by
  refine Sup.unique (laws_toIntS.L0_sup x0 x3 x4) (Sup.shift (fun k => laws_toIntS.mono_l k x0 x3 x4) (Sup.congr (g' := fun k => if x4 < (x0.length : Int) then (if 0 ≤ x4 then (if x4 < (x3.length : Int) then (laws_toIntS.l0 k x0 (x3.set (x4 : Int).toNat (rd x0 x4)) (wrap64 (x4 + 1))) else (none)) else (none)) else (some x3)) (fun k => by first | rfl | simp only [laws_toIntS.l0]) ?_))
  repeat' first
    | (with_reducible exact laws_toIntS.L0_sup _ _ _)
    | (with_reducible refine Sup.ite ?_ ?_)
    | (with_reducible refine Sup.bind ?_ (fun _ => ?_))
    | (with_reducible exact Sup.const _)
    | exact laws_toIntS.L0_sup _ _ _
    | exact Sup.const _
theorem laws_toIntS.F_eq (l0 : List Int) : laws_toIntS.F l0 = if 0 ≤ (l0.length : Int) then (if ((l0.length : Int) : Int).toNat ≤ 35184372088832 then (laws_toIntS.L0 l0 (List.replicate ((l0.length : Int) : Int).toNat 0) 0) else (none)) else (none) := by
  refine Sup.unique (laws_toIntS.F_sup l0) (Sup.congr (g' := fun k => if 0 ≤ (l0.length : Int) then (if ((l0.length : Int) : Int).toNat ≤ 35184372088832 then (laws_toIntS.l0 k l0 (List.replicate ((l0.length : Int) : Int).toNat 0) 0) else (none)) else (none)) (fun k => by first | rfl | simp only [laws_toIntS.f]) ?_)
  repeat' first
    | (with_reducible exact laws_toIntS.L0_sup _ _ _)
    | (with_reducible refine Sup.ite ?_ ?_)
    | (with_reducible refine Sup.bind ?_ (fun _ => ?_))
    | (with_reducible exact Sup.const _)
    | exact laws_toIntS.L0_sup _ _ _
    | exact Sup.const _
set_option maxHeartbeats 8000000 in
set_option maxRecDepth 100000 in
theorem laws_toIntS.calls (k : Nat) (A0 : Option Addr) (c0 : Nat) (l0 : List Int) (r : List Int) (w : World) (hr0 : Kd.C (Kd.int .i64) w A0 l0.length l0) (hc0 : l0.length ≤ c0) (h : laws_toIntS.f k l0 = some r) :
    Calls Try.prog 36 #[.slice A0 l0.length c0] w fun e w' => ∃ v0_ : Value, e = .returned (v0_) ∧ Kd.R (Kd.int .i64) 3 w' w.heap.size (fun _ => True) v0_ r ∧ Below w.heap.size w w' := by
  have HR0 := Qx hr0; have HC0 := Qx hc0; clear hr0 hc0
  have HB := Qx (Below.refl w.heap.size w)
  have H : (if 0 ≤ (l0.length : Int) then (if ((l0.length : Int) : Int).toNat ≤ 35184372088832 then (laws_toIntS.l0 k l0 (List.replicate ((l0.length : Int) : Int).toNat 0) 0) else (none)) else (none)) = some r := h
  clear h
  by_cases c2 : 0 ≤ (l0.length : Int)
  ·rw [if_pos c2] at H; have c2b0 := eq_true c2
   have c2b1 : decide (0 ≤ (l0.length : Int)) = true := decide_eq_true c2
   clear c2
   by_cases c3 : ((l0.length : Int) : Int).toNat ≤ 35184372088832
   ·rw [if_pos c3] at H; have c3b0 := eq_true c3
    have c3b1 : decide (((l0.length : Int) : Int).toNat ≤ 35184372088832) = true := decide_eq_true c3
    clear c3
    obtain ⟨y236, hy236⟩ : ∃ y_ : List Int, y_ = (List.replicate ((l0.length : Int) : Int).toNat 0) := ⟨_, rfl⟩
    replace H : (laws_toIntS.l0 k l0 y236 0) = some r := by first | (rw [hy236]; with_reducible exact H) | (have H2_ := (Option.bind_some _ _).symm.trans H; rw [hy236]; with_reducible exact H2_) | (have H2_ := (Option.bind_some _ _).symm.trans H; with_reducible exact H2_) | with_reducible exact H | (rw [hy236]; exact H) | exact H
    have Ny236 := Qx hy236; clear hy236; have H' := Qx H; clear H
    go_enter Try.func36, Try.ntmps36
    go_wp2_with (first | ((with_reducible refine gate_dst (N := 7) rfl ?_); refine Kd.R_make (Kd.int .i64) _ 3 rfl (N := 7) rfl 22 _ _ rfl (l0.length : Int) rfl rfl Try.underlying22 (.int .i64 0) 8 info3 rfl (by decide) (by omega) 0 (ok := fun _ => True) (okp := fun _ => True) rfl (fun _ hk => hk) trivial (of_decide_eq_true as_) (Nat.le_trans (Nat.mul_le_mul_right _ (of_decide_eq_true as_ : (l0.length : Int).toNat ≤ 35184372088832)) (by omega)) (Below.refl _ _) (Nat.le_refl _) ?_; intro v237 w4 ho5 hb hg_ hnew_; clear hg_ hnew_; (first | rw [← Ny236.out] at ho5 | (simp only [Int.reduceToNat] at ho5; rw [← Ny236.out] at ho5)); have HO238 := Qx (Kd.R_lower ho5 (Qz hB_)); replace HB := Qx (Qp hB_ hb); clear hb ho5))
    go_loopg [4] k (fun kq v4 w' => ∃ (x3_1 : List Int) (x4_1 : Int), v4 = .int .i64 x4_1 ∧ Aside0 (laws_toIntS.l0 kq l0 x3_1 x4_1 = some r) ∧ Aside0 (kq ≤ k) ∧ Aside0 (Kd.R (Kd.int .i64) 3 w' w.heap.size (fun _ => True) v237 x3_1) ∧ Aside0 (Below w.heap.size w w'))
    case atStart => exact ⟨(y236), (0), rg_, H', ⟨Nat.le_refl _⟩, ⟨kR_ HO238⟩, ⟨hB_⟩⟩
    case round =>
     clear H'
     try clear c2
     try clear c2b0
     try clear c2b1
     try clear p2
     try clear c3
     try clear c3b0
     try clear c3b1
     obtain ⟨x3_1, x4_1, rfl, HA, HK1, HO_3, HB⟩ := hrel
     cases gk with
     | zero => exact absurd HA.out (by simp [laws_toIntS.l0])
     | succ k1 =>
      have H := HA.out; clear HA; simp only [laws_toIntS.l0] at H
      by_cases c6 : x4_1 < (l0.length : Int)
      ·rw [if_pos c6] at H
       have c6b0 : decide (x4_1 < (l0.length : Int)) = true := decide_eq_true c6
       clear c6
       by_cases c7 : 0 ≤ x4_1
       ·rw [if_pos c7] at H
        have c7b0 : decide (0 ≤ x4_1) = true := decide_eq_true c7
        clear c7
        by_cases c8 : x4_1 < (x3_1.length : Int)
        ·rw [if_pos c8] at H
         have c8b0 : decide (x4_1 < (x3_1.length : Int)) = true := decide_eq_true c8
         clear c8
         obtain ⟨y240, hy240⟩ : ∃ y_ : List Int, y_ = (x3_1.set (x4_1 : Int).toNat (rd l0 x4_1)) := ⟨_, rfl⟩
         replace H : (laws_toIntS.l0 k1 l0 y240 (wrap64 (x4_1 + 1))) = some r := by first | (rw [hy240]; with_reducible exact H) | (have H2_ := (Option.bind_some _ _).symm.trans H; rw [hy240]; with_reducible exact H2_) | (have H2_ := (Option.bind_some _ _).symm.trans H; with_reducible exact H2_) | with_reducible exact H | (rw [hy240]; exact H) | exact H
         have Ny240 := Qx hy240; clear hy240; have H' := Qx H; clear H
         have p239 : 0 ≤ (x4_1 : Int) := of_decide_eq_true as_
         have q239 : x4_1 < (l0.length : Int) := of_decide_eq_true as_
         obtain ⟨ad239, e239, hx239_0⟩ := Kd.at_int HR0.out x4_1 p239 q239
         cases e239
         replace hx239_0 := (HB.out.cell (World.block_lt_of_cell? w _ hx239_0)).trans hx239_0
         replace p239 := eq_true p239; replace q239 := eq_true q239
         have p9 : 0 ≤ (x4_1 : Int) := of_decide_eq_true as_
         have q9 : (x4_1 : Int) < ((x3_1.length : Int) : Int) := of_decide_eq_true as_
         obtain ⟨go9, co9, eo9, gb9, gl9, cl9, HG9⟩ := Kd.R_form HO_3.out (by omega)
         (first | cases eo9 | (injection eo9 with ea_ en_ ec_; (first | subst ea_ | (injection ea_ with ea_; subst ea_)); subst ec_; clear en_))
         have GB9 := Qx gb9; have GG9 := Qx HG9; clear gb9 gl9 HG9
         obtain ⟨hx9_0, hf9_0⟩ := Kd.R_celln 0 HO_3.out (x4_1 : Int) p9 q9
         replace p9 := eq_true p9; replace q9 := eq_true q9
         have HP10 := Kd.R_putg HO_3.out (x4_1 : Int) (rd l0 x4_1)
         go_wp2_with (first | ((with_reducible refine gate_store (t := 3) (p := 20) rfl ?_); refine store_event (t := 3) (p := 20) (v := ?vo_w11) (w1 := (wr.setCell ⟨go9, (x4_1 : Int).toNat, none⟩ (.int .i64 (rd l0 x4_1)))) ?hg ?ho ?hn ?hr ?_; (case ho => rfl); (case hg => rfl); (case hn => rfl); (case hr => first | (go_simp; done) | (go_simp; rfl)); intro w11 hw; have hg : wr.grownBy w11 (some go9) := (by rw [hw]; exact HP10.2); have hp_ : Kd.R (Kd.int .i64) 3 w11 w.heap.size (fun _ => True) (.slice (some ⟨go9, 0, none⟩) x3_1.length co9) y240 := (by rw [hw, Ny240.out]; exact HP10.1); clear HP10; replace HO_3 := Qx (hp_); replace HB := Qx ((by rw [hw]; exact below_set (HB.out) GB9.out : Below w.heap.size w w11)); clear hg hw hp_))
         go_roundg k1
         case measure => have := HK1.out; omega
         case rel => exact ⟨(y240), (wrap64 (x4_1 + 1)), rg_, H', ⟨by have := HK1.out; omega⟩, ⟨kR_ HO_3⟩, ⟨hB_⟩⟩
        ·rw [if_neg c8] at H
         exact absurd H (by simp)
       ·rw [if_neg c7] at H
        exact absurd H (by simp)
      ·rw [if_neg c6] at H
       have c6b0 : decide (x4_1 < (l0.length : Int)) = false := decide_eq_false c6
       clear c6; obtain rfl := Option.some.inj H
       go_wp2
       go_ret
       exact ⟨_, rf_, kR_ HO_3, hB_⟩
   ·rw [if_neg c3] at H
    exact absurd H (by simp)
  ·rw [if_neg c2] at H
   exact absurd H (by simp)
/-! ### laws_toBits: function 17 -/
def laws_toBits.f (k : Nat) (a0_0 : Int) (l0_1 : List Int) : Option (Int × List Int) := (laws_toIntS.f k l0_1).bind fun t244 => (some (a0_0, t244))
theorem laws_toBits.mono : ∀ a0 a1 k, LeO (laws_toBits.f k a0 a1) (laws_toBits.f (k + 1) a0 a1) := by
  intro a0 a1 k
  unfold laws_toBits.f
  repeat' first
      | (with_reducible exact laws_toIntS.mono _ _)
      | (with_reducible exact LeO.refl _)
      | (with_reducible exact LeO.none _)
      | (with_reducible refine LeO.ite ?_ ?_)
      | (with_reducible refine LeO.bind ?_ (fun _ => ?_))
      | exact laws_toIntS.mono _ _
      | exact LeO.none _
      | refine LeO.ite ?_ ?_
      | refine LeO.bind ?_ (fun _ => ?_)
noncomputable def laws_toBits.F (a0_0 : Int) (l0_1 : List Int) : Option (Int × List Int) := lim fun k => laws_toBits.f k a0_0 l0_1
theorem laws_toBits.F_sup (a0_0 : Int) (l0_1 : List Int) : Sup (fun k => laws_toBits.f k a0_0 l0_1) (laws_toBits.F a0_0 l0_1) := Sup.of_mono fun k => laws_toBits.mono a0_0 l0_1 k
theorem laws_toBits.F_eq (a0_0 : Int) (l0_1 : List Int) : laws_toBits.F a0_0 l0_1 = (laws_toIntS.F l0_1).bind fun t244 => (some (a0_0, t244)) := by
  refine Sup.unique (laws_toBits.F_sup a0_0 l0_1) (Sup.congr (g' := fun k => (laws_toIntS.f k l0_1).bind fun t244 => (some (a0_0, t244))) (fun k => by first | rfl | simp only [laws_toBits.f]) ?_)
  repeat' first
    | (with_reducible exact laws_toIntS.F_sup _)
    | (with_reducible refine Sup.ite ?_ ?_)
    | (with_reducible refine Sup.bind ?_ (fun _ => ?_))
    | (with_reducible exact Sup.const _)
    | exact laws_toIntS.F_sup _
    | exact Sup.const _
set_option maxHeartbeats 8000000 in
set_option maxRecDepth 100000 in
theorem laws_toBits.calls (k : Nat) (a0_0 : Int) (A0_1 : Option Addr) (c0_1 : Nat) (l0_1 : List Int) (r1 : Int) (r2 : List Int) (w : World) (hr0_1 : Kd.C (Kd.int .i64) w A0_1 l0_1.length l0_1) (hc0_1 : l0_1.length ≤ c0_1) (h : laws_toBits.f k a0_0 l0_1 = some (r1, r2)) :
    Calls Try.prog 17 #[.agg #[.int .i64 a0_0, .slice A0_1 l0_1.length c0_1]] w fun e w' => ∃ v1_ : Value, e = .returned (.agg #[.int .i64 r1, v1_]) ∧ Kd.R (Kd.int .i64) 3 w' w.heap.size (fun _ => True) v1_ r2 ∧ Below w.heap.size w w' := by
  have hu24 := Try.underlying24; have hu28 := Try.underlying28; have hu22 := Try.underlying22; have HR0_1 := Qx hr0_1; have HC0_1 := Qx hc0_1; clear hr0_1 hc0_1
  have HB := Qx (Below.refl w.heap.size w)
  have H : ((laws_toIntS.f k l0_1).bind fun t244 => (some (a0_0, t244))) = some (r1, r2) := h
  clear h; replace H := Option.bind_eq_some_iff.mp H; obtain ⟨t244, A20, H⟩ := H
  have A2 := Qx A20; clear A20; simp only [Option.some.injEq, Prod.mk.injEq] at H; obtain ⟨rfl, rfl⟩ := H
  go_enter Try.func17, Try.ntmps17
  go_wp2_with (first | ((with_reducible refine gate_dst (N := 1) rfl ?_); refine bx_ 1 #[.int .i64 a0_0, .slice A0_1 l0_1.length c0_1] 24 ?_; intro gb241 hg w3 hbox hb; have BK241 := Qx (hbox); have GW241 := Qx ((ge_ hg)); have GE241 := Qx ((ge_ hg)); replace HB := Qx (Qp hB_ hb); clear hb hbox hg) | ((with_reducible refine gate_dst (N := 2) rfl ?_); refine bx_ 2 #[.int .i64 0, .slice none 0 0] 28 ?_; intro gb242 hg w4 hbox hb; have BK242 := Qx (hbox); have GW242 := Qx ((ge_ hg)); have GE242 := Qx ((ge_ hg)); replace HB := Qx (Qp hB_ hb); have NB241_242 := Qx ((ne_ hg BK241)); have NB242_241 := Qx ((nf_ hg BK241)); replace BK241 := Qx (Qb (kB_ BK241) hb); clear hb hbox hg) | ((with_reducible refine gate_dst (N := 3) rfl ?_); refine bx_ 3 #[.int .i64 0, .slice none 0 0] 28 ?_; intro gb243 hg w5 hbox hb; have BK243 := Qx (hbox); have GW243 := Qx ((ge_ hg)); have GE243 := Qx ((ge_ hg)); replace HB := Qx (Qp hB_ hb); have NB241_243 := Qx ((ne_ hg BK241)); have NB243_241 := Qx ((nf_ hg BK241)); replace BK241 := Qx (Qb (kB_ BK241) hb); have NB242_243 := Qx ((ne_ hg BK242)); have NB243_242 := Qx ((nf_ hg BK242)); replace BK242 := Qx (Qb (kB_ BK242) hb); clear hb hbox hg; have hnb6 := NB241_242.out; have hnc6 := NB242_241.out; have hnb7 := NB241_243.out; have hnc7 := NB243_241.out; obtain ⟨hcz8_0, hcz8_1, hfz8_0, hfz8_1⟩ := cellsQ2_g1c (w := w5) BK241.out; have hnb9 := NB243_242.out; have hnc9 := NB242_243.out; obtain ⟨hcz10_0, hcz10_1, hfz10_0, hfz10_1⟩ := cellsQ2_g1c (w := w5) BK243.out) | ((with_reducible refine gate_callee (f := 36) rfl ?_); refine gl_ 9 Try.func36 #[.slice A0_1 l0_1.length c0_1] ?_; (with_reducible refine (laws_toIntS.calls k _ _ l0_1 t244 _ ?side1 ?side2 A2.out).mono ?_); (case side1 => exact Kd.C_below HR0_1.out hB_); (case side2 => exact HC0_1.out); rintro e w11 ⟨v245, rfl, ho0, hb⟩; refine ⟨_, rfl, ?_⟩; have n0_ := Qx (Kd.R_lower ho0 (Qz hB_)); have n1_ := Qx (Qb (g := gb242) (o := .cells #[.int .i64 0, .slice none 0 0] 28 (0, 0)) (by (with_reducible repeat (first | refine Qm ?_ _ | refine Qw ?_ | refine Qk ?_ _)); refine Qr ?_ NB242_243.out _; (with_reducible repeat (first | refine Qm ?_ _ | refine Qw ?_ | refine Qk ?_ _)); exact BK242.out) hb); have n2_ := Qx (Qb (g := gb243) (o := .cells #[.int .i64 a0_0, .slice none 0 0] 28 (0, 0)) (by (with_reducible repeat (first | refine Qm ?_ _ | refine Qw ?_ | refine Qk ?_ _)); refine Qu (cs := #[.int .i64 0, .slice none 0 0]) ?_ 0 _ rfl; (with_reducible repeat (first | refine Qm ?_ _ | refine Qw ?_ | refine Qk ?_ _)); exact BK243.out) hb); have n3_ := Qx (Qp hB_ hb); clear BK242 BK243 HB BK241; have HO246 := n0_; have BK242 := n1_; have BK243 := n2_; have HB := n3_; clear n0_ n1_ n2_ n3_; (try clear hb); (try clear hb2); (try clear hk); (try clear hi); (try clear ho0); obtain ⟨Ao12, co12, eo12⟩ := Kd.R_slice HO246.out; subst eo12; obtain ⟨hcz13_0, hcz13_1, hfz13_0, hfz13_1⟩ := cellsQ2_g1c (w := w11) BK243.out; obtain ⟨hcz14_0, hcz14_1, hfz14_0, hfz14_1⟩ := cellsQ2_g1c (w := w11) BK242.out))
  refine bodyPost_ret (results_cell_row rfl _ _ gb242 28 #[.int .i64 a0_0, .slice Ao12 t244.length co12] (0, 0) _ rfl (by (with_reducible repeat (first | refine Qm ?_ _ | refine Qw ?_ | refine Qk ?_ _)); refine Qu (cs := #[.int .i64 a0_0, .slice none 0 0]) ?_ 1 _ rfl; (with_reducible repeat (first | refine Qm ?_ _ | refine Qw ?_ | refine Qk ?_ _)); refine Qu (cs := #[.int .i64 0, .slice none 0 0]) ?_ 0 _ rfl; (with_reducible repeat (first | refine Qm ?_ _ | refine Qw ?_ | refine Qk ?_ _)); refine Qr ?_ NB242_243.out _; (with_reducible repeat (first | refine Qm ?_ _ | refine Qw ?_ | refine Qk ?_ _)); exact BK242.out) Try.underlying28 rfl (by kernel_rfl)) rfl ?_
  exact ⟨_, rf_, by (with_reducible repeat (first | apply Kd.R_alloc | apply Kd.R_drewN | apply Kd.R_drew)); exact Qrm (Qrf (p := ⟨gb242, 1, none⟩) (Qrf (p := ⟨gb242, 0, none⟩) (Qrf (p := ⟨gb243, 1, none⟩) (Kd.R_types (Kd.R_types HO246.out BK243.out (by decide)) BK242.out (by decide)) (fun _ hk => hk.1.2) (.slice Ao12 t244.length co12)) (fun _ hk => hk.2) (.int .i64 a0_0)) (fun _ hk => hk.2) (.slice Ao12 t244.length co12)) (fun _ hk => trivial), hB_⟩
/-! ### laws_toSparse: function 6 -/
def laws_toSparse.f (k : Nat) (a0_0 : Int) (a0_1 : Int) (a0_2 : Int) (a0_3 : Int) (l0_4 : List Int) (a0_5 : Int) (l0_6 : List Int) : Option (Int × Int × Int × Int × List Int × Int × List Int) := (laws_toBits.f k a0_3 l0_4).bind fun bt250 => ((laws_toBits.f k a0_5 l0_6).bind fun bt254 => (some (a0_0, a0_1, a0_2, bt250.1, bt250.2, bt254.1, bt254.2)))
theorem laws_toSparse.mono : ∀ a0 a1 a2 a3 a4 a5 a6 k, LeO (laws_toSparse.f k a0 a1 a2 a3 a4 a5 a6) (laws_toSparse.f (k + 1) a0 a1 a2 a3 a4 a5 a6) := by
  intro a0 a1 a2 a3 a4 a5 a6 k
  unfold laws_toSparse.f
  repeat' first
      | (with_reducible exact laws_toBits.mono _ _ _)
      | (with_reducible exact LeO.refl _)
      | (with_reducible exact LeO.none _)
      | (with_reducible refine LeO.ite ?_ ?_)
      | (with_reducible refine LeO.bind ?_ (fun _ => ?_))
      | exact laws_toBits.mono _ _ _
      | exact LeO.none _
      | refine LeO.ite ?_ ?_
      | refine LeO.bind ?_ (fun _ => ?_)
noncomputable def laws_toSparse.F (a0_0 : Int) (a0_1 : Int) (a0_2 : Int) (a0_3 : Int) (l0_4 : List Int) (a0_5 : Int) (l0_6 : List Int) : Option (Int × Int × Int × Int × List Int × Int × List Int) := lim fun k => laws_toSparse.f k a0_0 a0_1 a0_2 a0_3 l0_4 a0_5 l0_6
theorem laws_toSparse.F_sup (a0_0 : Int) (a0_1 : Int) (a0_2 : Int) (a0_3 : Int) (l0_4 : List Int) (a0_5 : Int) (l0_6 : List Int) : Sup (fun k => laws_toSparse.f k a0_0 a0_1 a0_2 a0_3 l0_4 a0_5 l0_6) (laws_toSparse.F a0_0 a0_1 a0_2 a0_3 l0_4 a0_5 l0_6) := Sup.of_mono fun k => laws_toSparse.mono a0_0 a0_1 a0_2 a0_3 l0_4 a0_5 l0_6 k
theorem laws_toSparse.F_eq (a0_0 : Int) (a0_1 : Int) (a0_2 : Int) (a0_3 : Int) (l0_4 : List Int) (a0_5 : Int) (l0_6 : List Int) : laws_toSparse.F a0_0 a0_1 a0_2 a0_3 l0_4 a0_5 l0_6 = (laws_toBits.F a0_3 l0_4).bind fun bt250 => ((laws_toBits.F a0_5 l0_6).bind fun bt254 => (some (a0_0, a0_1, a0_2, bt250.1, bt250.2, bt254.1, bt254.2))) := by
  refine Sup.unique (laws_toSparse.F_sup a0_0 a0_1 a0_2 a0_3 l0_4 a0_5 l0_6) (Sup.congr (g' := fun k => (laws_toBits.f k a0_3 l0_4).bind fun bt250 => ((laws_toBits.f k a0_5 l0_6).bind fun bt254 => (some (a0_0, a0_1, a0_2, bt250.1, bt250.2, bt254.1, bt254.2)))) (fun k => by first | rfl | simp only [laws_toSparse.f]) ?_)
  repeat' first
    | (with_reducible exact laws_toBits.F_sup _ _)
    | (with_reducible refine Sup.ite ?_ ?_)
    | (with_reducible refine Sup.bind ?_ (fun _ => ?_))
    | (with_reducible exact Sup.const _)
    | exact laws_toBits.F_sup _ _
    | exact Sup.const _
set_option maxHeartbeats 8000000 in
set_option maxRecDepth 100000 in
theorem laws_toSparse.calls (k : Nat) (a0_0 : Int) (a0_1 : Int) (a0_2 : Int) (a0_3 : Int) (A0_4 : Option Addr) (c0_4 : Nat) (l0_4 : List Int) (a0_5 : Int) (A0_6 : Option Addr) (c0_6 : Nat) (l0_6 : List Int) (r1 : Int) (r2 : Int) (r3 : Int) (r4 : Int) (r5 : List Int) (r6 : Int) (r7 : List Int) (w : World) (hr0_4 : Kd.C (Kd.int .i64) w A0_4 l0_4.length l0_4) (hc0_4 : l0_4.length ≤ c0_4) (hr0_6 : Kd.C (Kd.int .i64) w A0_6 l0_6.length l0_6) (hc0_6 : l0_6.length ≤ c0_6) (h : laws_toSparse.f k a0_0 a0_1 a0_2 a0_3 l0_4 a0_5 l0_6 = some (r1, r2, r3, r4, r5, r6, r7)) :
    Calls Try.prog 6 #[.agg #[.int .i64 a0_0, .int .i64 a0_1, .int .i64 a0_2, .int .i64 a0_3, .slice A0_4 l0_4.length c0_4, .int .i64 a0_5, .slice A0_6 l0_6.length c0_6]] w fun e w' => ∃ v4_ v6_ : Value, e = .returned (.agg #[.int .i64 r1, .int .i64 r2, .int .i64 r3, .int .i64 r4, v4_, .int .i64 r6, v6_]) ∧ Kd.R (Kd.int .i64) 3 w' w.heap.size (fun k_ => some k_ ≠ (v6_ : Value).ownBlock) v4_ r5 ∧ Kd.R (Kd.int .i64) 3 w' w.heap.size (fun k_ => some k_ ≠ (v4_ : Value).ownBlock) v6_ r7 ∧ Below w.heap.size w w' := by
  have hu26 := Try.underlying26; have hu30 := Try.underlying30; have hu24 := Try.underlying24; have hu28 := Try.underlying28; have HR0_4 := Qx hr0_4; have HC0_4 := Qx hc0_4; clear hr0_4 hc0_4; have HR0_6 := Qx hr0_6; have HC0_6 := Qx hc0_6; clear hr0_6 hc0_6
  have HB := Qx (Below.refl w.heap.size w)
  have H : ((laws_toBits.f k a0_3 l0_4).bind fun bt250 => ((laws_toBits.f k a0_5 l0_6).bind fun bt254 => (some (a0_0, a0_1, a0_2, bt250.1, bt250.2, bt254.1, bt254.2)))) = some (r1, r2, r3, r4, r5, r6, r7) := h
  clear h; replace H := Option.bind_eq_some_iff.mp H; obtain ⟨⟨t250, t251⟩, A20, H⟩ := H
  have A2 := Qx A20; clear A20; replace H := Option.bind_eq_some_iff.mp H; obtain ⟨⟨t254, t255⟩, A30, H⟩ := H
  have A3 := Qx A30; clear A30; simp only [Option.some.injEq, Prod.mk.injEq] at H; obtain ⟨rfl, rfl, rfl, rfl, rfl, rfl, rfl⟩ := H
  go_enter Try.func6, Try.ntmps6
  go_wp2_with (first | ((with_reducible refine gate_dst (N := 1) rfl ?_); refine bx_ 1 #[.int .i64 a0_0, .int .i64 a0_1, .int .i64 a0_2, .int .i64 a0_3, .slice A0_4 l0_4.length c0_4, .int .i64 a0_5, .slice A0_6 l0_6.length c0_6] 26 ?_; intro gb247 hg w4 hbox hb; have BK247 := Qx (hbox); have GW247 := Qx ((ge_ hg)); have GE247 := Qx ((ge_ hg)); replace HB := Qx (Qp hB_ hb); clear hb hbox hg) | ((with_reducible refine gate_dst (N := 2) rfl ?_); refine bx_ 2 #[.int .i64 0, .int .i64 0, .int .i64 0, .int .i64 0, .slice none 0 0, .int .i64 0, .slice none 0 0] 30 ?_; intro gb248 hg w5 hbox hb; have BK248 := Qx (hbox); have GW248 := Qx ((ge_ hg)); have GE248 := Qx ((ge_ hg)); replace HB := Qx (Qp hB_ hb); have NB247_248 := Qx ((ne_ hg BK247)); have NB248_247 := Qx ((nf_ hg BK247)); replace BK247 := Qx (Qb (kB_ BK247) hb); clear hb hbox hg) | ((with_reducible refine gate_dst (N := 3) rfl ?_); refine bx_ 3 #[.int .i64 0, .int .i64 0, .int .i64 0, .int .i64 0, .slice none 0 0, .int .i64 0, .slice none 0 0] 30 ?_; intro gb249 hg w6 hbox hb; have BK249 := Qx (hbox); have GW249 := Qx ((ge_ hg)); have GE249 := Qx ((ge_ hg)); replace HB := Qx (Qp hB_ hb); have NB247_249 := Qx ((ne_ hg BK247)); have NB249_247 := Qx ((nf_ hg BK247)); replace BK247 := Qx (Qb (kB_ BK247) hb); have NB248_249 := Qx ((ne_ hg BK248)); have NB249_248 := Qx ((nf_ hg BK248)); replace BK248 := Qx (Qb (kB_ BK248) hb); clear hb hbox hg; have hnb7 := NB247_248.out; have hnc7 := NB248_247.out; have hnb8 := NB247_249.out; have hnc8 := NB249_247.out; obtain ⟨hcz9_0, hcz9_1, hcz9_2, hcz9_3, hcz9_4, hcz9_5, hcz9_6, hfz9_0, hfz9_1, hfz9_2, hfz9_3, hfz9_4, hfz9_5, hfz9_6⟩ := cellsQ7_g1c (w := w6) BK247.out; have hnb10 := NB249_248.out; have hnc10 := NB248_249.out; obtain ⟨hcz11_0, hcz11_1, hcz11_2, hcz11_3, hcz11_4, hcz11_5, hcz11_6, hfz11_0, hfz11_1, hfz11_2, hfz11_3, hfz11_4, hfz11_5, hfz11_6⟩ := cellsQ7_g1c (w := w6) BK249.out) | ((with_reducible refine gate_callee (f := 17) rfl ?_); refine gl_ 15 Try.func17 #[.agg #[.int .i64 a0_3, .slice A0_4 l0_4.length c0_4]] ?_; (with_reducible refine (laws_toBits.calls k a0_3 _ _ l0_4 t250 t251 _ ?side1 ?side2 A2.out).mono ?_); (case side1 => exact Kd.C_below HR0_4.out hB_); (case side2 => exact HC0_4.out); rintro e w12 ⟨v252, rfl, ho0, hb⟩; refine ⟨_, rfl, ?_⟩; have HO253 := Qx (Kd.R_lower ho0 (Qz hB_)); replace BK247 := Qx (Qb (g := gb247) (o := .cells #[.int .i64 a0_0, .int .i64 a0_1, .int .i64 a0_2, .int .i64 a0_3, .slice A0_4 l0_4.length c0_4, .int .i64 a0_5, .slice A0_6 l0_6.length c0_6] 26 (0, 0)) (by (with_reducible repeat (first | refine Qm ?_ _ | refine Qw ?_ | refine Qk ?_ _)); refine Qr ?_ NB247_249.out _; (with_reducible repeat (first | refine Qm ?_ _ | refine Qw ?_ | refine Qk ?_ _)); refine Qr ?_ NB247_249.out _; (with_reducible repeat (first | refine Qm ?_ _ | refine Qw ?_ | refine Qk ?_ _)); refine Qr ?_ NB247_249.out _; (with_reducible repeat (first | refine Qm ?_ _ | refine Qw ?_ | refine Qk ?_ _)); exact BK247.out) hb); replace BK248 := Qx (Qb (g := gb248) (o := .cells #[.int .i64 0, .int .i64 0, .int .i64 0, .int .i64 0, .slice none 0 0, .int .i64 0, .slice none 0 0] 30 (0, 0)) (by (with_reducible repeat (first | refine Qm ?_ _ | refine Qw ?_ | refine Qk ?_ _)); refine Qr ?_ NB248_249.out _; (with_reducible repeat (first | refine Qm ?_ _ | refine Qw ?_ | refine Qk ?_ _)); refine Qr ?_ NB248_249.out _; (with_reducible repeat (first | refine Qm ?_ _ | refine Qw ?_ | refine Qk ?_ _)); refine Qr ?_ NB248_249.out _; (with_reducible repeat (first | refine Qm ?_ _ | refine Qw ?_ | refine Qk ?_ _)); exact BK248.out) hb); replace BK249 := Qx (Qb (g := gb249) (o := .cells #[.int .i64 a0_0, .int .i64 a0_1, .int .i64 a0_2, .int .i64 0, .slice none 0 0, .int .i64 0, .slice none 0 0] 30 (0, 0)) (by (with_reducible repeat (first | refine Qm ?_ _ | refine Qw ?_ | refine Qk ?_ _)); refine Qu (cs := #[.int .i64 a0_0, .int .i64 a0_1, .int .i64 0, .int .i64 0, .slice none 0 0, .int .i64 0, .slice none 0 0]) ?_ 2 _ rfl; (with_reducible repeat (first | refine Qm ?_ _ | refine Qw ?_ | refine Qk ?_ _)); refine Qu (cs := #[.int .i64 a0_0, .int .i64 0, .int .i64 0, .int .i64 0, .slice none 0 0, .int .i64 0, .slice none 0 0]) ?_ 1 _ rfl; (with_reducible repeat (first | refine Qm ?_ _ | refine Qw ?_ | refine Qk ?_ _)); refine Qu (cs := #[.int .i64 0, .int .i64 0, .int .i64 0, .int .i64 0, .slice none 0 0, .int .i64 0, .slice none 0 0]) ?_ 0 _ rfl; (with_reducible repeat (first | refine Qm ?_ _ | refine Qw ?_ | refine Qk ?_ _)); exact BK249.out) hb); replace HB := Qx (Qp hB_ hb); (try clear hb); (try clear hb2); (try clear hk); (try clear hi); (try clear ho0); obtain ⟨hcz13_0, hcz13_1, hcz13_2, hcz13_3, hcz13_4, hcz13_5, hcz13_6, hfz13_0, hfz13_1, hfz13_2, hfz13_3, hfz13_4, hfz13_5, hfz13_6⟩ := cellsQ7_g1c (w := w12) BK249.out; obtain ⟨Ao14, co14, eo14⟩ := Kd.R_slice HO253.out; subst eo14; obtain ⟨hcz15_0, hcz15_1, hcz15_2, hcz15_3, hcz15_4, hcz15_5, hcz15_6, hfz15_0, hfz15_1, hfz15_2, hfz15_3, hfz15_4, hfz15_5, hfz15_6⟩ := cellsQ7_g1c (w := w12) BK247.out) | ((with_reducible refine gate_callee (f := 17) rfl ?_); refine gl_ 19 Try.func17 #[.agg #[.int .i64 a0_5, .slice A0_6 l0_6.length c0_6]] ?_; (with_reducible refine (laws_toBits.calls k a0_5 _ _ l0_6 t254 t255 _ ?side1 ?side2 A3.out).mono ?_); (case side1 => exact Kd.C_below HR0_6.out hB_); (case side2 => exact HC0_6.out); rintro e w16 ⟨v256, rfl, ho0, hb⟩; refine ⟨_, rfl, ?_⟩; have n0_ := Qx (Kd.R_elder' (by (with_reducible repeat (first | apply Kd.R_alloc | apply Kd.R_drewN | apply Kd.R_drew)); exact (Qrm (Qrf (p := ⟨gb249, 4, none⟩) (Qrf (p := ⟨gb249, 3, none⟩) (Kd.R_types HO253.out BK249.out (by decide)) (fun _ hk => hk.2) (.int .i64 t250)) (fun _ hk => hk.2) (.slice Ao14 t251.length co14)) (fun _ h_ => h_.1))) (Kd.R_base ho0) hb); have n1_ := Qx (Kd.R_lower (Kd.R_new' ho0 (Kd.R_lt (by (with_reducible repeat (first | apply Kd.R_alloc | apply Kd.R_drewN | apply Kd.R_drew)); exact (Qrm (Qrf (p := ⟨gb249, 4, none⟩) (Qrf (p := ⟨gb249, 3, none⟩) (Kd.R_types HO253.out BK249.out (by decide)) (fun _ hk => hk.2) (.int .i64 t250)) (fun _ hk => hk.2) (.slice Ao14 t251.length co14)) (fun _ h_ => h_.1))))) (Qz hB_)); have n2_ := Qx (Qb (g := gb248) (o := .cells #[.int .i64 0, .int .i64 0, .int .i64 0, .int .i64 0, .slice none 0 0, .int .i64 0, .slice none 0 0] 30 (0, 0)) (by (with_reducible repeat (first | refine Qm ?_ _ | refine Qw ?_ | refine Qk ?_ _)); refine Qr ?_ NB248_249.out _; (with_reducible repeat (first | refine Qm ?_ _ | refine Qw ?_ | refine Qk ?_ _)); refine Qr ?_ NB248_249.out _; (with_reducible repeat (first | refine Qm ?_ _ | refine Qw ?_ | refine Qk ?_ _)); exact BK248.out) hb); have n3_ := Qx (Qb (g := gb249) (o := .cells #[.int .i64 a0_0, .int .i64 a0_1, .int .i64 a0_2, .int .i64 t250, .slice Ao14 t251.length co14, .int .i64 0, .slice none 0 0] 30 (0, 0)) (by (with_reducible repeat (first | refine Qm ?_ _ | refine Qw ?_ | refine Qk ?_ _)); refine Qu (cs := #[.int .i64 a0_0, .int .i64 a0_1, .int .i64 a0_2, .int .i64 t250, .slice none 0 0, .int .i64 0, .slice none 0 0]) ?_ 4 _ rfl; (with_reducible repeat (first | refine Qm ?_ _ | refine Qw ?_ | refine Qk ?_ _)); refine Qu (cs := #[.int .i64 a0_0, .int .i64 a0_1, .int .i64 a0_2, .int .i64 0, .slice none 0 0, .int .i64 0, .slice none 0 0]) ?_ 3 _ rfl; (with_reducible repeat (first | refine Qm ?_ _ | refine Qw ?_ | refine Qk ?_ _)); exact BK249.out) hb); have n4_ := Qx (Qp hB_ hb); clear HO253 BK248 BK249 HB BK247; have HO253 := n0_; have HO257 := n1_; have BK248 := n2_; have BK249 := n3_; have HB := n4_; clear n0_ n1_ n2_ n3_ n4_; (try clear hb); (try clear hb2); (try clear hk); (try clear hi); (try clear ho0); obtain ⟨hcz17_0, hcz17_1, hcz17_2, hcz17_3, hcz17_4, hcz17_5, hcz17_6, hfz17_0, hfz17_1, hfz17_2, hfz17_3, hfz17_4, hfz17_5, hfz17_6⟩ := cellsQ7_g1c (w := w16) BK249.out; obtain ⟨Ao18, co18, eo18⟩ := Kd.R_slice HO257.out; subst eo18; obtain ⟨hcz19_0, hcz19_1, hcz19_2, hcz19_3, hcz19_4, hcz19_5, hcz19_6, hfz19_0, hfz19_1, hfz19_2, hfz19_3, hfz19_4, hfz19_5, hfz19_6⟩ := cellsQ7_g1c (w := w16) BK248.out))
  refine bodyPost_ret (results_cell_row rfl _ _ gb248 30 #[.int .i64 a0_0, .int .i64 a0_1, .int .i64 a0_2, .int .i64 t250, .slice Ao14 t251.length co14, .int .i64 t254, .slice Ao18 t255.length co18] (0, 0) _ rfl (by (with_reducible repeat (first | refine Qm ?_ _ | refine Qw ?_ | refine Qk ?_ _)); refine Qu (cs := #[.int .i64 a0_0, .int .i64 a0_1, .int .i64 a0_2, .int .i64 t250, .slice Ao14 t251.length co14, .int .i64 t254, .slice none 0 0]) ?_ 6 _ rfl; (with_reducible repeat (first | refine Qm ?_ _ | refine Qw ?_ | refine Qk ?_ _)); refine Qu (cs := #[.int .i64 a0_0, .int .i64 a0_1, .int .i64 a0_2, .int .i64 t250, .slice Ao14 t251.length co14, .int .i64 0, .slice none 0 0]) ?_ 5 _ rfl; (with_reducible repeat (first | refine Qm ?_ _ | refine Qw ?_ | refine Qk ?_ _)); refine Qu (cs := #[.int .i64 a0_0, .int .i64 a0_1, .int .i64 a0_2, .int .i64 t250, .slice none 0 0, .int .i64 0, .slice none 0 0]) ?_ 4 _ rfl; (with_reducible repeat (first | refine Qm ?_ _ | refine Qw ?_ | refine Qk ?_ _)); refine Qu (cs := #[.int .i64 a0_0, .int .i64 a0_1, .int .i64 a0_2, .int .i64 0, .slice none 0 0, .int .i64 0, .slice none 0 0]) ?_ 3 _ rfl; (with_reducible repeat (first | refine Qm ?_ _ | refine Qw ?_ | refine Qk ?_ _)); refine Qu (cs := #[.int .i64 a0_0, .int .i64 a0_1, .int .i64 0, .int .i64 0, .slice none 0 0, .int .i64 0, .slice none 0 0]) ?_ 2 _ rfl; (with_reducible repeat (first | refine Qm ?_ _ | refine Qw ?_ | refine Qk ?_ _)); refine Qu (cs := #[.int .i64 a0_0, .int .i64 0, .int .i64 0, .int .i64 0, .slice none 0 0, .int .i64 0, .slice none 0 0]) ?_ 1 _ rfl; (with_reducible repeat (first | refine Qm ?_ _ | refine Qw ?_ | refine Qk ?_ _)); refine Qu (cs := #[.int .i64 0, .int .i64 0, .int .i64 0, .int .i64 0, .slice none 0 0, .int .i64 0, .slice none 0 0]) ?_ 0 _ rfl; (with_reducible repeat (first | refine Qm ?_ _ | refine Qw ?_ | refine Qk ?_ _)); refine Qr ?_ NB248_249.out _; (with_reducible repeat (first | refine Qm ?_ _ | refine Qw ?_ | refine Qk ?_ _)); refine Qr ?_ NB248_249.out _; (with_reducible repeat (first | refine Qm ?_ _ | refine Qw ?_ | refine Qk ?_ _)); exact BK248.out) Try.underlying30 rfl (by kernel_rfl)) rfl ?_
  exact ⟨_, _, rf_, by (with_reducible repeat (first | apply Kd.R_alloc | apply Kd.R_drewN | apply Kd.R_drew)); exact Qrm (Qrf (p := ⟨gb248, 6, none⟩) (Qrf (p := ⟨gb248, 5, none⟩) (Qrf (p := ⟨gb248, 4, none⟩) (Qrf (p := ⟨gb248, 3, none⟩) (Qrf (p := ⟨gb248, 2, none⟩) (Qrf (p := ⟨gb248, 1, none⟩) (Qrf (p := ⟨gb248, 0, none⟩) (Qrf (p := ⟨gb249, 6, none⟩) (Qrf (p := ⟨gb249, 5, none⟩) (Kd.R_types (Kd.R_types HO253.out BK249.out (by decide)) BK248.out (by decide)) (fun _ hk => hk.1.2) (.int .i64 t254)) (fun _ hk => hk.1.2) (.slice Ao18 t255.length co18)) (fun _ hk => hk.2) (.int .i64 a0_0)) (fun _ hk => hk.2) (.int .i64 a0_1)) (fun _ hk => hk.2) (.int .i64 a0_2)) (fun _ hk => hk.2) (.int .i64 t250)) (fun _ hk => hk.2) (.slice Ao14 t251.length co14)) (fun _ hk => hk.2) (.int .i64 t254)) (fun _ hk => hk.2) (.slice Ao18 t255.length co18)) (fun _ hk => hk.1.1.2), by (with_reducible repeat (first | apply Kd.R_alloc | apply Kd.R_drewN | apply Kd.R_drew)); exact Qrm (Qrf (p := ⟨gb248, 6, none⟩) (Qrf (p := ⟨gb248, 5, none⟩) (Qrf (p := ⟨gb248, 4, none⟩) (Qrf (p := ⟨gb248, 3, none⟩) (Qrf (p := ⟨gb248, 2, none⟩) (Qrf (p := ⟨gb248, 1, none⟩) (Qrf (p := ⟨gb248, 0, none⟩) (Qrf (p := ⟨gb249, 6, none⟩) (Qrf (p := ⟨gb249, 5, none⟩) (Kd.R_types (Kd.R_types HO257.out BK249.out (by decide)) BK248.out (by decide)) (fun _ hk => hk.1.2) (.int .i64 t254)) (fun _ hk => hk.1.2) (.slice Ao18 t255.length co18)) (fun _ hk => hk.2) (.int .i64 a0_0)) (fun _ hk => hk.2) (.int .i64 a0_1)) (fun _ hk => hk.2) (.int .i64 a0_2)) (fun _ hk => hk.2) (.int .i64 t250)) (fun _ hk => hk.2) (.slice Ao14 t251.length co14)) (fun _ hk => hk.2) (.int .i64 t254)) (fun _ hk => hk.2) (.slice Ao18 t255.length co18)) (fun _ hk => hk.1.1.2), hB_⟩
/-! ### impl_in: function 68 -/
def impl_in.f (a0 : Int) (a1 : Int) (a2 : Int) : Option (Bool) := if a0 ≥ a1 then (some (decide (a0 ≤ a2))) else (some false)
set_option maxHeartbeats 8000000 in
set_option maxRecDepth 100000 in
theorem impl_in.calls (a0 : Int) (a1 : Int) (a2 : Int) (r : Bool) (w : World) (h : impl_in.f a0 a1 a2 = some r) :
    Calls Try.prog 68 #[.int .i64 a0, .int .i64 a1, .int .i64 a2] w fun e w' => e = .returned (.bool r) ∧ Drawn0 w w' := by
  have H : (if a0 ≥ a1 then (some (decide (a0 ≤ a2))) else (some false)) = some r := h
  clear h
  by_cases c4 : a0 ≥ a1
  ·rw [if_pos c4] at H
   have c4b0 : decide (a1 ≤ a0) = true := decide_eq_true c4
   clear c4; obtain rfl := Option.some.inj H
   go_enter Try.func68, Try.ntmps68
   go_wp2
   go_ret
   exact ⟨rg_, by repeat (first | exact Drawn0.refl _ | apply Drawn0.step)⟩
  ·rw [if_neg c4] at H
   have c4b0 : decide (a1 ≤ a0) = false := decide_eq_false c4
   clear c4; obtain rfl := Option.some.inj H
   go_enter Try.func68, Try.ntmps68
   go_wp2
   go_ret
   exact ⟨rg_, by repeat (first | exact Drawn0.refl _ | apply Drawn0.step)⟩
/-! ### impl_limitOk: function 69 -/
def impl_limitOk.f (a0 : Int) : Option (Bool) := (impl_in.f a0 1 100000).bind fun t258 => (some t258)
set_option maxHeartbeats 8000000 in
set_option maxRecDepth 100000 in
theorem impl_limitOk.calls (a0 : Int) (r : Bool) (w : World) (h : impl_limitOk.f a0 = some r) :
    Calls Try.prog 69 #[.int .i64 a0] w fun e w' => e = .returned (.bool r) ∧ Drawn0 w w' := by
  have H : ((impl_in.f a0 1 100000).bind fun t258 => (some t258)) = some r := h
  clear h; replace H := Option.bind_eq_some_iff.mp H; obtain ⟨t258, A20, H⟩ := H
  have A2 := Qx A20; clear A20; obtain rfl := Option.some.inj H
  go_enter Try.func69, Try.ntmps69
  go_wp2_with (first | ((with_reducible refine gate_callee (f := 68) rfl ?_); refine gl_ 4 Try.func68 #[.int .i64 a0, .int .i64 1, .int .i64 100000] ?_; (with_reducible refine (impl_in.calls a0 1 100000 t258 _ A2.out).mono ?_); rintro e w' ⟨rfl, ⟨nd, rfl⟩⟩; refine ⟨_, rfl, ?_⟩))
  go_ret
  exact ⟨rg_, by repeat (first | exact Drawn0.refl _ | apply Drawn0.step)⟩
/-! ### impl_WidthFor: function 41 -/
mutual
def impl_WidthFor.j0 : Nat → Int → Int → Bool → Option (Int × Bool)
  | 0, _, _, _ => none
  | k + 1, x0, x1, x14 => if x14 = true then (some (0, false)) else (impl_WidthFor.l0 k x0 x1 0)
def impl_WidthFor.l0 : Nat → Int → Int → Int → Option (Int × Bool)
  | 0, _, _, _ => none
  | k + 1, x0, x1, x6 => if 0 ≤ (wrap64 (x6 + 1)) then (if (shl .i64 (mx x0 1) (wrap64 (x6 + 1))) ≤ x1 then (impl_WidthFor.l0 k x0 x1 (wrap64 (x6 + 1))) else (some (x6, true))) else (none)
end
def impl_WidthFor.f (k : Nat) (a0 : Int) (a1 : Int) : Option (Int × Bool) := (impl_in.f a0 0 60).bind fun t259 => (if t259 = true then ((impl_limitOk.f a1).bind fun t260 => (impl_WidthFor.j0 k a0 a1 (!t260))) else (impl_WidthFor.j0 k a0 a1 true))
theorem impl_WidthFor.mono_l : ∀ k, (∀ y0 y1 y2, LeO (impl_WidthFor.j0 k y0 y1 y2) (impl_WidthFor.j0 (k + 1) y0 y1 y2)) ∧ (∀ y0 y1 y2, LeO (impl_WidthFor.l0 k y0 y1 y2) (impl_WidthFor.l0 (k + 1) y0 y1 y2))
  | 0 => ⟨fun _ _ _ r h => by simp [impl_WidthFor.j0] at h, fun _ _ _ r h => by simp [impl_WidthFor.l0] at h⟩
  | k + 1 => by
    obtain ⟨ih0, ih1⟩ := impl_WidthFor.mono_l k
    refine ⟨?_, ?_⟩
    · intro y0 y1 y2
      unfold impl_WidthFor.j0
      repeat' first
      | (with_reducible exact ih0 _ _ _)
      | (with_reducible exact ih1 _ _ _)
      | (with_reducible exact LeO.refl _)
      | (with_reducible exact LeO.none _)
      | (with_reducible refine LeO.ite ?_ ?_)
      | (with_reducible refine LeO.bind ?_ (fun _ => ?_))
      | exact ih0 _ _ _
      | exact ih1 _ _ _
      | exact LeO.none _
      | refine LeO.ite ?_ ?_
      | refine LeO.bind ?_ (fun _ => ?_)
    · intro y0 y1 y2
      unfold impl_WidthFor.l0
      repeat' first
      | (with_reducible exact ih0 _ _ _)
      | (with_reducible exact ih1 _ _ _)
      | (with_reducible exact LeO.refl _)
      | (with_reducible exact LeO.none _)
      | (with_reducible refine LeO.ite ?_ ?_)
      | (with_reducible refine LeO.bind ?_ (fun _ => ?_))
      | exact ih0 _ _ _
      | exact ih1 _ _ _
      | exact LeO.none _
      | refine LeO.ite ?_ ?_
      | refine LeO.bind ?_ (fun _ => ?_)
theorem impl_WidthFor.mono : ∀ a0 a1 k, LeO (impl_WidthFor.f k a0 a1) (impl_WidthFor.f (k + 1) a0 a1) := by
  intro a0 a1 k
  obtain ⟨ih0, ih1⟩ := impl_WidthFor.mono_l k
  unfold impl_WidthFor.f
  repeat' first
      | (with_reducible exact ih0 _ _ _)
      | (with_reducible exact ih1 _ _ _)
      | (with_reducible exact LeO.refl _)
      | (with_reducible exact LeO.none _)
      | (with_reducible refine LeO.ite ?_ ?_)
      | (with_reducible refine LeO.bind ?_ (fun _ => ?_))
      | exact ih0 _ _ _
      | exact ih1 _ _ _
      | exact LeO.none _
      | refine LeO.ite ?_ ?_
      | refine LeO.bind ?_ (fun _ => ?_)
noncomputable def impl_WidthFor.J0 (y0 : Int) (y1 : Int) (y2 : Bool) : Option (Int × Bool) := lim fun k => impl_WidthFor.j0 k y0 y1 y2
theorem impl_WidthFor.J0_sup (y0 : Int) (y1 : Int) (y2 : Bool) : Sup (fun k => impl_WidthFor.j0 k y0 y1 y2) (impl_WidthFor.J0 y0 y1 y2) := Sup.of_mono fun k => (impl_WidthFor.mono_l k).1 y0 y1 y2
noncomputable def impl_WidthFor.L0 (y0 : Int) (y1 : Int) (y2 : Int) : Option (Int × Bool) := lim fun k => impl_WidthFor.l0 k y0 y1 y2
theorem impl_WidthFor.L0_sup (y0 : Int) (y1 : Int) (y2 : Int) : Sup (fun k => impl_WidthFor.l0 k y0 y1 y2) (impl_WidthFor.L0 y0 y1 y2) := Sup.of_mono fun k => (impl_WidthFor.mono_l k).2 y0 y1 y2
noncomputable def impl_WidthFor.F (a0 : Int) (a1 : Int) : Option (Int × Bool) := lim fun k => impl_WidthFor.f k a0 a1
theorem impl_WidthFor.F_sup (a0 : Int) (a1 : Int) : Sup (fun k => impl_WidthFor.f k a0 a1) (impl_WidthFor.F a0 a1) := Sup.of_mono fun k => impl_WidthFor.mono a0 a1 k
theorem impl_WidthFor.J0_eq (x0 : Int) (x1 : Int) (x14 : Bool) : impl_WidthFor.J0 x0 x1 x14 = if x14 = true then (some (0, false)) else (impl_WidthFor.L0 x0 x1 0) := by
  refine Sup.unique (impl_WidthFor.J0_sup x0 x1 x14) (Sup.shift (fun k => (impl_WidthFor.mono_l k).1 x0 x1 x14) (Sup.congr (g' := fun k => if x14 = true then (some (0, false)) else (impl_WidthFor.l0 k x0 x1 0)) (fun k => by first | rfl | simp only [impl_WidthFor.j0]) ?_))
  repeat' first
    | (with_reducible exact impl_WidthFor.J0_sup _ _ _)
    | (with_reducible exact impl_WidthFor.L0_sup _ _ _)
    | (with_reducible refine Sup.ite ?_ ?_)
    | (with_reducible refine Sup.bind ?_ (fun _ => ?_))
    | (with_reducible exact Sup.const _)
    | exact impl_WidthFor.J0_sup _ _ _
    | exact impl_WidthFor.L0_sup _ _ _
    | exact Sup.const _
theorem impl_WidthFor.L0_eq (x0 : Int) (x1 : Int) (x6 : Int) : impl_WidthFor.L0 x0 x1 x6 = if 0 ≤ (wrap64 (x6 + 1)) then (if (shl .i64 (mx x0 1) (wrap64 (x6 + 1))) ≤ x1 then (impl_WidthFor.L0 x0 x1 (wrap64 (x6 + 1))) else (some (x6, true))) else (none) := by
  refine Sup.unique (impl_WidthFor.L0_sup x0 x1 x6) (Sup.shift (fun k => (impl_WidthFor.mono_l k).2 x0 x1 x6) (Sup.congr (g' := fun k => if 0 ≤ (wrap64 (x6 + 1)) then (if (shl .i64 (mx x0 1) (wrap64 (x6 + 1))) ≤ x1 then (impl_WidthFor.l0 k x0 x1 (wrap64 (x6 + 1))) else (some (x6, true))) else (none)) (fun k => by first | rfl | simp only [impl_WidthFor.l0]) ?_))
  repeat' first
    | (with_reducible exact impl_WidthFor.J0_sup _ _ _)
    | (with_reducible exact impl_WidthFor.L0_sup _ _ _)
    | (with_reducible refine Sup.ite ?_ ?_)
    | (with_reducible refine Sup.bind ?_ (fun _ => ?_))
    | (with_reducible exact Sup.const _)
    | exact impl_WidthFor.J0_sup _ _ _
    | exact impl_WidthFor.L0_sup _ _ _
    | exact Sup.const _
theorem impl_WidthFor.F_eq (a0 : Int) (a1 : Int) : impl_WidthFor.F a0 a1 = (impl_in.f a0 0 60).bind fun t259 => (if t259 = true then ((impl_limitOk.f a1).bind fun t260 => (impl_WidthFor.J0 a0 a1 (!t260))) else (impl_WidthFor.J0 a0 a1 true)) := by
  refine Sup.unique (impl_WidthFor.F_sup a0 a1) (Sup.congr (g' := fun k => (impl_in.f a0 0 60).bind fun t259 => (if t259 = true then ((impl_limitOk.f a1).bind fun t260 => (impl_WidthFor.j0 k a0 a1 (!t260))) else (impl_WidthFor.j0 k a0 a1 true))) (fun k => by first | rfl | simp only [impl_WidthFor.f]) ?_)
  repeat' first
    | (with_reducible exact impl_WidthFor.J0_sup _ _ _)
    | (with_reducible exact impl_WidthFor.L0_sup _ _ _)
    | (with_reducible refine Sup.ite ?_ ?_)
    | (with_reducible refine Sup.bind ?_ (fun _ => ?_))
    | (with_reducible exact Sup.const _)
    | exact impl_WidthFor.J0_sup _ _ _
    | exact impl_WidthFor.L0_sup _ _ _
    | exact Sup.const _
set_option maxHeartbeats 8000000 in
set_option maxRecDepth 100000 in
theorem impl_WidthFor.calls (k : Nat) (a0 : Int) (a1 : Int) (r1 : Int) (r2 : Bool) (w : World) (h : impl_WidthFor.f k a0 a1 = some (r1, r2)) :
    Calls Try.prog 41 #[.int .i64 a0, .int .i64 a1] w fun e w' => e = .returned (.tuple #[.int .i64 r1, .bool r2]) ∧ Below w.heap.size w w' := by
  have HB := Qx (Below.refl w.heap.size w)
  have H : ((impl_in.f a0 0 60).bind fun t259 => (if t259 = true then ((impl_limitOk.f a1).bind fun t260 => (impl_WidthFor.j0 k a0 a1 (!t260))) else (impl_WidthFor.j0 k a0 a1 true))) = some (r1, r2) := h
  clear h; have HC3 := Qx H; clear H
  go_enter Try.func41, Try.ntmps41
  go_upto_region 1 with (fail)
  go_cut [14] (fun v14 wc => ∃ (kq : Nat) (x14_2 : Bool), v14 = .bool x14_2 ∧ Aside0 (impl_WidthFor.j0 kq a0 a1 x14_2 = some (r1, r2)) ∧ Aside0 (kq ≤ k) ∧ Aside0 (Below w.heap.size w wc))
  case first =>
   have H := HC3.out; clear HC3; replace H := Option.bind_eq_some_iff.mp H; obtain ⟨t259, A40, H⟩ := H
   have A4 := Qx A40; clear A40
   by_cases c5 : t259 = true
   ·subst c5
    have H1 : ((impl_limitOk.f a1).bind fun t260 => (impl_WidthFor.j0 k a0 a1 (!t260))) = some (r1, r2) := by rw [if_pos rfl] at H; exact H
    clear H; have H := H1; clear H1; replace H := Option.bind_eq_some_iff.mp H; obtain ⟨t260, A60, H⟩ := H
    have A6 := Qx A60; clear A60; have H' := Qx H; clear H
    go_wp2_with (first | ((with_reducible refine gate_callee (f := 68) rfl ?_); refine gl_ 8 Try.func68 #[.int .i64 a0, .int .i64 0, .int .i64 60] ?_; (with_reducible refine (impl_in.calls a0 0 60 true _ A4.out).mono ?_); rintro e w' ⟨rfl, ⟨nd, rfl⟩⟩; refine ⟨_, rfl, ?_⟩) | (go_at_call 69; (with_reducible refine (impl_limitOk.calls a1 t260 _ A6.out).mono ?_); rintro e w' ⟨rfl, ⟨nd, rfl⟩⟩))
    go_meet
    case rel => exact ⟨_, (!t260), rg_, H', ⟨by first | omega | exact Nat.le_refl _⟩, ⟨hB_⟩⟩
   ·replace c5 := Bool.eq_false_iff.mpr c5; subst c5
    have H1 : (impl_WidthFor.j0 k a0 a1 true) = some (r1, r2) := by rw [if_neg (show ¬ (false = true) by decide)] at H; exact H
    clear H; have H := H1; clear H1; have H' := Qx H; clear H
    go_wp2_with (first | ((with_reducible refine gate_callee (f := 68) rfl ?_); refine gl_ 8 Try.func68 #[.int .i64 a0, .int .i64 0, .int .i64 60] ?_; (with_reducible refine (impl_in.calls a0 0 60 false _ A4.out).mono ?_); rintro e w' ⟨rfl, ⟨nd, rfl⟩⟩; refine ⟨_, rfl, ?_⟩))
    go_meet
    case rel => exact ⟨_, (true), rg_, H', ⟨by first | omega | exact Nat.le_refl _⟩, ⟨hB_⟩⟩
  case rest =>
   clear HC3
   try clear p2
   try clear c4
   try clear c5
   try clear c6
   obtain ⟨kq, x14_2, rfl, HA, HJ2, HB⟩ := hcut
   cases kq with
   | zero => exact absurd HA.out (by simp [impl_WidthFor.j0])
   | succ kj2 =>
    have H := HA.out; clear HA; simp only [impl_WidthFor.j0] at H
    by_cases c7 : x14_2 = true
    ·subst c7
     have H1 : (some (0, false)) = some (r1, r2) := by rw [if_pos rfl] at H; exact H
     clear H; have H := H1; clear H1; simp only [Option.some.injEq, Prod.mk.injEq] at H; obtain ⟨rfl, rfl⟩ := H
     go_wp2
     go_ret2
     exact ⟨rf_, hB_⟩
    ·replace c7 := Bool.eq_false_iff.mpr c7; subst c7
     have H1 : (impl_WidthFor.l0 kj2 a0 a1 0) = some (r1, r2) := by rw [if_neg (show ¬ (false = true) by decide)] at H; exact H
     clear H; have H := H1; clear H1; have H' := Qx H; clear H
     go_wp2
     go_loopg [6] kj2 (fun kq v6 w' => ∃ (x6_2 : Int), v6 = .int .i64 x6_2 ∧ Aside0 (impl_WidthFor.l0 kq a0 a1 x6_2 = some (r1, r2)) ∧ Aside0 (kq ≤ kj2) ∧ Aside0 (Below w.heap.size w w'))
     case atStart => exact ⟨(0), rg_, H', ⟨Nat.le_refl _⟩, ⟨hB_⟩⟩
     case round =>
      clear H'
      try clear p2
      try clear c4
      try clear c5
      try clear c6
      try clear c7
      try clear p2
      obtain ⟨x6_2, rfl, HA, HK2, HB⟩ := hrel
      cases gk with
      | zero => exact absurd HA.out (by simp [impl_WidthFor.l0])
      | succ k2 =>
       have H := HA.out; clear HA; simp only [impl_WidthFor.l0] at H
       obtain ⟨ji8, hji8⟩ : ∃ j_ : Int, (mx a0 1) = j_ := ⟨_, rfl⟩
       replace H : (if 0 ≤ (wrap64 (x6_2 + 1)) then (if (shl .i64 (ji8) (wrap64 (x6_2 + 1))) ≤ a1 then (impl_WidthFor.l0 k2 a0 a1 (wrap64 (x6_2 + 1))) else (some (x6_2, true))) else (none)) = some (r1, r2) := by first | (rw [hji8] at H; exact H) | (simp only [hji8] at H ⊢; exact H)
       have hji8_ : (if a0 < 1 then 1 else a0) = ji8 := hji8
       obtain ⟨ji9, hji9⟩ : ∃ j_ : Int, (wrap64 (x6_2 + 1)) = j_ := ⟨_, rfl⟩
       replace H : (if 0 ≤ (ji9) then (if (shl .i64 (ji8) (ji9)) ≤ a1 then (impl_WidthFor.l0 k2 a0 a1 ji9) else (some (x6_2, true))) else (none)) = some (r1, r2) := by first | (rw [hji9] at H; exact H) | (simp only [hji9] at H ⊢; exact H)
       have hji9w : (IntKind.i64.wrap (x6_2 + 1)) = ji9 := (i64_w _).trans hji9
       by_cases c10 : 0 ≤ (ji9)
       ·rw [if_pos c10] at H; have c10b0 := eq_true c10
        have c10b1 : decide (0 ≤ (ji9)) = true := decide_eq_true c10
        clear c10
        obtain ⟨ji11, hji11⟩ : ∃ j_ : Int, (shl .i64 (ji8) (ji9)) = j_ := ⟨_, rfl⟩
        replace H : (if (ji11) ≤ a1 then (impl_WidthFor.l0 k2 a0 a1 ji9) else (some (x6_2, true))) = some (r1, r2) := by first | (rw [hji11] at H; exact H) | (simp only [hji11] at H ⊢; exact H)
        have hji11_ : (IntKind.i64.wrap ((ji8) * 2 ^ min (ji9).toNat 64)) = ji11 := hji11
        have hji11z : (ji9) ≤ 64 → (IntKind.i64.wrap ((ji8) * 2 ^ (ji9).toNat)) = ji11 := shl_small hji11
        have hji11y : (wrap64 ((ji8) * 2 ^ min (ji9).toNat 64)) = ji11 := (i64_w _).symm.trans hji11_
        have hji11x : (ji9) ≤ 64 → (wrap64 ((ji8) * 2 ^ (ji9).toNat)) = ji11 := fun h_ => (i64_w _).symm.trans (hji11z h_)
        by_cases c12 : (ji11) ≤ a1
        ·rw [if_pos c12] at H
         have c12b0 : decide ((ji11) ≤ a1) = true := decide_eq_true c12
         clear c12; have H' := Qx H; clear H
         go_wp2
         go_roundg k2
         case measure => have := HJ2.out; have := HK2.out; omega
         case rel => exact ⟨(ji9), (by first | rfl | (simp; done) | (simp only [← hji9] <;> (first | rfl | simp)) | (simp [*]; done)), H', ⟨by have := HJ2.out; have := HK2.out; omega⟩, ⟨hB_⟩⟩
        ·rw [if_neg c12] at H
         have c12b0 : decide ((ji11) ≤ a1) = false := decide_eq_false c12
         clear c12; simp only [Option.some.injEq, Prod.mk.injEq] at H; obtain ⟨rfl, rfl⟩ := H
         go_wp2
         go_ret2
         exact ⟨by first | rfl | (simp [errW_none, errW_some] <;> rfl) | (simp only [← hji8, ← hji9, ← hji11]; first | rfl | (simp [errW_none, errW_some] <;> rfl)) | (simp [*, errW_none, errW_some] <;> rfl), hB_⟩
       ·rw [if_neg c10] at H
        exact absurd H (by simp)
/-! ### impl_words: function 70 -/
def impl_words.f (a0 : Int) : Option (Int) := some (wrap64 (Int.tdiv (wrap64 ((wrap64 (a0 + 16)) - 1)) 16))
set_option maxHeartbeats 8000000 in
set_option maxRecDepth 100000 in
theorem impl_words.calls (a0 : Int) (r : Int) (w : World) (h : impl_words.f a0 = some r) :
    Calls Try.prog 70 #[.int .i64 a0] w fun e w' => e = .returned (.int .i64 r) ∧ Drawn0 w w' := by
  have H : (some (wrap64 (Int.tdiv (wrap64 ((wrap64 (a0 + 16)) - 1)) 16))) = some r := h
  clear h; obtain rfl := Option.some.inj H
  go_enter Try.func70, Try.ntmps70
  go_wp2
  go_ret
  exact ⟨rg_, by repeat (first | exact Drawn0.refl _ | apply Drawn0.step)⟩
/-! ### impl_blank: function 42 -/
def impl_blank.f (a0 : Int) : Option (Int × List Int) := (impl_words.f a0).bind fun t262 => (if 0 ≤ t262 then (if (t262 : Int).toNat ≤ 35184372088832 then (some (a0, (List.replicate (t262 : Int).toNat 0))) else (none)) else (none))
set_option maxHeartbeats 8000000 in
set_option maxRecDepth 100000 in
theorem impl_blank.calls (a0 : Int) (r1 : Int) (r2 : List Int) (w : World) (h : impl_blank.f a0 = some (r1, r2)) :
    Calls Try.prog 42 #[.int .i64 a0] w fun e w' => ∃ v1_ : Value, e = .returned (.agg #[.int .i64 r1, v1_]) ∧ Kd.R (Kd.int .i64) 3 w' w.heap.size (fun _ => True) v1_ r2 ∧ Below w.heap.size w w' := by
  have hu28 := Try.underlying28
  have HB := Qx (Below.refl w.heap.size w)
  have H : ((impl_words.f a0).bind fun t262 => (if 0 ≤ t262 then (if (t262 : Int).toNat ≤ 35184372088832 then (some (a0, (List.replicate (t262 : Int).toNat 0))) else (none)) else (none))) = some (r1, r2) := h
  clear h; replace H := Option.bind_eq_some_iff.mp H; obtain ⟨t262, A20, H⟩ := H
  have A2 := Qx A20; clear A20
  by_cases c3 : 0 ≤ t262
  ·rw [if_pos c3] at H; have c3b0 := eq_true c3
   have c3b1 : decide (0 ≤ t262) = true := decide_eq_true c3
   clear c3
   by_cases c4 : (t262 : Int).toNat ≤ 35184372088832
   ·rw [if_pos c4] at H; have c4b0 := eq_true c4
    have c4b1 : decide ((t262 : Int).toNat ≤ 35184372088832) = true := decide_eq_true c4
    clear c4
    obtain ⟨y263, hy263⟩ : ∃ y_ : List Int, y_ = (List.replicate (t262 : Int).toNat 0) := ⟨_, rfl⟩
    replace H : (some (a0, y263)) = some (r1, r2) := by first | (rw [hy263]; with_reducible exact H) | (have H2_ := (Option.bind_some _ _).symm.trans H; rw [hy263]; with_reducible exact H2_) | (have H2_ := (Option.bind_some _ _).symm.trans H; with_reducible exact H2_) | with_reducible exact H | (rw [hy263]; exact H) | exact H
    have Ny263 := Qx hy263; clear hy263; simp only [Option.some.injEq, Prod.mk.injEq] at H; obtain ⟨rfl, rfl⟩ := H
    go_enter Try.func42, Try.ntmps42
    go_wp2_with (first | ((with_reducible refine gate_dst (N := 2) rfl ?_); refine bx_ 2 #[.int .i64 0, .slice none 0 0] 28 ?_; intro gb261 hg w5 hbox hb; have BK261 := Qx (hbox); have GW261 := Qx ((ge_ hg)); have GE261 := Qx ((ge_ hg)); replace HB := Qx (Qp hB_ hb); clear hb hbox hg) | ((with_reducible refine gate_callee (f := 70) rfl ?_); refine gl_ 5 Try.func70 #[.int .i64 a0] ?_; (with_reducible refine (impl_words.calls a0 t262 _ A2.out).mono ?_); rintro e w' ⟨rfl, ⟨nd, rfl⟩⟩; refine ⟨_, rfl, ?_⟩; (try (rw [drewN_self w5]; generalize hq_ : World.drewN w5 _ = w5; have n0_ : Aside0 (w5.heap[gb261]? = some (.cells #[.int .i64 0, .slice none 0 0] 28 (0, 0))) := ⟨by rw [← hq_]; exact (kB_ BK261)⟩; have n1_ : Aside0 (Below w.heap.size w w5) := ⟨by rw [← hq_]; exact hB_⟩; clear BK261 HB hq_; have BK261 := n0_; have HB := n1_; clear n0_ n1_))) | ((with_reducible refine gate_dst (N := 6) rfl ?_); refine Kd.R_make (Kd.int .i64) _ 3 rfl (N := 6) rfl 22 _ _ rfl t262 rfl rfl Try.underlying22 (.int .i64 0) 8 info3 rfl (by decide) (by omega) 0 (ok := fun _ => True) (okp := fun _ => True) rfl (fun _ hk => hk) trivial (of_decide_eq_true as_) (Nat.le_trans (Nat.mul_le_mul_right _ (of_decide_eq_true as_ : t262.toNat ≤ 35184372088832)) (by omega)) (Below.refl _ _) (Nat.le_refl _) ?_; intro v264 w6 ho7 hb hg_ hnew_; clear hg_ hnew_; (first | rw [← Ny263.out] at ho7 | (simp only [Int.reduceToNat] at ho7; rw [← Ny263.out] at ho7)); have HO265 := Qx (Kd.R_lower ho7 (Qz hB_)); replace BK261 := Qx (Qb (kB_ BK261) hb); replace HB := Qx (Qp hB_ hb); clear hb ho7; obtain ⟨Ao8, co8, eo8⟩ := Kd.R_slice HO265.out; subst eo8; obtain ⟨hcz9_0, hcz9_1, hfz9_0, hfz9_1⟩ := cellsQ2_g1c (w := w6) BK261.out))
    refine bodyPost_ret (results_cell_row rfl _ _ gb261 28 #[.int .i64 a0, .slice Ao8 y263.length co8] (0, 0) _ rfl (by (with_reducible repeat (first | refine Qm ?_ _ | refine Qw ?_ | refine Qk ?_ _)); refine Qu (cs := #[.int .i64 a0, .slice none 0 0]) ?_ 1 _ rfl; (with_reducible repeat (first | refine Qm ?_ _ | refine Qw ?_ | refine Qk ?_ _)); refine Qu (cs := #[.int .i64 0, .slice none 0 0]) ?_ 0 _ rfl; (with_reducible repeat (first | refine Qm ?_ _ | refine Qw ?_ | refine Qk ?_ _)); exact BK261.out) Try.underlying28 rfl (by kernel_rfl)) rfl ?_
    exact ⟨_, rf_, by (with_reducible repeat (first | apply Kd.R_alloc | apply Kd.R_drewN | apply Kd.R_drew)); exact Qrm (farsQ2_g1c (Kd.R_types HO265.out BK261.out (by decide)) (fun _ hk => hk.2) (.int .i64 a0) (.slice Ao8 y263.length co8)) (fun _ hk => trivial), hB_⟩
   ·rw [if_neg c4] at H
    exact absurd H (by simp)
  ·rw [if_neg c3] at H
   exact absurd H (by simp)
end Go.Proofs.Ytknofkpmeobhbaa.X
