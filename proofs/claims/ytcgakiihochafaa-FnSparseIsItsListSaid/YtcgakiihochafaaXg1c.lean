/- Written by a program of this session: what functions of the given program compute, and that their calls do so. -/
import Derived.Test.YtcgakiihochafaaXx0
import Derived.Test.YtcgakiihochafaaXg1a
import Derived.Test.YtcgakiihochafaaXg1b
import Derived.Test.YtcgakiihochafaaXs
namespace Go.Proofs.Ytcgakiihochafaa.X
open Go.RowKit Go.Proofs.YtcgakiihochafaaW.PrintWords Go.Proofs.YtcgakiihochafaaW.PrintLast Go.Proofs.YtcgakiihochafaaW.PrintMore
theorem cellsQ2_g1c {w : World} {g : Nat} {t : TypeId} {a0 a1 : Value} (k : w.heap[g]? = some (.cells #[a0, a1] t (0, 0))) : w.cell? ⟨g, 0, none⟩ = some a0 ∧ w.cell? ⟨g, 1, none⟩ = some a1 ∧ w.frozen? ⟨g, 0, none⟩ = false ∧ w.frozen? ⟨g, 1, none⟩ = false := ⟨(blk_cell k 0).trans rfl, (blk_cell k 1).trans rfl, blk_frozen k 0, blk_frozen k 1⟩
theorem cellsQ7_g1c {w : World} {g : Nat} {t : TypeId} {a0 a1 a2 a3 a4 a5 a6 : Value} (k : w.heap[g]? = some (.cells #[a0, a1, a2, a3, a4, a5, a6] t (0, 0))) : w.cell? ⟨g, 0, none⟩ = some a0 ∧ w.cell? ⟨g, 1, none⟩ = some a1 ∧ w.cell? ⟨g, 2, none⟩ = some a2 ∧ w.cell? ⟨g, 3, none⟩ = some a3 ∧ w.cell? ⟨g, 4, none⟩ = some a4 ∧ w.cell? ⟨g, 5, none⟩ = some a5 ∧ w.cell? ⟨g, 6, none⟩ = some a6 ∧ w.frozen? ⟨g, 0, none⟩ = false ∧ w.frozen? ⟨g, 1, none⟩ = false ∧ w.frozen? ⟨g, 2, none⟩ = false ∧ w.frozen? ⟨g, 3, none⟩ = false ∧ w.frozen? ⟨g, 4, none⟩ = false ∧ w.frozen? ⟨g, 5, none⟩ = false ∧ w.frozen? ⟨g, 6, none⟩ = false := ⟨(blk_cell k 0).trans rfl, (blk_cell k 1).trans rfl, (blk_cell k 2).trans rfl, (blk_cell k 3).trans rfl, (blk_cell k 4).trans rfl, (blk_cell k 5).trans rfl, (blk_cell k 6).trans rfl, blk_frozen k 0, blk_frozen k 1, blk_frozen k 2, blk_frozen k 3, blk_frozen k 4, blk_frozen k 5, blk_frozen k 6⟩
theorem farsQ7_g1c {τ : Type} {d : Kd τ} {e : Nat} {w : World} {base g : Nat} {ok : Nat → Prop} {v : Value} {xs : List τ} (h : d.R e w base ok v xs) (hok : ∀ k, ok k → k ≠ g) (u0 u1 u2 u3 u4 u5 u6 : Value) : d.R e (((((((w.setCell ⟨g, 0, none⟩ u0).setCell ⟨g, 1, none⟩ u1).setCell ⟨g, 2, none⟩ u2).setCell ⟨g, 3, none⟩ u3).setCell ⟨g, 4, none⟩ u4).setCell ⟨g, 5, none⟩ u5).setCell ⟨g, 6, none⟩ u6) base ok v xs := Kd.R_far (p := ⟨g, 6, none⟩) (Kd.R_far (p := ⟨g, 5, none⟩) (Kd.R_far (p := ⟨g, 4, none⟩) (Kd.R_far (p := ⟨g, 3, none⟩) (Kd.R_far (p := ⟨g, 2, none⟩) (Kd.R_far (p := ⟨g, 1, none⟩) (Kd.R_far (p := ⟨g, 0, none⟩) h hok u0) hok u1) hok u2) hok u3) hok u4) hok u5) hok u6
open Go.Proofs.YtcgakiihochafaaW.PrintWords renaming blk_alloc → Qk, blk_drewN → Qm, blk_drew → Qw, below_step → Qp, blk_below → Qb, blk_put → Qu
open Go.Proofs.YtcgakiihochafaaW.PrintWords.Kd renaming R_mono → Qrm
open Go.Proofs.YtcgakiihochafaaW.PrintWords.Aside0 renaming mk → Qx
attribute [local go_sem] max2_int min2_int max_two min_two max_three min_three max_four min_four   -- for this text's walks alone
set_option linter.unusedVariables false
set_option linter.unusedSimpArgs false
/-! ### spec_spOf: function 21 -/
def spec_spOf.l0 : Nat → List Int → Int → Int → List Bool → List Bool → List Int → Int → Int → Option (Int × Int × Int × Int × List Int × Int × List Int)
  | 0, _, _, _, _, _, _, _, _ => none
  | k + 1, x0, x1, x5, x6, x7, x28, x29, x30 => if x30 < x29 then (if 0 ≤ x30 then (if x30 < (x28.length : Int) then (if 0 ≤ x5 then (if (shl .i64 1 x5) = 0 then (none) else ((spec_biPut.f k x6 (wrap64 (x30 * x5)) x5 (Int.tmod (rd x28 x30) (shl .i64 1 x5))).bind fun t301 => (if 0 ≤ (wrap64 ((shr .i64 (rd x28 x30) x5) + x30)) then (if (wrap64 ((shr .i64 (rd x28 x30) x5) + x30)) < (x7.length : Int) then (spec_spOf.l0 k x0 x1 x5 t301 (x7.set ((wrap64 ((shr .i64 (rd x28 x30) x5) + x30)) : Int).toNat true) x28 x29 (wrap64 (x30 + 1))) else (none)) else (none)))) else (none)) else (none)) else (none)) else ((spec_biSome.f k x6).bind fun bt303 => ((spec_biSome.f k x7).bind fun bt307 => (some ((x0.length : Int), x1, x5, bt303.1, bt303.2, bt307.1, bt307.2))))
def spec_spOf.f (k : Nat) (l0 : List Int) (a1 : Int) : Option (Int × Int × Int × Int × List Int × Int × List Int) := (spec_spWidth.f k (l0.length : Int) a1).bind fun t293 => (if 0 ≤ (wrap64 ((l0.length : Int) * t293)) then (if (wrap64 ((l0.length : Int) * t293) : Int).toNat ≤ 281474976710656 then (if 0 ≤ t293 then (if 0 ≤ (wrap64 ((wrap64 ((l0.length : Int) + (shr .i64 (wrap64 (a1 - 1)) t293))) + 1)) then (if (wrap64 ((wrap64 ((l0.length : Int) + (shr .i64 (wrap64 (a1 - 1)) t293))) + 1) : Int).toNat ≤ 281474976710656 then (spec_spOf.l0 k l0 a1 t293 (List.replicate (wrap64 ((l0.length : Int) * t293) : Int).toNat false) (List.replicate (wrap64 ((wrap64 ((l0.length : Int) + (shr .i64 (wrap64 (a1 - 1)) t293))) + 1) : Int).toNat false) l0 (l0.length : Int) 0) else (none)) else (none)) else (none)) else (none)) else (none))
theorem spec_spOf.mono_l : ∀ k, (∀ y0 y1 y2 y3 y4 y5 y6 y7, LeO (spec_spOf.l0 k y0 y1 y2 y3 y4 y5 y6 y7) (spec_spOf.l0 (k + 1) y0 y1 y2 y3 y4 y5 y6 y7))
  | 0 => fun _ _ _ _ _ _ _ _ r h => by simp [spec_spOf.l0] at h
  | k + 1 => by
    have ih0 := spec_spOf.mono_l k
    · intro y0 y1 y2 y3 y4 y5 y6 y7
      unfold spec_spOf.l0
      repeat' first
      | (with_reducible exact ih0 _ _ _ _ _ _ _ _)
      | (with_reducible exact spec_biPut.mono _ _ _ _ _)
      | (with_reducible exact spec_biSome.mono _ _)
      | (with_reducible exact spec_spWidth.mono _ _ _)
      | (with_reducible exact LeO.refl _)
      | (with_reducible exact LeO.none _)
      | (with_reducible refine LeO.ite ?_ ?_)
      | (with_reducible refine LeO.bind ?_ (fun _ => ?_))
      | exact ih0 _ _ _ _ _ _ _ _
      | exact spec_biPut.mono _ _ _ _ _
      | exact spec_biSome.mono _ _
      | exact spec_spWidth.mono _ _ _
      | exact LeO.none _
      | refine LeO.ite ?_ ?_
      | refine LeO.bind ?_ (fun _ => ?_)
theorem spec_spOf.mono : ∀ a0 a1 k, LeO (spec_spOf.f k a0 a1) (spec_spOf.f (k + 1) a0 a1) := by
  intro a0 a1 k
  have ih0 := spec_spOf.mono_l k
  unfold spec_spOf.f
  repeat' first
      | (with_reducible exact ih0 _ _ _ _ _ _ _ _)
      | (with_reducible exact spec_biPut.mono _ _ _ _ _)
      | (with_reducible exact spec_biSome.mono _ _)
      | (with_reducible exact spec_spWidth.mono _ _ _)
      | (with_reducible exact LeO.refl _)
      | (with_reducible exact LeO.none _)
      | (with_reducible refine LeO.ite ?_ ?_)
      | (with_reducible refine LeO.bind ?_ (fun _ => ?_))
      | exact ih0 _ _ _ _ _ _ _ _
      | exact spec_biPut.mono _ _ _ _ _
      | exact spec_biSome.mono _ _
      | exact spec_spWidth.mono _ _ _
      | exact LeO.none _
      | refine LeO.ite ?_ ?_
      | refine LeO.bind ?_ (fun _ => ?_)
noncomputable def spec_spOf.L0 (y0 : List Int) (y1 : Int) (y2 : Int) (y3 : List Bool) (y4 : List Bool) (y5 : List Int) (y6 : Int) (y7 : Int) : Option (Int × Int × Int × Int × List Int × Int × List Int) := lim fun k => spec_spOf.l0 k y0 y1 y2 y3 y4 y5 y6 y7
theorem spec_spOf.L0_sup (y0 : List Int) (y1 : Int) (y2 : Int) (y3 : List Bool) (y4 : List Bool) (y5 : List Int) (y6 : Int) (y7 : Int) : Sup (fun k => spec_spOf.l0 k y0 y1 y2 y3 y4 y5 y6 y7) (spec_spOf.L0 y0 y1 y2 y3 y4 y5 y6 y7) := Sup.of_mono fun k => spec_spOf.mono_l k y0 y1 y2 y3 y4 y5 y6 y7
noncomputable def spec_spOf.F (l0 : List Int) (a1 : Int) : Option (Int × Int × Int × Int × List Int × Int × List Int) := lim fun k => spec_spOf.f k l0 a1
theorem spec_spOf.F_sup (l0 : List Int) (a1 : Int) : Sup (fun k => spec_spOf.f k l0 a1) (spec_spOf.F l0 a1) := Sup.of_mono fun k => spec_spOf.mono l0 a1 k
theorem spec_spOf.L0_eq (x0 : List Int) (x1 : Int) (x5 : Int) (x6 : List Bool) (x7 : List Bool) (x28 : List Int) (x29 : Int) (x30 : Int) : spec_spOf.L0 x0 x1 x5 x6 x7 x28 x29 x30 = if x30 < x29 then (if 0 ≤ x30 then (if x30 < (x28.length : Int) then (if 0 ≤ x5 then (if (shl .i64 1 x5) = 0 then (none) else ((spec_biPut.F x6 (wrap64 (x30 * x5)) x5 (Int.tmod (rd x28 x30) (shl .i64 1 x5))).bind fun t301 => (if 0 ≤ (wrap64 ((shr .i64 (rd x28 x30) x5) + x30)) then (if (wrap64 ((shr .i64 (rd x28 x30) x5) + x30)) < (x7.length : Int) then (spec_spOf.L0 x0 x1 x5 t301 (x7.set ((wrap64 ((shr .i64 (rd x28 x30) x5) + x30)) : Int).toNat true) x28 x29 (wrap64 (x30 + 1))) else (none)) else (none)))) else (none)) else (none)) else (none)) else ((spec_biSome.F x6).bind fun bt303 => ((spec_biSome.F x7).bind fun bt307 => (some ((x0.length : Int), x1, x5, bt303.1, bt303.2, bt307.1, bt307.2)))) := by
  refine Sup.unique (spec_spOf.L0_sup x0 x1 x5 x6 x7 x28 x29 x30) (Sup.shift (fun k => spec_spOf.mono_l k x0 x1 x5 x6 x7 x28 x29 x30) (Sup.congr (g' := fun k => if x30 < x29 then (if 0 ≤ x30 then (if x30 < (x28.length : Int) then (if 0 ≤ x5 then (if (shl .i64 1 x5) = 0 then (none) else ((spec_biPut.f k x6 (wrap64 (x30 * x5)) x5 (Int.tmod (rd x28 x30) (shl .i64 1 x5))).bind fun t301 => (if 0 ≤ (wrap64 ((shr .i64 (rd x28 x30) x5) + x30)) then (if (wrap64 ((shr .i64 (rd x28 x30) x5) + x30)) < (x7.length : Int) then (spec_spOf.l0 k x0 x1 x5 t301 (x7.set ((wrap64 ((shr .i64 (rd x28 x30) x5) + x30)) : Int).toNat true) x28 x29 (wrap64 (x30 + 1))) else (none)) else (none)))) else (none)) else (none)) else (none)) else ((spec_biSome.f k x6).bind fun bt303 => ((spec_biSome.f k x7).bind fun bt307 => (some ((x0.length : Int), x1, x5, bt303.1, bt303.2, bt307.1, bt307.2))))) (fun k => by first | rfl | simp only [spec_spOf.l0]) ?_))
  repeat' first
    | (with_reducible exact spec_spOf.L0_sup _ _ _ _ _ _ _ _)
    | (with_reducible exact spec_spWidth.F_sup _ _)
    | (with_reducible exact spec_biPut.F_sup _ _ _ _)
    | (with_reducible exact spec_biSome.F_sup _)
    | (with_reducible refine Sup.ite ?_ ?_)
    | (with_reducible refine Sup.bind ?_ (fun _ => ?_))
    | (with_reducible exact Sup.const _)
    | exact spec_spOf.L0_sup _ _ _ _ _ _ _ _
    | exact spec_spWidth.F_sup _ _
    | exact spec_biPut.F_sup _ _ _ _
    | exact spec_biSome.F_sup _
    | exact Sup.const _
theorem spec_spOf.F_eq (l0 : List Int) (a1 : Int) : spec_spOf.F l0 a1 = (spec_spWidth.F (l0.length : Int) a1).bind fun t293 => (if 0 ≤ (wrap64 ((l0.length : Int) * t293)) then (if (wrap64 ((l0.length : Int) * t293) : Int).toNat ≤ 281474976710656 then (if 0 ≤ t293 then (if 0 ≤ (wrap64 ((wrap64 ((l0.length : Int) + (shr .i64 (wrap64 (a1 - 1)) t293))) + 1)) then (if (wrap64 ((wrap64 ((l0.length : Int) + (shr .i64 (wrap64 (a1 - 1)) t293))) + 1) : Int).toNat ≤ 281474976710656 then (spec_spOf.L0 l0 a1 t293 (List.replicate (wrap64 ((l0.length : Int) * t293) : Int).toNat false) (List.replicate (wrap64 ((wrap64 ((l0.length : Int) + (shr .i64 (wrap64 (a1 - 1)) t293))) + 1) : Int).toNat false) l0 (l0.length : Int) 0) else (none)) else (none)) else (none)) else (none)) else (none)) := by
  refine Sup.unique (spec_spOf.F_sup l0 a1) (Sup.congr (g' := fun k => (spec_spWidth.f k (l0.length : Int) a1).bind fun t293 => (if 0 ≤ (wrap64 ((l0.length : Int) * t293)) then (if (wrap64 ((l0.length : Int) * t293) : Int).toNat ≤ 281474976710656 then (if 0 ≤ t293 then (if 0 ≤ (wrap64 ((wrap64 ((l0.length : Int) + (shr .i64 (wrap64 (a1 - 1)) t293))) + 1)) then (if (wrap64 ((wrap64 ((l0.length : Int) + (shr .i64 (wrap64 (a1 - 1)) t293))) + 1) : Int).toNat ≤ 281474976710656 then (spec_spOf.l0 k l0 a1 t293 (List.replicate (wrap64 ((l0.length : Int) * t293) : Int).toNat false) (List.replicate (wrap64 ((wrap64 ((l0.length : Int) + (shr .i64 (wrap64 (a1 - 1)) t293))) + 1) : Int).toNat false) l0 (l0.length : Int) 0) else (none)) else (none)) else (none)) else (none)) else (none))) (fun k => by first | rfl | simp only [spec_spOf.f]) ?_)
  repeat' first
    | (with_reducible exact spec_spOf.L0_sup _ _ _ _ _ _ _ _)
    | (with_reducible exact spec_spWidth.F_sup _ _)
    | (with_reducible exact spec_biPut.F_sup _ _ _ _)
    | (with_reducible exact spec_biSome.F_sup _)
    | (with_reducible refine Sup.ite ?_ ?_)
    | (with_reducible refine Sup.bind ?_ (fun _ => ?_))
    | (with_reducible exact Sup.const _)
    | exact spec_spOf.L0_sup _ _ _ _ _ _ _ _
    | exact spec_spWidth.F_sup _ _
    | exact spec_biPut.F_sup _ _ _ _
    | exact spec_biSome.F_sup _
    | exact Sup.const _
set_option maxHeartbeats 8000000 in
set_option maxRecDepth 100000 in
theorem spec_spOf.calls (k : Nat) (A0 : Option Addr) (c0 : Nat) (l0 : List Int) (a1 : Int) (r1 : Int) (r2 : Int) (r3 : Int) (r4 : Int) (r5 : List Int) (r6 : Int) (r7 : List Int) (w : World) (hr0 : Kd.C (Kd.int .i64) w A0 l0.length l0) (hc0 : l0.length ≤ c0) (h : spec_spOf.f k l0 a1 = some (r1, r2, r3, r4, r5, r6, r7)) :
    Calls Try.prog 21 #[.slice A0 l0.length c0, .int .i64 a1] w fun e w' => ∃ v4_ v6_ : Value, e = .returned (.agg #[.int .i64 r1, .int .i64 r2, .int .i64 r3, .int .i64 r4, v4_, .int .i64 r6, v6_]) ∧ Kd.R (Kd.int .i64) 3 w' w.heap.size (fun k_ => some k_ ≠ (v6_ : Value).ownBlock) v4_ r5 ∧ Kd.R (Kd.int .i64) 3 w' w.heap.size (fun k_ => some k_ ≠ (v4_ : Value).ownBlock) v6_ r7 ∧ Below w.heap.size w w' := by
  have hu30 := Try.underlying30; have HR0 := Qx hr0; have HC0 := Qx hc0; clear hr0 hc0
  have HB := Qx (Below.refl w.heap.size w)
  have H : ((spec_spWidth.f k (l0.length : Int) a1).bind fun t293 => (if 0 ≤ (wrap64 ((l0.length : Int) * t293)) then (if (wrap64 ((l0.length : Int) * t293) : Int).toNat ≤ 281474976710656 then (if 0 ≤ t293 then (if 0 ≤ (wrap64 ((wrap64 ((l0.length : Int) + (shr .i64 (wrap64 (a1 - 1)) t293))) + 1)) then (if (wrap64 ((wrap64 ((l0.length : Int) + (shr .i64 (wrap64 (a1 - 1)) t293))) + 1) : Int).toNat ≤ 281474976710656 then (spec_spOf.l0 k l0 a1 t293 (List.replicate (wrap64 ((l0.length : Int) * t293) : Int).toNat false) (List.replicate (wrap64 ((wrap64 ((l0.length : Int) + (shr .i64 (wrap64 (a1 - 1)) t293))) + 1) : Int).toNat false) l0 (l0.length : Int) 0) else (none)) else (none)) else (none)) else (none)) else (none))) = some (r1, r2, r3, r4, r5, r6, r7) := h
  clear h; replace H := Option.bind_eq_some_iff.mp H; obtain ⟨t293, A30, H⟩ := H
  have A3 := Qx A30; clear A30
  obtain ⟨ji4, hji4⟩ : ∃ j_ : Int, (wrap64 ((l0.length : Int) * t293)) = j_ := ⟨_, rfl⟩
  replace H : (if 0 ≤ (ji4) then (if (ji4 : Int).toNat ≤ 281474976710656 then (if 0 ≤ t293 then (if 0 ≤ (wrap64 ((wrap64 ((l0.length : Int) + (shr .i64 (wrap64 (a1 - 1)) t293))) + 1)) then (if (wrap64 ((wrap64 ((l0.length : Int) + (shr .i64 (wrap64 (a1 - 1)) t293))) + 1) : Int).toNat ≤ 281474976710656 then (spec_spOf.l0 k l0 a1 t293 (List.replicate (ji4 : Int).toNat false) (List.replicate (wrap64 ((wrap64 ((l0.length : Int) + (shr .i64 (wrap64 (a1 - 1)) t293))) + 1) : Int).toNat false) l0 (l0.length : Int) 0) else (none)) else (none)) else (none)) else (none)) else (none)) = some (r1, r2, r3, r4, r5, r6, r7) := by first | (rw [hji4] at H; exact H) | (simp only [hji4] at H ⊢; exact H)
  (try rw [hji4] at A3)
  have hji4w : (IntKind.i64.wrap ((l0.length : Int) * t293)) = ji4 := (i64_w _).trans hji4
  by_cases c5 : 0 ≤ (ji4)
  ·rw [if_pos c5] at H; have c5b0 := eq_true c5
   have c5b1 : decide (0 ≤ (ji4)) = true := decide_eq_true c5
   clear c5
   by_cases c6 : (ji4 : Int).toNat ≤ 281474976710656
   ·rw [if_pos c6] at H; have c6b0 := eq_true c6
    have c6b1 : decide ((ji4 : Int).toNat ≤ 281474976710656) = true := decide_eq_true c6
    clear c6
    obtain ⟨y294, hy294⟩ : ∃ y_ : List Bool, y_ = (List.replicate (ji4 : Int).toNat false) := ⟨_, rfl⟩
    replace H : (if 0 ≤ t293 then (if 0 ≤ (wrap64 ((wrap64 ((l0.length : Int) + (shr .i64 (wrap64 (a1 - 1)) t293))) + 1)) then (if (wrap64 ((wrap64 ((l0.length : Int) + (shr .i64 (wrap64 (a1 - 1)) t293))) + 1) : Int).toNat ≤ 281474976710656 then (spec_spOf.l0 k l0 a1 t293 y294 (List.replicate (wrap64 ((wrap64 ((l0.length : Int) + (shr .i64 (wrap64 (a1 - 1)) t293))) + 1) : Int).toNat false) l0 (l0.length : Int) 0) else (none)) else (none)) else (none)) = some (r1, r2, r3, r4, r5, r6, r7) := by first | (rw [hy294]; with_reducible exact H) | (have H2_ := (Option.bind_some _ _).symm.trans H; rw [hy294]; with_reducible exact H2_) | (have H2_ := (Option.bind_some _ _).symm.trans H; with_reducible exact H2_) | with_reducible exact H | (rw [hy294]; exact H) | exact H
    have Ny294 := Qx hy294; clear hy294
    by_cases c7 : 0 ≤ t293
    ·rw [if_pos c7] at H; have c7b0 := eq_true c7
     have c7b1 : decide (0 ≤ t293) = true := decide_eq_true c7
     clear c7
     obtain ⟨ji8, hji8⟩ : ∃ j_ : Int, (shr .i64 (wrap64 (a1 - 1)) t293) = j_ := ⟨_, rfl⟩
     replace H : (if 0 ≤ (wrap64 ((wrap64 ((l0.length : Int) + (ji8))) + 1)) then (if (wrap64 ((wrap64 ((l0.length : Int) + (ji8))) + 1) : Int).toNat ≤ 281474976710656 then (spec_spOf.l0 k l0 a1 t293 y294 (List.replicate (wrap64 ((wrap64 ((l0.length : Int) + (ji8))) + 1) : Int).toNat false) l0 (l0.length : Int) 0) else (none)) else (none)) = some (r1, r2, r3, r4, r5, r6, r7) := by first | (rw [hji8] at H; exact H) | (simp only [hji8] at H ⊢; exact H)
     (try rw [hji8] at A3)
     have hji8_ : ((wrap64 (a1 - 1)) / 2 ^ min t293.toNat 64) = ji8 := hji8
     have hji8z : t293 ≤ 64 → ((wrap64 (a1 - 1)) / 2 ^ t293.toNat) = ji8 := shr_small hji8
     obtain ⟨ji9, hji9⟩ : ∃ j_ : Int, (wrap64 ((wrap64 ((l0.length : Int) + (ji8))) + 1)) = j_ := ⟨_, rfl⟩
     replace H : (if 0 ≤ (ji9) then (if (ji9 : Int).toNat ≤ 281474976710656 then (spec_spOf.l0 k l0 a1 t293 y294 (List.replicate (ji9 : Int).toNat false) l0 (l0.length : Int) 0) else (none)) else (none)) = some (r1, r2, r3, r4, r5, r6, r7) := by first | (rw [hji9] at H; exact H) | (simp only [hji9] at H ⊢; exact H)
     (try rw [hji9] at A3)
     have hji9w : (IntKind.i64.wrap ((wrap64 ((l0.length : Int) + (ji8))) + 1)) = ji9 := (i64_w _).trans hji9
     by_cases c10 : 0 ≤ (ji9)
     ·rw [if_pos c10] at H; have c10b0 := eq_true c10
      have c10b1 : decide (0 ≤ (ji9)) = true := decide_eq_true c10
      clear c10
      by_cases c11 : (ji9 : Int).toNat ≤ 281474976710656
      ·rw [if_pos c11] at H; have c11b0 := eq_true c11
       have c11b1 : decide ((ji9 : Int).toNat ≤ 281474976710656) = true := decide_eq_true c11
       clear c11
       obtain ⟨y297, hy297⟩ : ∃ y_ : List Bool, y_ = (List.replicate (ji9 : Int).toNat false) := ⟨_, rfl⟩
       replace H : (spec_spOf.l0 k l0 a1 t293 y294 y297 l0 (l0.length : Int) 0) = some (r1, r2, r3, r4, r5, r6, r7) := by first | (rw [hy297]; with_reducible exact H) | (have H2_ := (Option.bind_some _ _).symm.trans H; rw [hy297]; with_reducible exact H2_) | (have H2_ := (Option.bind_some _ _).symm.trans H; with_reducible exact H2_) | with_reducible exact H | (rw [hy297]; exact H) | exact H
       have Ny297 := Qx hy297; clear hy297; have H' := Qx H; clear H
       go_enter Try.func21, Try.ntmps21
       go_wp2_with (first | ((with_reducible refine gate_dst (N := 4) rfl ?_); refine bx_ 4 #[.int .i64 0, .int .i64 0, .int .i64 0, .int .i64 0, .slice none 0 0, .int .i64 0, .slice none 0 0] 30 ?_; intro gb292 hg w12 hbox hb; have BK292 := Qx (hbox); have GW292 := Qx ((ge_ hg)); have GE292 := Qx ((ge_ hg)); replace HB := Qx (Qp hB_ hb); clear hb hbox hg) | ((with_reducible refine gate_callee (f := 39) rfl ?_); refine gl_ 13 Try.func39 #[.int .i64 (l0.length : Int), .int .i64 a1] ?_; (with_reducible refine (spec_spWidth.calls k (l0.length : Int) a1 t293 _ A3.out).mono ?_); rintro e w' ⟨rfl, ⟨nd, rfl⟩⟩; refine ⟨_, rfl, ?_⟩) | ((with_reducible refine gate_dst (N := 18) rfl ?_); refine Kd.R_make Kd.bool _ 4 rfl (N := 18) rfl 62 _ _ rfl ji4 rfl rfl Try.underlying62 (.bool false) 1 info4 rfl (by decide) (by omega) false (ok := fun _ => True) (okp := fun _ => True) rfl (fun _ hk => hk) trivial (of_decide_eq_true as_) (Nat.le_trans (Nat.mul_le_mul_right _ (of_decide_eq_true as_ : ji4.toNat ≤ 281474976710656)) (by omega)) (Below.refl _ _) (Nat.le_refl _) ?_; intro v295 w13 ho14 hb hg_ hnew_; clear hg_ hnew_; (first | rw [← Ny294.out] at ho14 | (simp only [Int.reduceToNat] at ho14; rw [← Ny294.out] at ho14)); have HO296 := Qx (Kd.R_lower ho14 (below_size hB_)); replace BK292 := Qx (Qb (kB_ BK292) hb); replace HB := Qx (Qp hB_ hb); clear hb ho14) | ((with_reducible refine gate_dst (N := 27) rfl ?_); refine Kd.R_make Kd.bool _ 4 rfl (N := 27) rfl 62 _ _ rfl ji9 rfl rfl Try.underlying62 (.bool false) 1 info4 rfl (by decide) (by omega) false (ok := fun _ => True) (okp := fun _ => True) rfl (fun _ hk => hk) trivial (of_decide_eq_true as_) (Nat.le_trans (Nat.mul_le_mul_right _ (of_decide_eq_true as_ : ji9.toNat ≤ 281474976710656)) (by omega)) (Below.refl _ _) (Nat.le_refl _) ?_; intro v298 w15 ho16 hb hg_ hnew_; clear hg_ hnew_; (first | rw [← Ny297.out] at ho16 | (simp only [Int.reduceToNat] at ho16; rw [← Ny297.out] at ho16)); have HO299 := Qx (Kd.R_lower (Kd.R_new' ho16 (Kd.R_lt (kR_ HO296))) (below_size hB_)); replace HO296 := Qx (Kd.R_elder' (kR_ HO296) (Kd.R_base ho16) hb); replace BK292 := Qx (Qb (kB_ BK292) hb); replace HB := Qx (Qp hB_ hb); clear hb ho16))
       go_loopg [30] k (fun kq v30 w' => ∃ (x6_1 : List Bool) (x7_1 : List Bool) (x30_1 : Int), v30 = .int .i64 x30_1 ∧ Aside0 (spec_spOf.l0 kq l0 a1 t293 x6_1 x7_1 l0 (l0.length : Int) x30_1 = some (r1, r2, r3, r4, r5, r6, r7)) ∧ Aside0 (kq ≤ k) ∧ Aside0 (Kd.R Kd.bool 4 w' w.heap.size (fun k_ => some k_ ≠ (v298 : Value).ownBlock) v295 x6_1) ∧ Aside0 (Kd.R Kd.bool 4 w' w.heap.size (fun k_ => some k_ ≠ (v295 : Value).ownBlock) v298 x7_1) ∧ Aside0 (w'.heap[gb292]? = some (.cells #[.int .i64 0, .int .i64 0, .int .i64 0, .int .i64 0, (.slice none 0 0), .int .i64 0, (.slice none 0 0)] 30 (0, 0))) ∧ Aside0 (Below w.heap.size w w'))
       case atStart => exact ⟨(y294), (y297), (0), rg_, H', ⟨Nat.le_refl _⟩, ⟨by (with_reducible repeat (first | apply Kd.R_alloc | apply Kd.R_drewN | apply Kd.R_drew)); exact Qrm HO296.out (fun _ hk => hk.2)⟩, ⟨by (with_reducible repeat (first | apply Kd.R_alloc | apply Kd.R_drewN | apply Kd.R_drew)); exact Qrm HO299.out (fun _ hk => hk.2)⟩, ⟨kB_ BK292⟩, ⟨hB_⟩⟩
       case round =>
        clear H'
        try clear c1
        try clear c2
        try clear p2
        try clear c3
        try clear c5
        try clear c5b0
        try clear c5b1
        try clear c6
        try clear c6b0
        try clear c6b1
        try clear p6
        try clear c7
        try clear c7b0
        try clear c7b1
        try clear c10
        try clear c10b0
        try clear c10b1
        try clear c11
        try clear c11b0
        try clear c11b1
        obtain ⟨x6_1, x7_1, x30_1, rfl, HA, HK1, HO_6, HO_7, BK292, HB⟩ := hrel
        cases gk with
        | zero => exact absurd HA.out (by simp [spec_spOf.l0])
        | succ k1 =>
         have H := HA.out; clear HA; simp only [spec_spOf.l0] at H
         by_cases c17 : x30_1 < (l0.length : Int)
         ·rw [if_pos c17] at H
          have c17b0 : decide (x30_1 < (l0.length : Int)) = true := decide_eq_true c17
          clear c17
          by_cases c18 : 0 ≤ x30_1
          ·rw [if_pos c18] at H
           have c18b0 : decide (0 ≤ x30_1) = true := decide_eq_true c18
           clear c18
           by_cases c19 : x30_1 < (l0.length : Int)
           ·rw [if_pos c19] at H
            have c19b0 : decide (x30_1 < (l0.length : Int)) = true := decide_eq_true c19
            clear c19
            by_cases c20 : 0 ≤ t293
            ·rw [if_pos c20] at H; have c20b0 := eq_true c20
             have c20b1 : decide (0 ≤ t293) = true := decide_eq_true c20
             clear c20
             obtain ⟨ji21, hji21⟩ : ∃ j_ : Int, (shl .i64 1 t293) = j_ := ⟨_, rfl⟩
             replace H : (if (ji21) = 0 then (none) else ((spec_biPut.f k1 x6_1 (wrap64 (x30_1 * t293)) t293 (Int.tmod (rd l0 x30_1) (ji21))).bind fun t301 => (if 0 ≤ (wrap64 ((shr .i64 (rd l0 x30_1) t293) + x30_1)) then (if (wrap64 ((shr .i64 (rd l0 x30_1) t293) + x30_1)) < (x7_1.length : Int) then (spec_spOf.l0 k1 l0 a1 t293 t301 (x7_1.set ((wrap64 ((shr .i64 (rd l0 x30_1) t293) + x30_1)) : Int).toNat true) l0 (l0.length : Int) (wrap64 (x30_1 + 1))) else (none)) else (none)))) = some (r1, r2, r3, r4, r5, r6, r7) := by first | (rw [hji21] at H; exact H) | (simp only [hji21] at H ⊢; exact H)
             have hji21_ : (IntKind.i64.wrap (1 * 2 ^ min t293.toNat 64)) = ji21 := hji21
             have hji21z : t293 ≤ 64 → (IntKind.i64.wrap (1 * 2 ^ t293.toNat)) = ji21 := shl_small hji21
             have hji21u : (IntKind.i64.wrap (2 ^ min t293.toNat 64)) = ji21 := by have h_ := hji21_; rw [Int.one_mul] at h_; exact h_
             have hji21v : t293 ≤ 64 → (IntKind.i64.wrap (2 ^ t293.toNat)) = ji21 := fun hle_ => by have h_ := hji21z hle_; rw [Int.one_mul] at h_; exact h_
             have hji21y : (wrap64 (1 * 2 ^ min t293.toNat 64)) = ji21 := (i64_w _).symm.trans hji21_
             have hji21x : t293 ≤ 64 → (wrap64 (1 * 2 ^ t293.toNat)) = ji21 := fun h_ => (i64_w _).symm.trans (hji21z h_)
             by_cases c22 : (ji21) = 0
             ·rw [if_pos c22] at H
              exact absurd H (by simp)
             ·rw [if_neg c22] at H
              have c22b0 : ((ji21) == 0) = false := beq_eq_false_iff_ne.mpr c22
              have c22b1 : ((ji21) != 0) = true := bne_iff_ne.mpr c22
              replace H := Option.bind_eq_some_iff.mp H; obtain ⟨t301, A230, H⟩ := H
              have A23 := Qx A230; clear A230
              have c24b0 := eq_true (of_decide_eq_true as_ : 0 ≤ t293)
              obtain ⟨ji25, hji25⟩ : ∃ j_ : Int, (shr .i64 (rd l0 x30_1) t293) = j_ := ⟨_, rfl⟩
              replace H : (if 0 ≤ (wrap64 ((ji25) + x30_1)) then (if (wrap64 ((ji25) + x30_1)) < (x7_1.length : Int) then (spec_spOf.l0 k1 l0 a1 t293 t301 (x7_1.set ((wrap64 ((ji25) + x30_1)) : Int).toNat true) l0 (l0.length : Int) (wrap64 (x30_1 + 1))) else (none)) else (none)) = some (r1, r2, r3, r4, r5, r6, r7) := by first | (rw [hji25] at H; exact H) | (simp only [hji25] at H ⊢; exact H)
              (try rw [hji25] at A23)
              have hji25_ : ((rd l0 x30_1) / 2 ^ min t293.toNat 64) = ji25 := hji25
              have hji25z : t293 ≤ 64 → ((rd l0 x30_1) / 2 ^ t293.toNat) = ji25 := shr_small hji25
              obtain ⟨ji26, hji26⟩ : ∃ j_ : Int, (wrap64 ((ji25) + x30_1)) = j_ := ⟨_, rfl⟩
              replace H : (if 0 ≤ (ji26) then (if (ji26) < (x7_1.length : Int) then (spec_spOf.l0 k1 l0 a1 t293 t301 (x7_1.set ((ji26) : Int).toNat true) l0 (l0.length : Int) (wrap64 (x30_1 + 1))) else (none)) else (none)) = some (r1, r2, r3, r4, r5, r6, r7) := by first | (rw [hji26] at H; exact H) | (simp only [hji26] at H ⊢; exact H)
              (try rw [hji26] at A23)
              have hji26w : (IntKind.i64.wrap ((ji25) + x30_1)) = ji26 := (i64_w _).trans hji26
              by_cases c27 : 0 ≤ (ji26)
              ·rw [if_pos c27] at H
               have c27b0 : decide (0 ≤ (ji26)) = true := decide_eq_true c27
               clear c27
               by_cases c28 : (ji26) < (x7_1.length : Int)
               ·rw [if_pos c28] at H
                have c28b0 : decide ((ji26) < (x7_1.length : Int)) = true := decide_eq_true c28
                clear c28
                obtain ⟨y302, hy302⟩ : ∃ y_ : List Bool, y_ = (x7_1.set ((ji26) : Int).toNat true) := ⟨_, rfl⟩
                replace H : (spec_spOf.l0 k1 l0 a1 t293 t301 y302 l0 (l0.length : Int) (wrap64 (x30_1 + 1))) = some (r1, r2, r3, r4, r5, r6, r7) := by first | (rw [hy302]; with_reducible exact H) | (have H2_ := (Option.bind_some _ _).symm.trans H; rw [hy302]; with_reducible exact H2_) | (have H2_ := (Option.bind_some _ _).symm.trans H; with_reducible exact H2_) | with_reducible exact H | (rw [hy302]; exact H) | exact H
                have Ny302 := Qx hy302; clear hy302; have H' := Qx H; clear H
                have p300 : 0 ≤ (x30_1 : Int) := of_decide_eq_true as_
                have q300 : x30_1 < (l0.length : Int) := of_decide_eq_true as_
                obtain ⟨ad300, e300, hx300_0⟩ := Kd.at_int HR0.out x30_1 p300 q300
                cases e300
                replace hx300_0 := (HB.out.cell (World.block_lt_of_cell? w _ hx300_0)).trans hx300_0
                replace p300 := eq_true p300; replace q300 := eq_true q300; obtain ⟨Ao30, co30, eo30⟩ := Kd.R_slice HO_6.out; subst eo30
                go_wp2_with (first | ((with_reducible refine gate_callee (f := 40) rfl ?_); refine goesL_ (some 44) rfl rfl Try.func40 (by kernel_rfl) rfl #[.slice Ao30 x6_1.length co30, .int .i64 (wrap64 (x30_1 * t293)), .int .i64 t293, .int .i64 (Int.tmod (rd l0 x30_1) (ji21))] rfl (by (try simp only [List.map_toArray, List.map_cons, List.map_nil]); first | done | (simp only [hji21]; rfl) | rfl | (simp only [List.length_drop, List.length_take]; rfl)) ?_; (with_reducible refine (spec_biPut.calls k1 (fun k_ => some k_ = (.slice Ao30 x6_1.length co30 : Value).ownBlock) (.slice Ao30 x6_1.length co30) x6_1 (wrap64 (x30_1 * t293)) t293 (Int.tmod (rd l0 x30_1) (ji21)) t301 w _ ?side1 ?side2 A23.out).mono ?_); (case side1 => exact hB_); (case side2 => exact Kd.R_tight rfl HO_6.out); rintro e w31 ⟨rfl, hy0, hb, hkp⟩; refine ⟨_, rfl, ?_⟩; replace HO_7 := Qx (Qrm (ok' := fun k_ => some k_ ≠ (.slice Ao30 x6_1.length co30 : Value).ownBlock) (Kd.R_keptB (HO_7.out) hkp (fun k_ hk_ hs_ => (hk_) hs_)) (fun k_ hk_ => hk_.1)); replace BK292 := Qx (blk_kept (kB_ BK292) hkp (fun hs_ => (fun e_ => (Kd.R_ne HO_6.out BK292.out (by decide)) e_) hs_)); replace HO_6 := Qx (Kd.R_reok rfl hy0 (fun k_ e_ => HO_6.out.1 k_ e_)); replace HB := Qx (hb); (try clear hb); (try clear hkp); (try clear hy0); have p29 : 0 ≤ ((ji26) : Int) := of_decide_eq_true as_; have q29 : ((ji26) : Int) < ((x7_1.length : Int) : Int) := of_decide_eq_true as_; obtain ⟨go29, co29, eo29, gb29, gl29, cl29, HG29⟩ := Kd.R_form HO_7.out (by omega); (first | cases eo29 | (injection eo29 with ea_ en_ ec_; (first | subst ea_ | (injection ea_ with ea_; subst ea_)); subst ec_; clear en_)); have GB29 := Qx gb29; have GG29 := Qx HG29; clear gb29 gl29 HG29; obtain ⟨hx29_0, hf29_0⟩ := Kd.R_celln false HO_7.out ((ji26) : Int) p29 q29; replace p29 := eq_true p29; replace q29 := eq_true q29; obtain ⟨hy32_, hz32_⟩ := Kd.R_celln false HO_7.out ((ji26) : Int) (of_decide_eq_true as_) (of_decide_eq_true as_); have HP32 := Kd.R_putg HO_7.out ((ji26) : Int) true) | ((with_reducible refine gate_store (t := 4) (p := 51) rfl ?_); refine store_event (t := 4) (p := 51) (v := ?vo_w33) (w1 := (w31.setCell ⟨go29, ((ji26) : Int).toNat, none⟩ (.bool true))) ?hg ?ho ?hn ?hr ?_; (case ho => rfl); (case hg => rfl); (case hn => rfl); (case hr => first | (go_simp; done) | (go_simp; rfl)); intro w33 hw; have hg : w31.grownBy w33 (some go29) := (by rw [hw]; exact HP32.2); have hp_ : Kd.R Kd.bool 4 w33 w.heap.size (fun k_ => some k_ ≠ (.slice Ao30 x6_1.length co30 : Value).ownBlock) (.slice (some ⟨go29, 0, none⟩) x7_1.length co29) y302 := (by rw [hw, Ny302.out]; exact HP32.1); clear HP32; replace HO_6 := Qx (Kd.R_after (v := (.slice (some ⟨go29, 0, none⟩) x7_1.length co29)) (v1 := (.slice (some ⟨go29, 0, none⟩) x7_1.length co29)) (ok := (fun _ => True)) (by (with_reducible repeat (first | apply Kd.R_alloc | apply Kd.R_drewN | apply Kd.R_drew)); exact Qrm HO_6.out (fun _ hk => ⟨trivial, hk⟩)) hg (.inl rfl)); replace BK292 := Qx (blk_grown (kB_ BK292) hg (Kd.R_ne HO_7.out BK292.out (by decide))); replace HO_7 := Qx (hp_); replace HB := Qx ((by rw [hw]; exact below_set (HB.out) GB29.out : Below w.heap.size w w33)); clear hg hw hp_))
                go_roundg k1
                case measure => have := HK1.out; omega
                case rel => exact ⟨(t301), (y302), (wrap64 (x30_1 + 1)), rg_, H', ⟨by have := HK1.out; omega⟩, ⟨by (with_reducible repeat (first | apply Kd.R_alloc | apply Kd.R_drewN | apply Kd.R_drew)); exact Qrm HO_6.out (fun _ hk => hk.2)⟩, ⟨kR_ HO_7⟩, ⟨kB_ BK292⟩, ⟨hB_⟩⟩
               ·rw [if_neg c28] at H
                exact absurd H (by simp)
              ·rw [if_neg c27] at H
               exact absurd H (by simp)
            ·rw [if_neg c20] at H
             exact absurd H (by simp)
           ·rw [if_neg c19] at H
            exact absurd H (by simp)
          ·rw [if_neg c18] at H
           exact absurd H (by simp)
         ·rw [if_neg c17] at H
          have c17b0 : decide (x30_1 < (l0.length : Int)) = false := decide_eq_false c17
          clear c17; replace H := Option.bind_eq_some_iff.mp H; obtain ⟨⟨t303, t304⟩, A340, H⟩ := H
          have A34 := Qx A340; clear A340; replace H := Option.bind_eq_some_iff.mp H; obtain ⟨⟨t307, t308⟩, A350, H⟩ := H
          have A35 := Qx A350; clear A350; simp only [Option.some.injEq, Prod.mk.injEq] at H; obtain ⟨rfl, rfl, rfl, rfl, rfl, rfl, rfl⟩ := H; obtain ⟨Ao36, co36, eo36⟩ := Kd.R_slice HO_6.out; subst eo36
          go_wp2_with (first | ((with_reducible refine gate_callee (f := 41) rfl ?_); refine gl_ 58 Try.func41 #[.slice Ao36 x6_1.length co36] ?_; (with_reducible refine (spec_biSome.calls k1 _ _ x6_1 t303 t304 _ ?side1 ?side2 A34.out).mono ?_); (case side1 => exact kD_ HO_6); (case side2 => exact (Kd.R_reads' HO_6.out).2.1); rintro e w37 ⟨v305, rfl, ho0, hb⟩; refine ⟨_, rfl, ?_⟩; replace HO_6 := Qx (Kd.R_below (kR_ HO_6) hb); replace HO_7 := Qx (Kd.R_below (kR_ HO_7) hb); have HO306 := Qx (Kd.R_lower ho0 (below_size hB_)); replace BK292 := Qx (Qb (kB_ BK292) hb); replace HB := Qx (Qp hB_ hb); (try clear hb); (try clear hb2); (try clear hk); (try clear hi); (try clear ho0); obtain ⟨Ao38, co38, eo38⟩ := Kd.R_slice HO_7.out; subst eo38) | ((with_reducible refine gate_callee (f := 41) rfl ?_); refine gl_ 60 Try.func41 #[.slice Ao38 x7_1.length co38] ?_; (with_reducible refine (spec_biSome.calls k1 _ _ x7_1 t307 t308 _ ?side1 ?side2 A35.out).mono ?_); (case side1 => exact kD_ HO_7); (case side2 => exact (Kd.R_reads' HO_7.out).2.1); rintro e w39 ⟨v309, rfl, ho0, hb⟩; refine ⟨_, rfl, ?_⟩; replace HO_6 := Qx (Kd.R_below (kR_ HO_6) hb); replace HO_7 := Qx (Kd.R_below (kR_ HO_7) hb); have HO310 := Qx (Kd.R_lower (Kd.R_new' ho0 (Kd.R_lt (kR_ HO306))) (below_size hB_)); replace HO306 := Qx (Kd.R_elder' (kR_ HO306) (Kd.R_base ho0) hb); replace BK292 := Qx (Qb (kB_ BK292) hb); replace HB := Qx (Qp hB_ hb); (try clear hb); (try clear hb2); (try clear hk); (try clear hi); (try clear ho0); obtain ⟨Ao40, co40, eo40⟩ := Kd.R_slice HO310.out; subst eo40; obtain ⟨Ao41, co41, eo41⟩ := Kd.R_slice HO306.out; subst eo41; obtain ⟨hcz42_0, hcz42_1, hcz42_2, hcz42_3, hcz42_4, hcz42_5, hcz42_6, hfz42_0, hfz42_1, hfz42_2, hfz42_3, hfz42_4, hfz42_5, hfz42_6⟩ := cellsQ7_g1c (w := w39) BK292.out))
          refine bodyPost_ret (results_cell_row rfl _ _ gb292 30 #[.int .i64 (l0.length : Int), .int .i64 a1, .int .i64 t293, .int .i64 t303, .slice Ao41 t304.length co41, .int .i64 t307, .slice Ao40 t308.length co40] (0, 0) _ rfl (by (with_reducible repeat (first | refine Qm ?_ _ | refine Qw ?_ | refine Qk ?_ _)); refine Qu (cs := #[.int .i64 (l0.length : Int), .int .i64 a1, .int .i64 t293, .int .i64 t303, .slice Ao41 t304.length co41, .int .i64 t307, .slice none 0 0]) ?_ 6 _ rfl; (with_reducible repeat (first | refine Qm ?_ _ | refine Qw ?_ | refine Qk ?_ _)); refine Qu (cs := #[.int .i64 (l0.length : Int), .int .i64 a1, .int .i64 t293, .int .i64 t303, .slice Ao41 t304.length co41, .int .i64 0, .slice none 0 0]) ?_ 5 _ rfl; (with_reducible repeat (first | refine Qm ?_ _ | refine Qw ?_ | refine Qk ?_ _)); refine Qu (cs := #[.int .i64 (l0.length : Int), .int .i64 a1, .int .i64 t293, .int .i64 t303, .slice none 0 0, .int .i64 0, .slice none 0 0]) ?_ 4 _ rfl; (with_reducible repeat (first | refine Qm ?_ _ | refine Qw ?_ | refine Qk ?_ _)); refine Qu (cs := #[.int .i64 (l0.length : Int), .int .i64 a1, .int .i64 t293, .int .i64 0, .slice none 0 0, .int .i64 0, .slice none 0 0]) ?_ 3 _ rfl; (with_reducible repeat (first | refine Qm ?_ _ | refine Qw ?_ | refine Qk ?_ _)); refine Qu (cs := #[.int .i64 (l0.length : Int), .int .i64 a1, .int .i64 0, .int .i64 0, .slice none 0 0, .int .i64 0, .slice none 0 0]) ?_ 2 _ rfl; (with_reducible repeat (first | refine Qm ?_ _ | refine Qw ?_ | refine Qk ?_ _)); refine Qu (cs := #[.int .i64 (l0.length : Int), .int .i64 0, .int .i64 0, .int .i64 0, .slice none 0 0, .int .i64 0, .slice none 0 0]) ?_ 1 _ rfl; (with_reducible repeat (first | refine Qm ?_ _ | refine Qw ?_ | refine Qk ?_ _)); refine Qu (cs := #[.int .i64 0, .int .i64 0, .int .i64 0, .int .i64 0, .slice none 0 0, .int .i64 0, .slice none 0 0]) ?_ 0 _ rfl; (with_reducible repeat (first | refine Qm ?_ _ | refine Qw ?_ | refine Qk ?_ _)); exact BK292.out) Try.underlying30 rfl (by kernel_rfl)) rfl ?_
          exact ⟨_, _, by first | rfl | (simp [errW_none, errW_some] <;> rfl) | (simp only [← hji4, ← hji8, ← hji9]; first | rfl | (simp [errW_none, errW_some] <;> rfl)) | (simp [*, errW_none, errW_some] <;> rfl), by (with_reducible repeat (first | apply Kd.R_alloc | apply Kd.R_drewN | apply Kd.R_drew)); exact Qrm (farsQ7_g1c (Kd.R_types HO306.out BK292.out (by decide)) (fun _ hk => hk.2) (.int .i64 (l0.length : Int)) (.int .i64 a1) (.int .i64 t293) (.int .i64 t303) (.slice Ao41 t304.length co41) (.int .i64 t307) (.slice Ao40 t308.length co40)) (fun _ hk => hk.1.2), by (with_reducible repeat (first | apply Kd.R_alloc | apply Kd.R_drewN | apply Kd.R_drew)); exact Qrm (farsQ7_g1c (Kd.R_types HO310.out BK292.out (by decide)) (fun _ hk => hk.2) (.int .i64 (l0.length : Int)) (.int .i64 a1) (.int .i64 t293) (.int .i64 t303) (.slice Ao41 t304.length co41) (.int .i64 t307) (.slice Ao40 t308.length co40)) (fun _ hk => hk.1.2), hB_⟩
      ·rw [if_neg c11] at H
       exact absurd H (by simp)
     ·rw [if_neg c10] at H
      exact absurd H (by simp)
    ·rw [if_neg c7] at H
     exact absurd H (by simp)
   ·rw [if_neg c6] at H
    exact absurd H (by simp)
  ·rw [if_neg c5] at H
   exact absurd H (by simp)
/-! ### spec_BuildSparse: function 7 -/
def spec_BuildSparse.f (k : Nat) (l0 : List Int) (a1 : Int) : Option (Int × Int × Int × Int × List Int × Int × List Int × Bool) := (spec_spSorted.f k l0 a1).bind fun t312 => (if t312 = true then ((spec_spOf.f k l0 a1).bind fun bt313 => (some (bt313.1, bt313.2.1, bt313.2.2.1, bt313.2.2.2.1, bt313.2.2.2.2.1, bt313.2.2.2.2.2.1, bt313.2.2.2.2.2.2, true))) else (some (0, 0, 0, 0, ([] : List Int), 0, ([] : List Int), false)))
theorem spec_BuildSparse.mono : ∀ a0 a1 k, LeO (spec_BuildSparse.f k a0 a1) (spec_BuildSparse.f (k + 1) a0 a1) := by
  intro a0 a1 k
  unfold spec_BuildSparse.f
  repeat' first
      | (with_reducible exact spec_spOf.mono _ _ _)
      | (with_reducible exact spec_spSorted.mono _ _ _)
      | (with_reducible exact LeO.refl _)
      | (with_reducible exact LeO.none _)
      | (with_reducible refine LeO.ite ?_ ?_)
      | (with_reducible refine LeO.bind ?_ (fun _ => ?_))
      | exact spec_spOf.mono _ _ _
      | exact spec_spSorted.mono _ _ _
      | exact LeO.none _
      | refine LeO.ite ?_ ?_
      | refine LeO.bind ?_ (fun _ => ?_)
noncomputable def spec_BuildSparse.F (l0 : List Int) (a1 : Int) : Option (Int × Int × Int × Int × List Int × Int × List Int × Bool) := lim fun k => spec_BuildSparse.f k l0 a1
theorem spec_BuildSparse.F_sup (l0 : List Int) (a1 : Int) : Sup (fun k => spec_BuildSparse.f k l0 a1) (spec_BuildSparse.F l0 a1) := Sup.of_mono fun k => spec_BuildSparse.mono l0 a1 k
theorem spec_BuildSparse.F_eq (l0 : List Int) (a1 : Int) : spec_BuildSparse.F l0 a1 = (spec_spSorted.F l0 a1).bind fun t312 => (if t312 = true then ((spec_spOf.F l0 a1).bind fun bt313 => (some (bt313.1, bt313.2.1, bt313.2.2.1, bt313.2.2.2.1, bt313.2.2.2.2.1, bt313.2.2.2.2.2.1, bt313.2.2.2.2.2.2, true))) else (some (0, 0, 0, 0, ([] : List Int), 0, ([] : List Int), false))) := by
  refine Sup.unique (spec_BuildSparse.F_sup l0 a1) (Sup.congr (g' := fun k => (spec_spSorted.f k l0 a1).bind fun t312 => (if t312 = true then ((spec_spOf.f k l0 a1).bind fun bt313 => (some (bt313.1, bt313.2.1, bt313.2.2.1, bt313.2.2.2.1, bt313.2.2.2.2.1, bt313.2.2.2.2.2.1, bt313.2.2.2.2.2.2, true))) else (some (0, 0, 0, 0, ([] : List Int), 0, ([] : List Int), false)))) (fun k => by first | rfl | simp only [spec_BuildSparse.f]) ?_)
  repeat' first
    | (with_reducible exact spec_spSorted.F_sup _ _)
    | (with_reducible exact spec_spOf.F_sup _ _)
    | (with_reducible refine Sup.ite ?_ ?_)
    | (with_reducible refine Sup.bind ?_ (fun _ => ?_))
    | (with_reducible exact Sup.const _)
    | exact spec_spSorted.F_sup _ _
    | exact spec_spOf.F_sup _ _
    | exact Sup.const _
set_option maxHeartbeats 8000000 in
set_option maxRecDepth 100000 in
theorem spec_BuildSparse.calls (k : Nat) (A0 : Option Addr) (c0 : Nat) (l0 : List Int) (a1 : Int) (r1 : Int) (r2 : Int) (r3 : Int) (r4 : Int) (r5 : List Int) (r6 : Int) (r7 : List Int) (r8 : Bool) (w : World) (hr0 : Kd.C (Kd.int .i64) w A0 l0.length l0) (hc0 : l0.length ≤ c0) (h : spec_BuildSparse.f k l0 a1 = some (r1, r2, r3, r4, r5, r6, r7, r8)) :
    Calls Try.prog 7 #[.slice A0 l0.length c0, .int .i64 a1] w fun e w' => ∃ v4_ v6_ : Value, e = .returned (.tuple #[.agg #[.int .i64 r1, .int .i64 r2, .int .i64 r3, .int .i64 r4, v4_, .int .i64 r6, v6_], .bool r8]) ∧ Kd.R (Kd.int .i64) 3 w' w.heap.size (fun k_ => some k_ ≠ (v6_ : Value).ownBlock) v4_ r5 ∧ Kd.R (Kd.int .i64) 3 w' w.heap.size (fun k_ => some k_ ≠ (v4_ : Value).ownBlock) v6_ r7 ∧ Below w.heap.size w w' := by
  have hu30 := Try.underlying30; have HR0 := Qx hr0; have HC0 := Qx hc0; clear hr0 hc0
  have HB := Qx (Below.refl w.heap.size w)
  have H : ((spec_spSorted.f k l0 a1).bind fun t312 => (if t312 = true then ((spec_spOf.f k l0 a1).bind fun bt313 => (some (bt313.1, bt313.2.1, bt313.2.2.1, bt313.2.2.2.1, bt313.2.2.2.2.1, bt313.2.2.2.2.2.1, bt313.2.2.2.2.2.2, true))) else (some (0, 0, 0, 0, ([] : List Int), 0, ([] : List Int), false)))) = some (r1, r2, r3, r4, r5, r6, r7, r8) := h
  clear h; replace H := Option.bind_eq_some_iff.mp H; obtain ⟨t312, A30, H⟩ := H
  have A3 := Qx A30; clear A30
  by_cases c4 : t312 = true
  ·subst c4
   have H1 : ((spec_spOf.f k l0 a1).bind fun bt313 => (some (bt313.1, bt313.2.1, bt313.2.2.1, bt313.2.2.2.1, bt313.2.2.2.2.1, bt313.2.2.2.2.2.1, bt313.2.2.2.2.2.2, true))) = some (r1, r2, r3, r4, r5, r6, r7, r8) := by rw [if_pos rfl] at H; exact H
   clear H; have H := H1; clear H1; replace H := Option.bind_eq_some_iff.mp H; obtain ⟨⟨t313, t314, t315, t316, t317, t320, t321⟩, A50, H⟩ := H
   have A5 := Qx A50; clear A50; simp only [Option.some.injEq, Prod.mk.injEq] at H; obtain ⟨rfl, rfl, rfl, rfl, rfl, rfl, rfl, rfl⟩ := H
   go_enter Try.func7, Try.ntmps7
   go_wp2_with (first | ((with_reducible refine gate_dst (N := 4) rfl ?_); refine bx_ 4 #[.int .i64 0, .int .i64 0, .int .i64 0, .int .i64 0, .slice none 0 0, .int .i64 0, .slice none 0 0] 30 ?_; intro gb311 hg w6 hbox hb; have BK311 := Qx (hbox); have GW311 := Qx ((ge_ hg)); have GE311 := Qx ((ge_ hg)); replace HB := Qx (Qp hB_ hb); clear hb hbox hg) | ((with_reducible refine gate_callee (f := 20) rfl ?_); refine gl_ 8 Try.func20 #[.slice A0 l0.length c0, .int .i64 a1] ?_; (with_reducible refine (spec_spSorted.calls k _ _ l0 a1 true _ ?side1 ?side2 A3.out).mono ?_); (case side1 => exact kC_ HR0); (case side2 => exact HC0.out); rintro e w' ⟨rfl, ⟨nd, rfl⟩⟩; refine ⟨_, rfl, ?_⟩; (try (rw [drewN_self w6]; generalize hq_ : World.drewN w6 _ = w6; have n0_ : Aside0 (w6.heap[gb311]? = some (.cells #[.int .i64 0, .int .i64 0, .int .i64 0, .int .i64 0, .slice none 0 0, .int .i64 0, .slice none 0 0] 30 (0, 0))) := ⟨by rw [← hq_]; exact (kB_ BK311)⟩; have n1_ : Aside0 (Below w.heap.size w w6) := ⟨by rw [← hq_]; exact hB_⟩; clear BK311 HB hq_; have BK311 := n0_; have HB := n1_; clear n0_ n1_))) | ((with_reducible refine gate_callee (f := 21) rfl ?_); refine gl_ 13 Try.func21 #[.slice A0 l0.length c0, .int .i64 a1] ?_; (with_reducible refine (spec_spOf.calls k _ _ l0 a1 t313 t314 t315 t316 t317 t320 t321 _ ?side1 ?side2 A5.out).mono ?_); (case side1 => exact kC_ HR0); (case side2 => exact HC0.out); rintro e w7 ⟨v318, v322, rfl, ho0, ho1, hb⟩; refine ⟨_, rfl, ?_⟩; have HO319 := Qx (Kd.R_lower ho0 (below_size hB_)); have HO323 := Qx (Kd.R_lower ho1 (below_size hB_)); replace BK311 := Qx (Qb (kB_ BK311) hb); replace HB := Qx (Qp hB_ hb); (try clear hb); (try clear hb2); (try clear hk); (try clear hi); (try clear ho0); (try clear ho1); obtain ⟨hcz8_0, hcz8_1, hcz8_2, hcz8_3, hcz8_4, hcz8_5, hcz8_6, hfz8_0, hfz8_1, hfz8_2, hfz8_3, hfz8_4, hfz8_5, hfz8_6⟩ := cellsQ7_g1c (w := w7) BK311.out; obtain ⟨Ao9, co9, eo9⟩ := Kd.R_slice HO319.out; subst eo9; obtain ⟨Ao10, co10, eo10⟩ := Kd.R_slice HO323.out; subst eo10))
   refine bodyPost_ret (results_ct rfl _ _ gb311 30 #[.int .i64 t313, .int .i64 t314, .int .i64 t315, .int .i64 t316, .slice Ao9 t317.length co9, .int .i64 t320, .slice Ao10 t321.length co10] (0, 0) _ rfl (by (with_reducible repeat (first | refine Qm ?_ _ | refine Qw ?_ | refine Qk ?_ _)); refine Qu (cs := #[.int .i64 t313, .int .i64 t314, .int .i64 t315, .int .i64 t316, .slice Ao9 t317.length co9, .int .i64 t320, .slice none 0 0]) ?_ 6 _ rfl; (with_reducible repeat (first | refine Qm ?_ _ | refine Qw ?_ | refine Qk ?_ _)); refine Qu (cs := #[.int .i64 t313, .int .i64 t314, .int .i64 t315, .int .i64 t316, .slice Ao9 t317.length co9, .int .i64 0, .slice none 0 0]) ?_ 5 _ rfl; (with_reducible repeat (first | refine Qm ?_ _ | refine Qw ?_ | refine Qk ?_ _)); refine Qu (cs := #[.int .i64 t313, .int .i64 t314, .int .i64 t315, .int .i64 t316, .slice none 0 0, .int .i64 0, .slice none 0 0]) ?_ 4 _ rfl; (with_reducible repeat (first | refine Qm ?_ _ | refine Qw ?_ | refine Qk ?_ _)); refine Qu (cs := #[.int .i64 t313, .int .i64 t314, .int .i64 t315, .int .i64 0, .slice none 0 0, .int .i64 0, .slice none 0 0]) ?_ 3 _ rfl; (with_reducible repeat (first | refine Qm ?_ _ | refine Qw ?_ | refine Qk ?_ _)); refine Qu (cs := #[.int .i64 t313, .int .i64 t314, .int .i64 0, .int .i64 0, .slice none 0 0, .int .i64 0, .slice none 0 0]) ?_ 2 _ rfl; (with_reducible repeat (first | refine Qm ?_ _ | refine Qw ?_ | refine Qk ?_ _)); refine Qu (cs := #[.int .i64 t313, .int .i64 0, .int .i64 0, .int .i64 0, .slice none 0 0, .int .i64 0, .slice none 0 0]) ?_ 1 _ rfl; (with_reducible repeat (first | refine Qm ?_ _ | refine Qw ?_ | refine Qk ?_ _)); refine Qu (cs := #[.int .i64 0, .int .i64 0, .int .i64 0, .int .i64 0, .slice none 0 0, .int .i64 0, .slice none 0 0]) ?_ 0 _ rfl; (with_reducible repeat (first | refine Qm ?_ _ | refine Qw ?_ | refine Qk ?_ _)); exact BK311.out) Try.underlying30 rfl (by kernel_rfl)) rfl ?_
   exact ⟨_, _, rf_, by (with_reducible repeat (first | apply Kd.R_alloc | apply Kd.R_drewN | apply Kd.R_drew)); exact Qrm (farsQ7_g1c (Kd.R_types HO319.out BK311.out (by decide)) (fun _ hk => hk.2) (.int .i64 t313) (.int .i64 t314) (.int .i64 t315) (.int .i64 t316) (.slice Ao9 t317.length co9) (.int .i64 t320) (.slice Ao10 t321.length co10)) (fun _ hk => hk.1), by (with_reducible repeat (first | apply Kd.R_alloc | apply Kd.R_drewN | apply Kd.R_drew)); exact Qrm (farsQ7_g1c (Kd.R_types HO323.out BK311.out (by decide)) (fun _ hk => hk.2) (.int .i64 t313) (.int .i64 t314) (.int .i64 t315) (.int .i64 t316) (.slice Ao9 t317.length co9) (.int .i64 t320) (.slice Ao10 t321.length co10)) (fun _ hk => hk.1), hB_⟩
  ·replace c4 := Bool.eq_false_iff.mpr c4; subst c4
   have H1 : (some (0, 0, 0, 0, ([] : List Int), 0, ([] : List Int), false)) = some (r1, r2, r3, r4, r5, r6, r7, r8) := by rw [if_neg (show ¬ (false = true) by decide)] at H; exact H
   clear H; have H := H1; clear H1; simp only [Option.some.injEq, Prod.mk.injEq] at H; obtain ⟨rfl, rfl, rfl, rfl, rfl, rfl, rfl, rfl⟩ := H
   go_enter Try.func7, Try.ntmps7
   go_wp2_with (first | ((with_reducible refine gate_dst (N := 4) rfl ?_); refine bx_ 4 #[.int .i64 0, .int .i64 0, .int .i64 0, .int .i64 0, .slice none 0 0, .int .i64 0, .slice none 0 0] 30 ?_; intro gb311 hg w11 hbox hb; have BK311 := Qx (hbox); have GW311 := Qx ((ge_ hg)); have GE311 := Qx ((ge_ hg)); replace HB := Qx (Qp hB_ hb); clear hb hbox hg) | ((with_reducible refine gate_callee (f := 20) rfl ?_); refine gl_ 8 Try.func20 #[.slice A0 l0.length c0, .int .i64 a1] ?_; (with_reducible refine (spec_spSorted.calls k _ _ l0 a1 false _ ?side1 ?side2 A3.out).mono ?_); (case side1 => exact kC_ HR0); (case side2 => exact HC0.out); rintro e w' ⟨rfl, ⟨nd, rfl⟩⟩; refine ⟨_, rfl, ?_⟩; (try (rw [drewN_self w11]; generalize hq_ : World.drewN w11 _ = w11; have n0_ : Aside0 (w11.heap[gb311]? = some (.cells #[.int .i64 0, .int .i64 0, .int .i64 0, .int .i64 0, .slice none 0 0, .int .i64 0, .slice none 0 0] 30 (0, 0))) := ⟨by rw [← hq_]; exact (kB_ BK311)⟩; have n1_ : Aside0 (Below w.heap.size w w11) := ⟨by rw [← hq_]; exact hB_⟩; clear BK311 HB hq_; have BK311 := n0_; have HB := n1_; clear n0_ n1_)); obtain ⟨hcz12_0, hcz12_1, hcz12_2, hcz12_3, hcz12_4, hcz12_5, hcz12_6, hfz12_0, hfz12_1, hfz12_2, hfz12_3, hfz12_4, hfz12_5, hfz12_6⟩ := cellsQ7_g1c (w := w11) BK311.out))
   refine bodyPost_ret (results_ct rfl _ _ gb311 30 #[.int .i64 0, .int .i64 0, .int .i64 0, .int .i64 0, .slice none 0 0, .int .i64 0, .slice none 0 0] (0, 0) _ rfl (by (with_reducible repeat (first | refine Qm ?_ _ | refine Qw ?_ | refine Qk ?_ _)); refine Qu (cs := #[.int .i64 0, .int .i64 0, .int .i64 0, .int .i64 0, .slice none 0 0, .int .i64 0, .slice none 0 0]) ?_ 6 _ rfl; (with_reducible repeat (first | refine Qm ?_ _ | refine Qw ?_ | refine Qk ?_ _)); refine Qu (cs := #[.int .i64 0, .int .i64 0, .int .i64 0, .int .i64 0, .slice none 0 0, .int .i64 0, .slice none 0 0]) ?_ 5 _ rfl; (with_reducible repeat (first | refine Qm ?_ _ | refine Qw ?_ | refine Qk ?_ _)); refine Qu (cs := #[.int .i64 0, .int .i64 0, .int .i64 0, .int .i64 0, .slice none 0 0, .int .i64 0, .slice none 0 0]) ?_ 4 _ rfl; (with_reducible repeat (first | refine Qm ?_ _ | refine Qw ?_ | refine Qk ?_ _)); refine Qu (cs := #[.int .i64 0, .int .i64 0, .int .i64 0, .int .i64 0, .slice none 0 0, .int .i64 0, .slice none 0 0]) ?_ 3 _ rfl; (with_reducible repeat (first | refine Qm ?_ _ | refine Qw ?_ | refine Qk ?_ _)); refine Qu (cs := #[.int .i64 0, .int .i64 0, .int .i64 0, .int .i64 0, .slice none 0 0, .int .i64 0, .slice none 0 0]) ?_ 2 _ rfl; (with_reducible repeat (first | refine Qm ?_ _ | refine Qw ?_ | refine Qk ?_ _)); refine Qu (cs := #[.int .i64 0, .int .i64 0, .int .i64 0, .int .i64 0, .slice none 0 0, .int .i64 0, .slice none 0 0]) ?_ 1 _ rfl; (with_reducible repeat (first | refine Qm ?_ _ | refine Qw ?_ | refine Qk ?_ _)); refine Qu (cs := #[.int .i64 0, .int .i64 0, .int .i64 0, .int .i64 0, .slice none 0 0, .int .i64 0, .slice none 0 0]) ?_ 0 _ rfl; (with_reducible repeat (first | refine Qm ?_ _ | refine Qw ?_ | refine Qk ?_ _)); exact BK311.out) Try.underlying30 rfl (by kernel_rfl)) rfl ?_
   exact ⟨_, _, rf_, by first | exact Kd.R_nil _ _ _ _ _ | exact Kd.N_nil _ _ _ _ _ | exact Kd.V_nil _ _ _ _ _ | exact Kd.Q_nil _ _ _ _ _ | exact Kd.S_nil _ _ _ _ _, by first | exact Kd.R_nil _ _ _ _ _ | exact Kd.N_nil _ _ _ _ _ | exact Kd.V_nil _ _ _ _ _ | exact Kd.Q_nil _ _ _ _ _ | exact Kd.S_nil _ _ _ _ _, hB_⟩
/-! ### laws_pSameInts: function 11 -/
def laws_pSameInts.l0 : Nat → List Int → List Int → Int → Int → Option (Bool)
  | 0, _, _, _, _ => none
  | k + 1, x0, x1, x12, x13 => if x13 < x12 then (if 0 ≤ x13 then (if x13 < (x0.length : Int) then (if x13 < (x1.length : Int) then (if (rd x0 x13) = (rd x1 x13) then (laws_pSameInts.l0 k x0 x1 x12 (wrap64 (x13 + 1))) else (some false)) else (none)) else (none)) else (none)) else (some true)
def laws_pSameInts.f (k : Nat) (l0 : List Int) (l1 : List Int) : Option (Bool) := if (l0.length : Int) = (l1.length : Int) then (laws_pSameInts.l0 k l0 l1 (l0.length : Int) 0) else (some false)
theorem laws_pSameInts.mono_l : ∀ k, (∀ y0 y1 y2 y3, LeO (laws_pSameInts.l0 k y0 y1 y2 y3) (laws_pSameInts.l0 (k + 1) y0 y1 y2 y3))
  | 0 => fun _ _ _ _ r h => by simp [laws_pSameInts.l0] at h
  | k + 1 => by
    have ih0 := laws_pSameInts.mono_l k
    · intro y0 y1 y2 y3
      unfold laws_pSameInts.l0
      repeat' first
      | (with_reducible exact ih0 _ _ _ _)
      | (with_reducible exact LeO.refl _)
      | (with_reducible exact LeO.none _)
      | (with_reducible refine LeO.ite ?_ ?_)
      | (with_reducible refine LeO.bind ?_ (fun _ => ?_))
      | exact ih0 _ _ _ _
      | exact LeO.none _
      | refine LeO.ite ?_ ?_
      | refine LeO.bind ?_ (fun _ => ?_)
theorem laws_pSameInts.mono : ∀ a0 a1 k, LeO (laws_pSameInts.f k a0 a1) (laws_pSameInts.f (k + 1) a0 a1) := by
  intro a0 a1 k
  have ih0 := laws_pSameInts.mono_l k
  unfold laws_pSameInts.f
  repeat' first
      | (with_reducible exact ih0 _ _ _ _)
      | (with_reducible exact LeO.refl _)
      | (with_reducible exact LeO.none _)
      | (with_reducible refine LeO.ite ?_ ?_)
      | (with_reducible refine LeO.bind ?_ (fun _ => ?_))
      | exact ih0 _ _ _ _
      | exact LeO.none _
      | refine LeO.ite ?_ ?_
      | refine LeO.bind ?_ (fun _ => ?_)
noncomputable def laws_pSameInts.L0 (y0 : List Int) (y1 : List Int) (y2 : Int) (y3 : Int) : Option (Bool) := lim fun k => laws_pSameInts.l0 k y0 y1 y2 y3
theorem laws_pSameInts.L0_sup (y0 : List Int) (y1 : List Int) (y2 : Int) (y3 : Int) : Sup (fun k => laws_pSameInts.l0 k y0 y1 y2 y3) (laws_pSameInts.L0 y0 y1 y2 y3) := Sup.of_mono fun k => laws_pSameInts.mono_l k y0 y1 y2 y3
noncomputable def laws_pSameInts.F (l0 : List Int) (l1 : List Int) : Option (Bool) := lim fun k => laws_pSameInts.f k l0 l1
theorem laws_pSameInts.F_sup (l0 : List Int) (l1 : List Int) : Sup (fun k => laws_pSameInts.f k l0 l1) (laws_pSameInts.F l0 l1) := Sup.of_mono fun k => laws_pSameInts.mono l0 l1 k
theorem laws_pSameInts.L0_eq (x0 : List Int) (x1 : List Int) (x12 : Int) (x13 : Int) : laws_pSameInts.L0 x0 x1 x12 x13 = if x13 < x12 then (if 0 ≤ x13 then (if x13 < (x0.length : Int) then (if x13 < (x1.length : Int) then (if (rd x0 x13) = (rd x1 x13) then (laws_pSameInts.L0 x0 x1 x12 (wrap64 (x13 + 1))) else (some false)) else (none)) else (none)) else (none)) else (some true) := by
  refine Sup.unique (laws_pSameInts.L0_sup x0 x1 x12 x13) (Sup.shift (fun k => laws_pSameInts.mono_l k x0 x1 x12 x13) (Sup.congr (g' := fun k => if x13 < x12 then (if 0 ≤ x13 then (if x13 < (x0.length : Int) then (if x13 < (x1.length : Int) then (if (rd x0 x13) = (rd x1 x13) then (laws_pSameInts.l0 k x0 x1 x12 (wrap64 (x13 + 1))) else (some false)) else (none)) else (none)) else (none)) else (some true)) (fun k => by first | rfl | simp only [laws_pSameInts.l0]) ?_))
  repeat' first
    | (with_reducible exact laws_pSameInts.L0_sup _ _ _ _)
    | (with_reducible refine Sup.ite ?_ ?_)
    | (with_reducible refine Sup.bind ?_ (fun _ => ?_))
    | (with_reducible exact Sup.const _)
    | exact laws_pSameInts.L0_sup _ _ _ _
    | exact Sup.const _
theorem laws_pSameInts.F_eq (l0 : List Int) (l1 : List Int) : laws_pSameInts.F l0 l1 = if (l0.length : Int) = (l1.length : Int) then (laws_pSameInts.L0 l0 l1 (l0.length : Int) 0) else (some false) := by
  refine Sup.unique (laws_pSameInts.F_sup l0 l1) (Sup.congr (g' := fun k => if (l0.length : Int) = (l1.length : Int) then (laws_pSameInts.l0 k l0 l1 (l0.length : Int) 0) else (some false)) (fun k => by first | rfl | simp only [laws_pSameInts.f]) ?_)
  repeat' first
    | (with_reducible exact laws_pSameInts.L0_sup _ _ _ _)
    | (with_reducible refine Sup.ite ?_ ?_)
    | (with_reducible refine Sup.bind ?_ (fun _ => ?_))
    | (with_reducible exact Sup.const _)
    | exact laws_pSameInts.L0_sup _ _ _ _
    | exact Sup.const _
set_option maxHeartbeats 8000000 in
set_option maxRecDepth 100000 in
theorem laws_pSameInts.calls (k : Nat) (A0 : Option Addr) (c0 : Nat) (l0 : List Int) (A1 : Option Addr) (c1 : Nat) (l1 : List Int) (r : Bool) (w : World) (hr0 : Kd.C (Kd.int .i64) w A0 l0.length l0) (hc0 : l0.length ≤ c0) (hr1 : Kd.C (Kd.int .i64) w A1 l1.length l1) (hc1 : l1.length ≤ c1) (h : laws_pSameInts.f k l0 l1 = some r) :
    Calls Try.prog 11 #[.slice A0 l0.length c0, .slice A1 l1.length c1] w fun e w' => e = .returned (.bool r) ∧ Drawn0 w w' := by
  have HR0 := Qx hr0; have HC0 := Qx hc0; clear hr0 hc0; have HR1 := Qx hr1; have HC1 := Qx hc1; clear hr1 hc1
  have H : (if (l0.length : Int) = (l1.length : Int) then (laws_pSameInts.l0 k l0 l1 (l0.length : Int) 0) else (some false)) = some r := h
  clear h
  by_cases c3 : (l0.length : Int) = (l1.length : Int)
  ·rw [if_pos c3] at H
   have c3b0 : ((l0.length : Int) == (l1.length : Int)) = true := beq_iff_eq.mpr c3
   have c3b1 : ((l0.length : Int) != (l1.length : Int)) = false := bne_eq_false_iff_eq.mpr c3
   have c3b2 : (l0.length == l1.length) = true := by first | simpa using c3 | (simp at c3 ⊢; omega)
   clear c3; have H' := Qx H; clear H
   go_enter Try.func11, Try.ntmps11
   go_wp2
   repeat (go_quiet (fail); try go_wp2)
   go_loopg [13] k (fun kq v13 w' => ∃ (x13_1 : Int), v13 = .int .i64 x13_1 ∧ Aside0 (laws_pSameInts.l0 kq l0 l1 (l0.length : Int) x13_1 = some r) ∧ Aside0 (kq ≤ k) ∧ Drawn0 w w')
   case atStart => exact ⟨(0), rg_, H', ⟨Nat.le_refl _⟩, by repeat (first | exact Drawn0.refl _ | apply Drawn0.step)⟩
   case round =>
    clear H'
    try clear c1
    try clear p2
    try clear c3
    try clear c3b0
    try clear c3b1
    try clear c3b2
    obtain ⟨x13_1, rfl, HA, HK1, ⟨m1, rfl⟩⟩ := hrel
    cases gk with
    | zero => exact absurd HA.out (by simp [laws_pSameInts.l0])
    | succ k1 =>
     have H := HA.out; clear HA; simp only [laws_pSameInts.l0] at H
     by_cases c4 : x13_1 < (l0.length : Int)
     ·rw [if_pos c4] at H
      have c4b0 : decide (x13_1 < (l0.length : Int)) = true := decide_eq_true c4
      clear c4
      by_cases c5 : 0 ≤ x13_1
      ·rw [if_pos c5] at H
       have c5b0 : decide (0 ≤ x13_1) = true := decide_eq_true c5
       clear c5
       by_cases c6 : x13_1 < (l0.length : Int)
       ·rw [if_pos c6] at H
        have c6b0 : decide (x13_1 < (l0.length : Int)) = true := decide_eq_true c6
        clear c6
        by_cases c7 : x13_1 < (l1.length : Int)
        ·rw [if_pos c7] at H
         have c7b0 : decide (x13_1 < (l1.length : Int)) = true := decide_eq_true c7
         clear c7
         by_cases c8 : (rd l0 x13_1) = (rd l1 x13_1)
         ·rw [if_pos c8] at H
          have c8b0 : ((rd l0 x13_1) == (rd l1 x13_1)) = true := beq_iff_eq.mpr c8
          have c8b1 : ((rd l0 x13_1) != (rd l1 x13_1)) = false := bne_eq_false_iff_eq.mpr c8
          clear c8; have H' := Qx H; clear H
          have p324 : 0 ≤ (x13_1 : Int) := of_decide_eq_true as_
          have q324 : x13_1 < (l0.length : Int) := of_decide_eq_true as_
          obtain ⟨ad324, e324, hx324_0⟩ := Kd.at_int HR0.out x13_1 p324 q324
          cases e324
          replace p324 := eq_true p324; replace q324 := eq_true q324
          have p325 : 0 ≤ (x13_1 : Int) := of_decide_eq_true as_
          have q325 : x13_1 < (l1.length : Int) := of_decide_eq_true as_
          obtain ⟨ad325, e325, hx325_0⟩ := Kd.at_int HR1.out x13_1 p325 q325
          cases e325
          replace p325 := eq_true p325; replace q325 := eq_true q325
          go_wp2
          repeat (go_quiet (fail); try go_wp2)
          go_roundg k1
          case measure => have := HK1.out; omega
          case rel => exact ⟨(wrap64 (x13_1 + 1)), rg_, H', ⟨by have := HK1.out; omega⟩, by repeat (first | exact Drawn0.refl _ | apply Drawn0.step)⟩
         ·rw [if_neg c8] at H
          have c8b0 : ((rd l0 x13_1) == (rd l1 x13_1)) = false := beq_eq_false_iff_ne.mpr c8
          have c8b1 : ((rd l0 x13_1) != (rd l1 x13_1)) = true := bne_iff_ne.mpr c8
          obtain rfl := Option.some.inj H
          have p324 : 0 ≤ (x13_1 : Int) := of_decide_eq_true as_
          have q324 : x13_1 < (l0.length : Int) := of_decide_eq_true as_
          obtain ⟨ad324, e324, hx324_0⟩ := Kd.at_int HR0.out x13_1 p324 q324
          cases e324
          replace p324 := eq_true p324; replace q324 := eq_true q324
          have p325 : 0 ≤ (x13_1 : Int) := of_decide_eq_true as_
          have q325 : x13_1 < (l1.length : Int) := of_decide_eq_true as_
          obtain ⟨ad325, e325, hx325_0⟩ := Kd.at_int HR1.out x13_1 p325 q325
          cases e325
          replace p325 := eq_true p325; replace q325 := eq_true q325
          go_wp2
          repeat (go_quiet (fail); try go_wp2)
          go_ret
          exact ⟨rg_, by repeat (first | exact Drawn0.refl _ | apply Drawn0.step)⟩
        ·rw [if_neg c7] at H
         exact absurd H (by simp)
       ·rw [if_neg c6] at H
        exact absurd H (by simp)
      ·rw [if_neg c5] at H
       exact absurd H (by simp)
     ·rw [if_neg c4] at H
      have c4b0 : decide (x13_1 < (l0.length : Int)) = false := decide_eq_false c4
      clear c4; obtain rfl := Option.some.inj H
      go_wp2
      repeat (go_quiet (fail); try go_wp2)
      go_ret
      exact ⟨rg_, by repeat (first | exact Drawn0.refl _ | apply Drawn0.step)⟩
  ·rw [if_neg c3] at H
   have c3b0 : ((l0.length : Int) == (l1.length : Int)) = false := beq_eq_false_iff_ne.mpr c3
   have c3b1 : ((l0.length : Int) != (l1.length : Int)) = true := bne_iff_ne.mpr c3
   have c3b2 : (l0.length == l1.length) = false := by first | simpa using c3 | (simp at c3 ⊢; omega)
   obtain rfl := Option.some.inj H
   go_enter Try.func11, Try.ntmps11
   go_wp2
   repeat (go_quiet (fail); try go_wp2)
   go_ret
   exact ⟨rg_, by repeat (first | exact Drawn0.refl _ | apply Drawn0.step)⟩
/-! ### laws_pSameBits: function 22 -/
def laws_pSameBits.f (k : Nat) (a0_0 : Int) (l0_1 : List Int) (a1_0 : Int) (l1_1 : List Int) : Option (Bool) := if a0_0 = a1_0 then ((laws_pSameInts.f k l0_1 l1_1).bind fun t328 => (some t328)) else (some false)
theorem laws_pSameBits.mono : ∀ a0 a1 a2 a3 k, LeO (laws_pSameBits.f k a0 a1 a2 a3) (laws_pSameBits.f (k + 1) a0 a1 a2 a3) := by
  intro a0 a1 a2 a3 k
  unfold laws_pSameBits.f
  repeat' first
      | (with_reducible exact laws_pSameInts.mono _ _ _)
      | (with_reducible exact LeO.refl _)
      | (with_reducible exact LeO.none _)
      | (with_reducible refine LeO.ite ?_ ?_)
      | (with_reducible refine LeO.bind ?_ (fun _ => ?_))
      | exact laws_pSameInts.mono _ _ _
      | exact LeO.none _
      | refine LeO.ite ?_ ?_
      | refine LeO.bind ?_ (fun _ => ?_)
noncomputable def laws_pSameBits.F (a0_0 : Int) (l0_1 : List Int) (a1_0 : Int) (l1_1 : List Int) : Option (Bool) := lim fun k => laws_pSameBits.f k a0_0 l0_1 a1_0 l1_1
theorem laws_pSameBits.F_sup (a0_0 : Int) (l0_1 : List Int) (a1_0 : Int) (l1_1 : List Int) : Sup (fun k => laws_pSameBits.f k a0_0 l0_1 a1_0 l1_1) (laws_pSameBits.F a0_0 l0_1 a1_0 l1_1) := Sup.of_mono fun k => laws_pSameBits.mono a0_0 l0_1 a1_0 l1_1 k
theorem laws_pSameBits.F_eq (a0_0 : Int) (l0_1 : List Int) (a1_0 : Int) (l1_1 : List Int) : laws_pSameBits.F a0_0 l0_1 a1_0 l1_1 = if a0_0 = a1_0 then ((laws_pSameInts.F l0_1 l1_1).bind fun t328 => (some t328)) else (some false) := by
  refine Sup.unique (laws_pSameBits.F_sup a0_0 l0_1 a1_0 l1_1) (Sup.congr (g' := fun k => if a0_0 = a1_0 then ((laws_pSameInts.f k l0_1 l1_1).bind fun t328 => (some t328)) else (some false)) (fun k => by first | rfl | simp only [laws_pSameBits.f]) ?_)
  repeat' first
    | (with_reducible exact laws_pSameInts.F_sup _ _)
    | (with_reducible refine Sup.ite ?_ ?_)
    | (with_reducible refine Sup.bind ?_ (fun _ => ?_))
    | (with_reducible exact Sup.const _)
    | exact laws_pSameInts.F_sup _ _
    | exact Sup.const _
set_option maxHeartbeats 8000000 in
set_option maxRecDepth 100000 in
theorem laws_pSameBits.calls (k : Nat) (a0_0 : Int) (A0_1 : Option Addr) (c0_1 : Nat) (l0_1 : List Int) (a1_0 : Int) (A1_1 : Option Addr) (c1_1 : Nat) (l1_1 : List Int) (r : Bool) (w : World) (hr0_1 : Kd.C (Kd.int .i64) w A0_1 l0_1.length l0_1) (hc0_1 : l0_1.length ≤ c0_1) (hr1_1 : Kd.C (Kd.int .i64) w A1_1 l1_1.length l1_1) (hc1_1 : l1_1.length ≤ c1_1) (h : laws_pSameBits.f k a0_0 l0_1 a1_0 l1_1 = some r) :
    Calls Try.prog 22 #[.agg #[.int .i64 a0_0, .slice A0_1 l0_1.length c0_1], .agg #[.int .i64 a1_0, .slice A1_1 l1_1.length c1_1]] w fun e w' => e = .returned (.bool r) ∧ Below w.heap.size w w' := by
  have hu28 := Try.underlying28; have hu24 := Try.underlying24; have HR0_1 := Qx hr0_1; have HC0_1 := Qx hc0_1; clear hr0_1 hc0_1; have HR1_1 := Qx hr1_1; have HC1_1 := Qx hc1_1; clear hr1_1 hc1_1
  have HB := Qx (Below.refl w.heap.size w)
  have H : (if a0_0 = a1_0 then ((laws_pSameInts.f k l0_1 l1_1).bind fun t328 => (some t328)) else (some false)) = some r := h
  clear h
  by_cases c3 : a0_0 = a1_0
  ·rw [if_pos c3] at H
   have c3b0 : (a0_0 == a1_0) = true := beq_iff_eq.mpr c3
   have c3b1 : (a0_0 != a1_0) = false := bne_eq_false_iff_eq.mpr c3
   clear c3; replace H := Option.bind_eq_some_iff.mp H; obtain ⟨t328, A40, H⟩ := H
   have A4 := Qx A40; clear A40; obtain rfl := Option.some.inj H
   go_enter Try.func22, Try.ntmps22
   go_wp2_with (first | ((with_reducible refine gate_dst (N := 2) rfl ?_); refine bx_ 2 #[.int .i64 a0_0, .slice A0_1 l0_1.length c0_1] 28 ?_; intro gb326 hg w5 hbox hb; have BK326 := Qx (hbox); have GW326 := Qx ((ge_ hg)); have GE326 := Qx ((ge_ hg)); replace HB := Qx (Qp hB_ hb); clear hb hbox hg) | ((with_reducible refine gate_dst (N := 3) rfl ?_); refine bx_ 3 #[.int .i64 a1_0, .slice A1_1 l1_1.length c1_1] 28 ?_; intro gb327 hg w6 hbox hb; have BK327 := Qx (hbox); have GW327 := Qx ((ge_ hg)); have GE327 := Qx ((ge_ hg)); replace HB := Qx (Qp hB_ hb); have NB326_327 := Qx ((ne_ hg BK326)); have NB327_326 := Qx ((nf_ hg BK326)); replace BK326 := Qx (Qb (kB_ BK326) hb); clear hb hbox hg; have hnb7 := NB326_327.out; have hnc7 := NB327_326.out; obtain ⟨hcz8_0, hcz8_1, hfz8_0, hfz8_1⟩ := cellsQ2_g1c (w := w6) BK326.out; obtain ⟨hcz9_0, hcz9_1, hfz9_0, hfz9_1⟩ := cellsQ2_g1c (w := w6) BK327.out) | (go_at_call 11; (with_reducible refine (laws_pSameInts.calls k _ _ l0_1 _ _ l1_1 t328 _ ?side1 ?side2 ?side3 ?side4 A4.out).mono ?_); (case side1 => exact kC_ HR0_1); (case side2 => exact HC0_1.out); (case side3 => exact kC_ HR1_1); (case side4 => exact HC1_1.out); rintro e w' ⟨rfl, ⟨nd, rfl⟩⟩))
   go_ret
   exact ⟨rf_, hB_⟩
  ·rw [if_neg c3] at H
   have c3b0 : (a0_0 == a1_0) = false := beq_eq_false_iff_ne.mpr c3
   have c3b1 : (a0_0 != a1_0) = true := bne_iff_ne.mpr c3
   obtain rfl := Option.some.inj H
   go_enter Try.func22, Try.ntmps22
   go_wp2_with (first | ((with_reducible refine gate_dst (N := 2) rfl ?_); refine bx_ 2 #[.int .i64 a0_0, .slice A0_1 l0_1.length c0_1] 28 ?_; intro gb326 hg w10 hbox hb; have BK326 := Qx (hbox); have GW326 := Qx ((ge_ hg)); have GE326 := Qx ((ge_ hg)); replace HB := Qx (Qp hB_ hb); clear hb hbox hg) | ((with_reducible refine gate_dst (N := 3) rfl ?_); refine bx_ 3 #[.int .i64 a1_0, .slice A1_1 l1_1.length c1_1] 28 ?_; intro gb327 hg w11 hbox hb; have BK327 := Qx (hbox); have GW327 := Qx ((ge_ hg)); have GE327 := Qx ((ge_ hg)); replace HB := Qx (Qp hB_ hb); have NB326_327 := Qx ((ne_ hg BK326)); have NB327_326 := Qx ((nf_ hg BK326)); replace BK326 := Qx (Qb (kB_ BK326) hb); clear hb hbox hg; have hnb12 := NB326_327.out; have hnc12 := NB327_326.out; obtain ⟨hcz13_0, hcz13_1, hfz13_0, hfz13_1⟩ := cellsQ2_g1c (w := w11) BK326.out; obtain ⟨hcz14_0, hcz14_1, hfz14_0, hfz14_1⟩ := cellsQ2_g1c (w := w11) BK327.out))
   go_ret
   exact ⟨rf_, hB_⟩
/-! ### laws_pSameSparse: function 8 -/
def laws_pSameSparse.f (k : Nat) (a0_0 : Int) (a0_1 : Int) (a0_2 : Int) (a0_3 : Int) (l0_4 : List Int) (a0_5 : Int) (l0_6 : List Int) (a1_0 : Int) (a1_1 : Int) (a1_2 : Int) (a1_3 : Int) (l1_4 : List Int) (a1_5 : Int) (l1_6 : List Int) : Option (Bool) := if a0_0 = a1_0 then (if a0_1 = a1_1 then (if a0_2 = a1_2 then ((laws_pSameBits.f k a0_3 l0_4 a1_3 l1_4).bind fun t331 => (if t331 = true then ((laws_pSameBits.f k a0_5 l0_6 a1_5 l1_6).bind fun t332 => (some t332)) else (some false))) else (some false)) else (some false)) else (some false)
theorem laws_pSameSparse.mono : ∀ a0 a1 a2 a3 a4 a5 a6 a7 a8 a9 a10 a11 a12 a13 k, LeO (laws_pSameSparse.f k a0 a1 a2 a3 a4 a5 a6 a7 a8 a9 a10 a11 a12 a13) (laws_pSameSparse.f (k + 1) a0 a1 a2 a3 a4 a5 a6 a7 a8 a9 a10 a11 a12 a13) := by
  intro a0 a1 a2 a3 a4 a5 a6 a7 a8 a9 a10 a11 a12 a13 k
  unfold laws_pSameSparse.f
  repeat' first
      | (with_reducible exact laws_pSameBits.mono _ _ _ _ _)
      | (with_reducible exact LeO.refl _)
      | (with_reducible exact LeO.none _)
      | (with_reducible refine LeO.ite ?_ ?_)
      | (with_reducible refine LeO.bind ?_ (fun _ => ?_))
      | exact laws_pSameBits.mono _ _ _ _ _
      | exact LeO.none _
      | refine LeO.ite ?_ ?_
      | refine LeO.bind ?_ (fun _ => ?_)
noncomputable def laws_pSameSparse.F (a0_0 : Int) (a0_1 : Int) (a0_2 : Int) (a0_3 : Int) (l0_4 : List Int) (a0_5 : Int) (l0_6 : List Int) (a1_0 : Int) (a1_1 : Int) (a1_2 : Int) (a1_3 : Int) (l1_4 : List Int) (a1_5 : Int) (l1_6 : List Int) : Option (Bool) := lim fun k => laws_pSameSparse.f k a0_0 a0_1 a0_2 a0_3 l0_4 a0_5 l0_6 a1_0 a1_1 a1_2 a1_3 l1_4 a1_5 l1_6
theorem laws_pSameSparse.F_sup (a0_0 : Int) (a0_1 : Int) (a0_2 : Int) (a0_3 : Int) (l0_4 : List Int) (a0_5 : Int) (l0_6 : List Int) (a1_0 : Int) (a1_1 : Int) (a1_2 : Int) (a1_3 : Int) (l1_4 : List Int) (a1_5 : Int) (l1_6 : List Int) : Sup (fun k => laws_pSameSparse.f k a0_0 a0_1 a0_2 a0_3 l0_4 a0_5 l0_6 a1_0 a1_1 a1_2 a1_3 l1_4 a1_5 l1_6) (laws_pSameSparse.F a0_0 a0_1 a0_2 a0_3 l0_4 a0_5 l0_6 a1_0 a1_1 a1_2 a1_3 l1_4 a1_5 l1_6) := Sup.of_mono fun k => laws_pSameSparse.mono a0_0 a0_1 a0_2 a0_3 l0_4 a0_5 l0_6 a1_0 a1_1 a1_2 a1_3 l1_4 a1_5 l1_6 k
theorem laws_pSameSparse.F_eq (a0_0 : Int) (a0_1 : Int) (a0_2 : Int) (a0_3 : Int) (l0_4 : List Int) (a0_5 : Int) (l0_6 : List Int) (a1_0 : Int) (a1_1 : Int) (a1_2 : Int) (a1_3 : Int) (l1_4 : List Int) (a1_5 : Int) (l1_6 : List Int) : laws_pSameSparse.F a0_0 a0_1 a0_2 a0_3 l0_4 a0_5 l0_6 a1_0 a1_1 a1_2 a1_3 l1_4 a1_5 l1_6 = if a0_0 = a1_0 then (if a0_1 = a1_1 then (if a0_2 = a1_2 then ((laws_pSameBits.F a0_3 l0_4 a1_3 l1_4).bind fun t331 => (if t331 = true then ((laws_pSameBits.F a0_5 l0_6 a1_5 l1_6).bind fun t332 => (some t332)) else (some false))) else (some false)) else (some false)) else (some false) := by
  refine Sup.unique (laws_pSameSparse.F_sup a0_0 a0_1 a0_2 a0_3 l0_4 a0_5 l0_6 a1_0 a1_1 a1_2 a1_3 l1_4 a1_5 l1_6) (Sup.congr (g' := fun k => if a0_0 = a1_0 then (if a0_1 = a1_1 then (if a0_2 = a1_2 then ((laws_pSameBits.f k a0_3 l0_4 a1_3 l1_4).bind fun t331 => (if t331 = true then ((laws_pSameBits.f k a0_5 l0_6 a1_5 l1_6).bind fun t332 => (some t332)) else (some false))) else (some false)) else (some false)) else (some false)) (fun k => by first | rfl | simp only [laws_pSameSparse.f]) ?_)
  repeat' first
    | (with_reducible exact laws_pSameBits.F_sup _ _ _ _)
    | (with_reducible refine Sup.ite ?_ ?_)
    | (with_reducible refine Sup.bind ?_ (fun _ => ?_))
    | (with_reducible exact Sup.const _)
    | exact laws_pSameBits.F_sup _ _ _ _
    | exact Sup.const _
set_option maxHeartbeats 8000000 in
set_option maxRecDepth 100000 in
theorem laws_pSameSparse.calls (k : Nat) (a0_0 : Int) (a0_1 : Int) (a0_2 : Int) (a0_3 : Int) (A0_4 : Option Addr) (c0_4 : Nat) (l0_4 : List Int) (a0_5 : Int) (A0_6 : Option Addr) (c0_6 : Nat) (l0_6 : List Int) (a1_0 : Int) (a1_1 : Int) (a1_2 : Int) (a1_3 : Int) (A1_4 : Option Addr) (c1_4 : Nat) (l1_4 : List Int) (a1_5 : Int) (A1_6 : Option Addr) (c1_6 : Nat) (l1_6 : List Int) (r : Bool) (w : World) (hr0_4 : Kd.C (Kd.int .i64) w A0_4 l0_4.length l0_4) (hc0_4 : l0_4.length ≤ c0_4) (hr0_6 : Kd.C (Kd.int .i64) w A0_6 l0_6.length l0_6) (hc0_6 : l0_6.length ≤ c0_6) (hr1_4 : Kd.C (Kd.int .i64) w A1_4 l1_4.length l1_4) (hc1_4 : l1_4.length ≤ c1_4) (hr1_6 : Kd.C (Kd.int .i64) w A1_6 l1_6.length l1_6) (hc1_6 : l1_6.length ≤ c1_6) (h : laws_pSameSparse.f k a0_0 a0_1 a0_2 a0_3 l0_4 a0_5 l0_6 a1_0 a1_1 a1_2 a1_3 l1_4 a1_5 l1_6 = some r) :
    Calls Try.prog 8 #[.agg #[.int .i64 a0_0, .int .i64 a0_1, .int .i64 a0_2, .int .i64 a0_3, .slice A0_4 l0_4.length c0_4, .int .i64 a0_5, .slice A0_6 l0_6.length c0_6], .agg #[.int .i64 a1_0, .int .i64 a1_1, .int .i64 a1_2, .int .i64 a1_3, .slice A1_4 l1_4.length c1_4, .int .i64 a1_5, .slice A1_6 l1_6.length c1_6]] w fun e w' => e = .returned (.bool r) ∧ Below w.heap.size w w' := by
  have hu30 := Try.underlying30; have hu28 := Try.underlying28; have HR0_4 := Qx hr0_4; have HC0_4 := Qx hc0_4; clear hr0_4 hc0_4; have HR0_6 := Qx hr0_6; have HC0_6 := Qx hc0_6; clear hr0_6 hc0_6; have HR1_4 := Qx hr1_4; have HC1_4 := Qx hc1_4; clear hr1_4 hc1_4; have HR1_6 := Qx hr1_6; have HC1_6 := Qx hc1_6; clear hr1_6 hc1_6
  have HB := Qx (Below.refl w.heap.size w)
  have H : (if a0_0 = a1_0 then (if a0_1 = a1_1 then (if a0_2 = a1_2 then ((laws_pSameBits.f k a0_3 l0_4 a1_3 l1_4).bind fun t331 => (if t331 = true then ((laws_pSameBits.f k a0_5 l0_6 a1_5 l1_6).bind fun t332 => (some t332)) else (some false))) else (some false)) else (some false)) else (some false)) = some r := h
  clear h
  by_cases c3 : a0_0 = a1_0
  ·rw [if_pos c3] at H
   have c3b0 : (a0_0 == a1_0) = true := beq_iff_eq.mpr c3
   have c3b1 : (a0_0 != a1_0) = false := bne_eq_false_iff_eq.mpr c3
   clear c3
   by_cases c4 : a0_1 = a1_1
   ·rw [if_pos c4] at H
    have c4b0 : (a0_1 == a1_1) = true := beq_iff_eq.mpr c4
    have c4b1 : (a0_1 != a1_1) = false := bne_eq_false_iff_eq.mpr c4
    clear c4
    by_cases c5 : a0_2 = a1_2
    ·rw [if_pos c5] at H
     have c5b0 : (a0_2 == a1_2) = true := beq_iff_eq.mpr c5
     have c5b1 : (a0_2 != a1_2) = false := bne_eq_false_iff_eq.mpr c5
     clear c5; replace H := Option.bind_eq_some_iff.mp H; obtain ⟨t331, A60, H⟩ := H
     have A6 := Qx A60; clear A60
     by_cases c7 : t331 = true
     ·subst c7
      have H1 : ((laws_pSameBits.f k a0_5 l0_6 a1_5 l1_6).bind fun t332 => (some t332)) = some r := by rw [if_pos rfl] at H; exact H
      clear H; have H := H1; clear H1; replace H := Option.bind_eq_some_iff.mp H; obtain ⟨t332, A80, H⟩ := H
      have A8 := Qx A80; clear A80; obtain rfl := Option.some.inj H
      go_enter Try.func8, Try.ntmps8
      go_wp2_with (first | ((with_reducible refine gate_dst (N := 2) rfl ?_); refine bx_ 2 #[.int .i64 a0_0, .int .i64 a0_1, .int .i64 a0_2, .int .i64 a0_3, .slice A0_4 l0_4.length c0_4, .int .i64 a0_5, .slice A0_6 l0_6.length c0_6] 30 ?_; intro gb329 hg w9 hbox hb; have BK329 := Qx (hbox); have GW329 := Qx ((ge_ hg)); have GE329 := Qx ((ge_ hg)); replace HB := Qx (Qp hB_ hb); clear hb hbox hg) | ((with_reducible refine gate_dst (N := 3) rfl ?_); refine bx_ 3 #[.int .i64 a1_0, .int .i64 a1_1, .int .i64 a1_2, .int .i64 a1_3, .slice A1_4 l1_4.length c1_4, .int .i64 a1_5, .slice A1_6 l1_6.length c1_6] 30 ?_; intro gb330 hg w10 hbox hb; have BK330 := Qx (hbox); have GW330 := Qx ((ge_ hg)); have GE330 := Qx ((ge_ hg)); replace HB := Qx (Qp hB_ hb); have NB329_330 := Qx ((ne_ hg BK329)); have NB330_329 := Qx ((nf_ hg BK329)); replace BK329 := Qx (Qb (kB_ BK329) hb); clear hb hbox hg; have hnb11 := NB329_330.out; have hnc11 := NB330_329.out; obtain ⟨hcz12_0, hcz12_1, hcz12_2, hcz12_3, hcz12_4, hcz12_5, hcz12_6, hfz12_0, hfz12_1, hfz12_2, hfz12_3, hfz12_4, hfz12_5, hfz12_6⟩ := cellsQ7_g1c (w := w10) BK329.out; obtain ⟨hcz13_0, hcz13_1, hcz13_2, hcz13_3, hcz13_4, hcz13_5, hcz13_6, hfz13_0, hfz13_1, hfz13_2, hfz13_3, hfz13_4, hfz13_5, hfz13_6⟩ := cellsQ7_g1c (w := w10) BK330.out) | (go_at_call 22; (with_reducible refine (laws_pSameBits.calls k a0_3 _ _ l0_4 a1_3 _ _ l1_4 true _ ?side1 ?side2 ?side3 ?side4 A6.out).mono ?_); (case side1 => exact kC_ HR0_4); (case side2 => exact HC0_4.out); (case side3 => exact kC_ HR1_4); (case side4 => exact HC1_4.out); rintro e w14 ⟨rfl, hb⟩; replace BK329 := Qx (Qb (kB_ BK329) hb); replace BK330 := Qx (Qb (kB_ BK330) hb); replace HB := Qx (Qp hB_ hb); (try clear hb); (try clear hb2); (try clear hk); (try clear hi); obtain ⟨hcz15_0, hcz15_1, hcz15_2, hcz15_3, hcz15_4, hcz15_5, hcz15_6, hfz15_0, hfz15_1, hfz15_2, hfz15_3, hfz15_4, hfz15_5, hfz15_6⟩ := cellsQ7_g1c (w := w14) BK329.out; obtain ⟨hcz16_0, hcz16_1, hcz16_2, hcz16_3, hcz16_4, hcz16_5, hcz16_6, hfz16_0, hfz16_1, hfz16_2, hfz16_3, hfz16_4, hfz16_5, hfz16_6⟩ := cellsQ7_g1c (w := w14) BK330.out) | (go_at_call 22; (with_reducible refine (laws_pSameBits.calls k a0_5 _ _ l0_6 a1_5 _ _ l1_6 t332 _ ?side1 ?side2 ?side3 ?side4 A8.out).mono ?_); (case side1 => exact kC_ HR0_6); (case side2 => exact HC0_6.out); (case side3 => exact kC_ HR1_6); (case side4 => exact HC1_6.out); rintro e w17 ⟨rfl, hb⟩; replace BK329 := Qx (Qb (kB_ BK329) hb); replace BK330 := Qx (Qb (kB_ BK330) hb); replace HB := Qx (Qp hB_ hb); (try clear hb); (try clear hb2); (try clear hk); (try clear hi)))
      go_ret
      exact ⟨rf_, hB_⟩
     ·replace c7 := Bool.eq_false_iff.mpr c7; subst c7
      have H1 : (some false) = some r := by rw [if_neg (show ¬ (false = true) by decide)] at H; exact H
      clear H; have H := H1; clear H1; obtain rfl := Option.some.inj H
      go_enter Try.func8, Try.ntmps8
      go_wp2_with (first | ((with_reducible refine gate_dst (N := 2) rfl ?_); refine bx_ 2 #[.int .i64 a0_0, .int .i64 a0_1, .int .i64 a0_2, .int .i64 a0_3, .slice A0_4 l0_4.length c0_4, .int .i64 a0_5, .slice A0_6 l0_6.length c0_6] 30 ?_; intro gb329 hg w18 hbox hb; have BK329 := Qx (hbox); have GW329 := Qx ((ge_ hg)); have GE329 := Qx ((ge_ hg)); replace HB := Qx (Qp hB_ hb); clear hb hbox hg) | ((with_reducible refine gate_dst (N := 3) rfl ?_); refine bx_ 3 #[.int .i64 a1_0, .int .i64 a1_1, .int .i64 a1_2, .int .i64 a1_3, .slice A1_4 l1_4.length c1_4, .int .i64 a1_5, .slice A1_6 l1_6.length c1_6] 30 ?_; intro gb330 hg w19 hbox hb; have BK330 := Qx (hbox); have GW330 := Qx ((ge_ hg)); have GE330 := Qx ((ge_ hg)); replace HB := Qx (Qp hB_ hb); have NB329_330 := Qx ((ne_ hg BK329)); have NB330_329 := Qx ((nf_ hg BK329)); replace BK329 := Qx (Qb (kB_ BK329) hb); clear hb hbox hg; have hnb20 := NB329_330.out; have hnc20 := NB330_329.out; obtain ⟨hcz21_0, hcz21_1, hcz21_2, hcz21_3, hcz21_4, hcz21_5, hcz21_6, hfz21_0, hfz21_1, hfz21_2, hfz21_3, hfz21_4, hfz21_5, hfz21_6⟩ := cellsQ7_g1c (w := w19) BK329.out; obtain ⟨hcz22_0, hcz22_1, hcz22_2, hcz22_3, hcz22_4, hcz22_5, hcz22_6, hfz22_0, hfz22_1, hfz22_2, hfz22_3, hfz22_4, hfz22_5, hfz22_6⟩ := cellsQ7_g1c (w := w19) BK330.out) | (go_at_call 22; (with_reducible refine (laws_pSameBits.calls k a0_3 _ _ l0_4 a1_3 _ _ l1_4 false _ ?side1 ?side2 ?side3 ?side4 A6.out).mono ?_); (case side1 => exact kC_ HR0_4); (case side2 => exact HC0_4.out); (case side3 => exact kC_ HR1_4); (case side4 => exact HC1_4.out); rintro e w23 ⟨rfl, hb⟩; replace BK329 := Qx (Qb (kB_ BK329) hb); replace BK330 := Qx (Qb (kB_ BK330) hb); replace HB := Qx (Qp hB_ hb); (try clear hb); (try clear hb2); (try clear hk); (try clear hi)))
      go_ret
      exact ⟨rf_, hB_⟩
    ·rw [if_neg c5] at H
     have c5b0 : (a0_2 == a1_2) = false := beq_eq_false_iff_ne.mpr c5
     have c5b1 : (a0_2 != a1_2) = true := bne_iff_ne.mpr c5
     obtain rfl := Option.some.inj H
     go_enter Try.func8, Try.ntmps8
     go_wp2_with (first | ((with_reducible refine gate_dst (N := 2) rfl ?_); refine bx_ 2 #[.int .i64 a0_0, .int .i64 a0_1, .int .i64 a0_2, .int .i64 a0_3, .slice A0_4 l0_4.length c0_4, .int .i64 a0_5, .slice A0_6 l0_6.length c0_6] 30 ?_; intro gb329 hg w24 hbox hb; have BK329 := Qx (hbox); have GW329 := Qx ((ge_ hg)); have GE329 := Qx ((ge_ hg)); replace HB := Qx (Qp hB_ hb); clear hb hbox hg) | ((with_reducible refine gate_dst (N := 3) rfl ?_); refine bx_ 3 #[.int .i64 a1_0, .int .i64 a1_1, .int .i64 a1_2, .int .i64 a1_3, .slice A1_4 l1_4.length c1_4, .int .i64 a1_5, .slice A1_6 l1_6.length c1_6] 30 ?_; intro gb330 hg w25 hbox hb; have BK330 := Qx (hbox); have GW330 := Qx ((ge_ hg)); have GE330 := Qx ((ge_ hg)); replace HB := Qx (Qp hB_ hb); have NB329_330 := Qx ((ne_ hg BK329)); have NB330_329 := Qx ((nf_ hg BK329)); replace BK329 := Qx (Qb (kB_ BK329) hb); clear hb hbox hg; have hnb26 := NB329_330.out; have hnc26 := NB330_329.out; obtain ⟨hcz27_0, hcz27_1, hcz27_2, hcz27_3, hcz27_4, hcz27_5, hcz27_6, hfz27_0, hfz27_1, hfz27_2, hfz27_3, hfz27_4, hfz27_5, hfz27_6⟩ := cellsQ7_g1c (w := w25) BK329.out; obtain ⟨hcz28_0, hcz28_1, hcz28_2, hcz28_3, hcz28_4, hcz28_5, hcz28_6, hfz28_0, hfz28_1, hfz28_2, hfz28_3, hfz28_4, hfz28_5, hfz28_6⟩ := cellsQ7_g1c (w := w25) BK330.out))
     go_ret
     exact ⟨rf_, hB_⟩
   ·rw [if_neg c4] at H
    have c4b0 : (a0_1 == a1_1) = false := beq_eq_false_iff_ne.mpr c4
    have c4b1 : (a0_1 != a1_1) = true := bne_iff_ne.mpr c4
    obtain rfl := Option.some.inj H
    go_enter Try.func8, Try.ntmps8
    go_wp2_with (first | ((with_reducible refine gate_dst (N := 2) rfl ?_); refine bx_ 2 #[.int .i64 a0_0, .int .i64 a0_1, .int .i64 a0_2, .int .i64 a0_3, .slice A0_4 l0_4.length c0_4, .int .i64 a0_5, .slice A0_6 l0_6.length c0_6] 30 ?_; intro gb329 hg w29 hbox hb; have BK329 := Qx (hbox); have GW329 := Qx ((ge_ hg)); have GE329 := Qx ((ge_ hg)); replace HB := Qx (Qp hB_ hb); clear hb hbox hg) | ((with_reducible refine gate_dst (N := 3) rfl ?_); refine bx_ 3 #[.int .i64 a1_0, .int .i64 a1_1, .int .i64 a1_2, .int .i64 a1_3, .slice A1_4 l1_4.length c1_4, .int .i64 a1_5, .slice A1_6 l1_6.length c1_6] 30 ?_; intro gb330 hg w30 hbox hb; have BK330 := Qx (hbox); have GW330 := Qx ((ge_ hg)); have GE330 := Qx ((ge_ hg)); replace HB := Qx (Qp hB_ hb); have NB329_330 := Qx ((ne_ hg BK329)); have NB330_329 := Qx ((nf_ hg BK329)); replace BK329 := Qx (Qb (kB_ BK329) hb); clear hb hbox hg; have hnb31 := NB329_330.out; have hnc31 := NB330_329.out; obtain ⟨hcz32_0, hcz32_1, hcz32_2, hcz32_3, hcz32_4, hcz32_5, hcz32_6, hfz32_0, hfz32_1, hfz32_2, hfz32_3, hfz32_4, hfz32_5, hfz32_6⟩ := cellsQ7_g1c (w := w30) BK329.out; obtain ⟨hcz33_0, hcz33_1, hcz33_2, hcz33_3, hcz33_4, hcz33_5, hcz33_6, hfz33_0, hfz33_1, hfz33_2, hfz33_3, hfz33_4, hfz33_5, hfz33_6⟩ := cellsQ7_g1c (w := w30) BK330.out))
    go_ret
    exact ⟨rf_, hB_⟩
  ·rw [if_neg c3] at H
   have c3b0 : (a0_0 == a1_0) = false := beq_eq_false_iff_ne.mpr c3
   have c3b1 : (a0_0 != a1_0) = true := bne_iff_ne.mpr c3
   obtain rfl := Option.some.inj H
   go_enter Try.func8, Try.ntmps8
   go_wp2_with (first | ((with_reducible refine gate_dst (N := 2) rfl ?_); refine bx_ 2 #[.int .i64 a0_0, .int .i64 a0_1, .int .i64 a0_2, .int .i64 a0_3, .slice A0_4 l0_4.length c0_4, .int .i64 a0_5, .slice A0_6 l0_6.length c0_6] 30 ?_; intro gb329 hg w34 hbox hb; have BK329 := Qx (hbox); have GW329 := Qx ((ge_ hg)); have GE329 := Qx ((ge_ hg)); replace HB := Qx (Qp hB_ hb); clear hb hbox hg) | ((with_reducible refine gate_dst (N := 3) rfl ?_); refine bx_ 3 #[.int .i64 a1_0, .int .i64 a1_1, .int .i64 a1_2, .int .i64 a1_3, .slice A1_4 l1_4.length c1_4, .int .i64 a1_5, .slice A1_6 l1_6.length c1_6] 30 ?_; intro gb330 hg w35 hbox hb; have BK330 := Qx (hbox); have GW330 := Qx ((ge_ hg)); have GE330 := Qx ((ge_ hg)); replace HB := Qx (Qp hB_ hb); have NB329_330 := Qx ((ne_ hg BK329)); have NB330_329 := Qx ((nf_ hg BK329)); replace BK329 := Qx (Qb (kB_ BK329) hb); clear hb hbox hg; have hnb36 := NB329_330.out; have hnc36 := NB330_329.out; obtain ⟨hcz37_0, hcz37_1, hcz37_2, hcz37_3, hcz37_4, hcz37_5, hcz37_6, hfz37_0, hfz37_1, hfz37_2, hfz37_3, hfz37_4, hfz37_5, hfz37_6⟩ := cellsQ7_g1c (w := w35) BK329.out; obtain ⟨hcz38_0, hcz38_1, hcz38_2, hcz38_3, hcz38_4, hcz38_5, hcz38_6, hfz38_0, hfz38_1, hfz38_2, hfz38_3, hfz38_4, hfz38_5, hfz38_6⟩ := cellsQ7_g1c (w := w35) BK330.out))
   go_ret
   exact ⟨rf_, hB_⟩
/-! ### impl_IsBits: function 42 -/
mutual
def impl_IsBits.j0 : Nat → Bool → Int → List Int → Option (Bool)
  | 0, _, _, _ => none
  | k + 1, x18, x334000, x334001 => if x18 = true then (some false) else (impl_IsBits.l0 k x334001 (x334001.length : Int) 0 x334000 x334001)
def impl_IsBits.l0 : Nat → List Int → Int → Int → Int → List Int → Option (Bool)
  | 0, _, _, _, _, _ => none
  | k + 1, x20, x21, x22, x334000, x334001 => if x22 < x21 then (if 0 ≤ x22 then (if x22 < (x20.length : Int) then ((impl_in.f (rd x20 x22) 0 65535).bind fun t337 => (if t337 = true then (impl_IsBits.l0 k x20 x21 (wrap64 (x22 + 1)) x334000 x334001) else (some false))) else (none)) else (none)) else (if (Int.tmod x334000 16) = 0 then (some true) else (if 0 ≤ (wrap64 ((x334001.length : Int) - 1)) then (if (wrap64 ((x334001.length : Int) - 1)) < (x334001.length : Int) then (if 0 ≤ (Int.tmod x334000 16) then (some ((shr .i64 (rd x334001 (wrap64 ((x334001.length : Int) - 1))) (Int.tmod x334000 16)) == 0)) else (none)) else (none)) else (none)))
end
def impl_IsBits.f (k : Nat) (a0_0 : Int) (l0_1 : List Int) : Option (Bool) := (impl_in.f a0_0 0 4096).bind fun t334 => (if t334 = true then ((impl_words.f a0_0).bind fun t335 => (impl_IsBits.j0 k ((l0_1.length : Int) != t335) a0_0 l0_1)) else (impl_IsBits.j0 k true a0_0 l0_1))
theorem impl_IsBits.mono_l : ∀ k, (∀ y0 y1 y2, LeO (impl_IsBits.j0 k y0 y1 y2) (impl_IsBits.j0 (k + 1) y0 y1 y2)) ∧ (∀ y0 y1 y2 y3 y4, LeO (impl_IsBits.l0 k y0 y1 y2 y3 y4) (impl_IsBits.l0 (k + 1) y0 y1 y2 y3 y4))
  | 0 => ⟨fun _ _ _ r h => by simp [impl_IsBits.j0] at h, fun _ _ _ _ _ r h => by simp [impl_IsBits.l0] at h⟩
  | k + 1 => by
    obtain ⟨ih0, ih1⟩ := impl_IsBits.mono_l k
    refine ⟨?_, ?_⟩
    · intro y0 y1 y2
      unfold impl_IsBits.j0
      repeat' first
      | (with_reducible exact ih0 _ _ _)
      | (with_reducible exact ih1 _ _ _ _ _)
      | (with_reducible exact LeO.refl _)
      | (with_reducible exact LeO.none _)
      | (with_reducible refine LeO.ite ?_ ?_)
      | (with_reducible refine LeO.bind ?_ (fun _ => ?_))
      | exact ih0 _ _ _
      | exact ih1 _ _ _ _ _
      | exact LeO.none _
      | refine LeO.ite ?_ ?_
      | refine LeO.bind ?_ (fun _ => ?_)
    · intro y0 y1 y2 y3 y4
      unfold impl_IsBits.l0
      repeat' first
      | (with_reducible exact ih0 _ _ _)
      | (with_reducible exact ih1 _ _ _ _ _)
      | (with_reducible exact LeO.refl _)
      | (with_reducible exact LeO.none _)
      | (with_reducible refine LeO.ite ?_ ?_)
      | (with_reducible refine LeO.bind ?_ (fun _ => ?_))
      | exact ih0 _ _ _
      | exact ih1 _ _ _ _ _
      | exact LeO.none _
      | refine LeO.ite ?_ ?_
      | refine LeO.bind ?_ (fun _ => ?_)
theorem impl_IsBits.mono : ∀ a0 a1 k, LeO (impl_IsBits.f k a0 a1) (impl_IsBits.f (k + 1) a0 a1) := by
  intro a0 a1 k
  obtain ⟨ih0, ih1⟩ := impl_IsBits.mono_l k
  unfold impl_IsBits.f
  repeat' first
      | (with_reducible exact ih0 _ _ _)
      | (with_reducible exact ih1 _ _ _ _ _)
      | (with_reducible exact LeO.refl _)
      | (with_reducible exact LeO.none _)
      | (with_reducible refine LeO.ite ?_ ?_)
      | (with_reducible refine LeO.bind ?_ (fun _ => ?_))
      | exact ih0 _ _ _
      | exact ih1 _ _ _ _ _
      | exact LeO.none _
      | refine LeO.ite ?_ ?_
      | refine LeO.bind ?_ (fun _ => ?_)
noncomputable def impl_IsBits.J0 (y0 : Bool) (y1 : Int) (y2 : List Int) : Option (Bool) := lim fun k => impl_IsBits.j0 k y0 y1 y2
theorem impl_IsBits.J0_sup (y0 : Bool) (y1 : Int) (y2 : List Int) : Sup (fun k => impl_IsBits.j0 k y0 y1 y2) (impl_IsBits.J0 y0 y1 y2) := Sup.of_mono fun k => (impl_IsBits.mono_l k).1 y0 y1 y2
noncomputable def impl_IsBits.L0 (y0 : List Int) (y1 : Int) (y2 : Int) (y3 : Int) (y4 : List Int) : Option (Bool) := lim fun k => impl_IsBits.l0 k y0 y1 y2 y3 y4
theorem impl_IsBits.L0_sup (y0 : List Int) (y1 : Int) (y2 : Int) (y3 : Int) (y4 : List Int) : Sup (fun k => impl_IsBits.l0 k y0 y1 y2 y3 y4) (impl_IsBits.L0 y0 y1 y2 y3 y4) := Sup.of_mono fun k => (impl_IsBits.mono_l k).2 y0 y1 y2 y3 y4
noncomputable def impl_IsBits.F (a0_0 : Int) (l0_1 : List Int) : Option (Bool) := lim fun k => impl_IsBits.f k a0_0 l0_1
theorem impl_IsBits.F_sup (a0_0 : Int) (l0_1 : List Int) : Sup (fun k => impl_IsBits.f k a0_0 l0_1) (impl_IsBits.F a0_0 l0_1) := Sup.of_mono fun k => impl_IsBits.mono a0_0 l0_1 k
theorem impl_IsBits.J0_eq (x18 : Bool) (x334000 : Int) (x334001 : List Int) : impl_IsBits.J0 x18 x334000 x334001 = if x18 = true then (some false) else (impl_IsBits.L0 x334001 (x334001.length : Int) 0 x334000 x334001) := by
  refine Sup.unique (impl_IsBits.J0_sup x18 x334000 x334001) (Sup.shift (fun k => (impl_IsBits.mono_l k).1 x18 x334000 x334001) (Sup.congr (g' := fun k => if x18 = true then (some false) else (impl_IsBits.l0 k x334001 (x334001.length : Int) 0 x334000 x334001)) (fun k => by first | rfl | simp only [impl_IsBits.j0]) ?_))
  repeat' first
    | (with_reducible exact impl_IsBits.J0_sup _ _ _)
    | (with_reducible exact impl_IsBits.L0_sup _ _ _ _ _)
    | (with_reducible refine Sup.ite ?_ ?_)
    | (with_reducible refine Sup.bind ?_ (fun _ => ?_))
    | (with_reducible exact Sup.const _)
    | exact impl_IsBits.J0_sup _ _ _
    | exact impl_IsBits.L0_sup _ _ _ _ _
    | exact Sup.const _
theorem impl_IsBits.L0_eq (x20 : List Int) (x21 : Int) (x22 : Int) (x334000 : Int) (x334001 : List Int) : impl_IsBits.L0 x20 x21 x22 x334000 x334001 = if x22 < x21 then (if 0 ≤ x22 then (if x22 < (x20.length : Int) then ((impl_in.f (rd x20 x22) 0 65535).bind fun t337 => (if t337 = true then (impl_IsBits.L0 x20 x21 (wrap64 (x22 + 1)) x334000 x334001) else (some false))) else (none)) else (none)) else (if (Int.tmod x334000 16) = 0 then (some true) else (if 0 ≤ (wrap64 ((x334001.length : Int) - 1)) then (if (wrap64 ((x334001.length : Int) - 1)) < (x334001.length : Int) then (if 0 ≤ (Int.tmod x334000 16) then (some ((shr .i64 (rd x334001 (wrap64 ((x334001.length : Int) - 1))) (Int.tmod x334000 16)) == 0)) else (none)) else (none)) else (none))) := by
  refine Sup.unique (impl_IsBits.L0_sup x20 x21 x22 x334000 x334001) (Sup.shift (fun k => (impl_IsBits.mono_l k).2 x20 x21 x22 x334000 x334001) (Sup.congr (g' := fun k => if x22 < x21 then (if 0 ≤ x22 then (if x22 < (x20.length : Int) then ((impl_in.f (rd x20 x22) 0 65535).bind fun t337 => (if t337 = true then (impl_IsBits.l0 k x20 x21 (wrap64 (x22 + 1)) x334000 x334001) else (some false))) else (none)) else (none)) else (if (Int.tmod x334000 16) = 0 then (some true) else (if 0 ≤ (wrap64 ((x334001.length : Int) - 1)) then (if (wrap64 ((x334001.length : Int) - 1)) < (x334001.length : Int) then (if 0 ≤ (Int.tmod x334000 16) then (some ((shr .i64 (rd x334001 (wrap64 ((x334001.length : Int) - 1))) (Int.tmod x334000 16)) == 0)) else (none)) else (none)) else (none)))) (fun k => by first | rfl | simp only [impl_IsBits.l0]) ?_))
  repeat' first
    | (with_reducible exact impl_IsBits.J0_sup _ _ _)
    | (with_reducible exact impl_IsBits.L0_sup _ _ _ _ _)
    | (with_reducible refine Sup.ite ?_ ?_)
    | (with_reducible refine Sup.bind ?_ (fun _ => ?_))
    | (with_reducible exact Sup.const _)
    | exact impl_IsBits.J0_sup _ _ _
    | exact impl_IsBits.L0_sup _ _ _ _ _
    | exact Sup.const _
theorem impl_IsBits.F_eq (a0_0 : Int) (l0_1 : List Int) : impl_IsBits.F a0_0 l0_1 = (impl_in.f a0_0 0 4096).bind fun t334 => (if t334 = true then ((impl_words.f a0_0).bind fun t335 => (impl_IsBits.J0 ((l0_1.length : Int) != t335) a0_0 l0_1)) else (impl_IsBits.J0 true a0_0 l0_1)) := by
  refine Sup.unique (impl_IsBits.F_sup a0_0 l0_1) (Sup.congr (g' := fun k => (impl_in.f a0_0 0 4096).bind fun t334 => (if t334 = true then ((impl_words.f a0_0).bind fun t335 => (impl_IsBits.j0 k ((l0_1.length : Int) != t335) a0_0 l0_1)) else (impl_IsBits.j0 k true a0_0 l0_1))) (fun k => by first | rfl | simp only [impl_IsBits.f]) ?_)
  repeat' first
    | (with_reducible exact impl_IsBits.J0_sup _ _ _)
    | (with_reducible exact impl_IsBits.L0_sup _ _ _ _ _)
    | (with_reducible refine Sup.ite ?_ ?_)
    | (with_reducible refine Sup.bind ?_ (fun _ => ?_))
    | (with_reducible exact Sup.const _)
    | exact impl_IsBits.J0_sup _ _ _
    | exact impl_IsBits.L0_sup _ _ _ _ _
    | exact Sup.const _
set_option maxHeartbeats 8000000 in
set_option maxRecDepth 100000 in
theorem impl_IsBits.calls (k : Nat) (a0_0 : Int) (A0_1 : Option Addr) (c0_1 : Nat) (l0_1 : List Int) (r : Bool) (w : World) (hr0_1 : Kd.C (Kd.int .i64) w A0_1 l0_1.length l0_1) (hc0_1 : l0_1.length ≤ c0_1) (h : impl_IsBits.f k a0_0 l0_1 = some r) :
    Calls Try.prog 42 #[.agg #[.int .i64 a0_0, .slice A0_1 l0_1.length c0_1]] w fun e w' => e = .returned (.bool r) ∧ Below w.heap.size w w' := by
  have hu28 := Try.underlying28; have hu24 := Try.underlying24; have HR0_1 := Qx hr0_1; have HC0_1 := Qx hc0_1; clear hr0_1 hc0_1
  have HB := Qx (Below.refl w.heap.size w)
  have H : ((impl_in.f a0_0 0 4096).bind fun t334 => (if t334 = true then ((impl_words.f a0_0).bind fun t335 => (impl_IsBits.j0 k ((l0_1.length : Int) != t335) a0_0 l0_1)) else (impl_IsBits.j0 k true a0_0 l0_1))) = some r := h
  clear h; have HC2 := Qx H; clear H
  go_enter Try.func42, Try.ntmps42
  go_upto_region 1 with (first | ((with_reducible refine gate_dst (N := 1) rfl ?_); (try (refine gate_guard (by rfl) ?_; dsimp only)); refine bx_ 1 #[.int .i64 a0_0, .slice A0_1 l0_1.length c0_1] 28 ?_; intro gb333 hg w3 hbox hb; have BK333 := Qx (hbox); have GW333 := Qx ((ge_ hg)); have GE333 := Qx ((ge_ hg)); replace HB := Qx (Qp hB_ hb); clear hb hbox hg))
  repeat (go_quiet (first | ((with_reducible refine gate_dst (N := 1) rfl ?_); (try (refine gate_guard (by rfl) ?_; dsimp only)); refine bx_ 1 #[.int .i64 a0_0, .slice A0_1 l0_1.length c0_1] 28 ?_; intro gb333 hg w3 hbox hb; have BK333 := Qx (hbox); have GW333 := Qx ((ge_ hg)); have GE333 := Qx ((ge_ hg)); replace HB := Qx (Qp hB_ hb); clear hb hbox hg)); go_upto_region 1 with (first | ((with_reducible refine gate_dst (N := 1) rfl ?_); (try (refine gate_guard (by rfl) ?_; dsimp only)); refine bx_ 1 #[.int .i64 a0_0, .slice A0_1 l0_1.length c0_1] 28 ?_; intro gb333 hg w3 hbox hb; have BK333 := Qx (hbox); have GW333 := Qx ((ge_ hg)); have GE333 := Qx ((ge_ hg)); replace HB := Qx (Qp hB_ hb); clear hb hbox hg)))
  (try simp only [Act.put, List.setIfInBounds_toArray, List.set_cons_zero, List.set_cons_succ])
  go_cut [18] (fun v18 wc => ∃ (kq : Nat) (x18_1 : Bool), v18 = .bool x18_1 ∧ Aside0 (impl_IsBits.j0 kq x18_1 a0_0 l0_1 = some r) ∧ Aside0 (kq ≤ k) ∧ Aside0 (wc.heap[gb333]? = some (.cells #[.int .i64 a0_0, (.slice A0_1 l0_1.length c0_1)] 28 (0, 0))) ∧ Aside0 (Below w.heap.size w wc))
  case first =>
   have H := HC2.out; clear HC2; replace H := Option.bind_eq_some_iff.mp H; obtain ⟨t334, A40, H⟩ := H
   have A4 := Qx A40; clear A40
   by_cases c5 : t334 = true
   ·subst c5
    have H1 : ((impl_words.f a0_0).bind fun t335 => (impl_IsBits.j0 k ((l0_1.length : Int) != t335) a0_0 l0_1)) = some r := by rw [if_pos rfl] at H; exact H
    clear H; have H := H1; clear H1; replace H := Option.bind_eq_some_iff.mp H; obtain ⟨t335, A60, H⟩ := H
    have A6 := Qx A60; clear A60; have H' := Qx H; clear H
    obtain ⟨hcz7_0, hcz7_1, hfz7_0, hfz7_1⟩ := cellsQ2_g1c (w := w3) BK333.out
    go_wp2_with (first | (go_at_call 25; (with_reducible refine (impl_in.calls a0_0 0 4096 true _ A4.out).mono ?_); rintro e w' ⟨rfl, ⟨nd, rfl⟩⟩; (try first | exact ⟨rfl, _, World.drewN_drewN _ _ _⟩ | exact ⟨rfl, _, Eq.trans (World.drewN_drewN _ _ _) (congrArg (World.drewN _) (Nat.add_assoc _ _ _))⟩)) | (go_at_call 48; (with_reducible refine (impl_words.calls a0_0 t335 _ A6.out).mono ?_); rintro e w' ⟨rfl, ⟨nd, rfl⟩⟩; (try first | exact ⟨rfl, _, World.drewN_drewN _ _ _⟩ | exact ⟨rfl, _, Eq.trans (World.drewN_drewN _ _ _) (congrArg (World.drewN _) (Nat.add_assoc _ _ _))⟩)))
    repeat (go_quiet (first | (go_at_call 25; (with_reducible refine (impl_in.calls a0_0 0 4096 true _ A4.out).mono ?_); rintro e w' ⟨rfl, ⟨nd, rfl⟩⟩; (try first | exact ⟨rfl, _, World.drewN_drewN _ _ _⟩ | exact ⟨rfl, _, Eq.trans (World.drewN_drewN _ _ _) (congrArg (World.drewN _) (Nat.add_assoc _ _ _))⟩)) | (go_at_call 48; (with_reducible refine (impl_words.calls a0_0 t335 _ A6.out).mono ?_); rintro e w' ⟨rfl, ⟨nd, rfl⟩⟩; (try first | exact ⟨rfl, _, World.drewN_drewN _ _ _⟩ | exact ⟨rfl, _, Eq.trans (World.drewN_drewN _ _ _) (congrArg (World.drewN _) (Nat.add_assoc _ _ _))⟩))); try go_wp2_with (first | (go_at_call 25; (with_reducible refine (impl_in.calls a0_0 0 4096 true _ A4.out).mono ?_); rintro e w' ⟨rfl, ⟨nd, rfl⟩⟩; (try first | exact ⟨rfl, _, World.drewN_drewN _ _ _⟩ | exact ⟨rfl, _, Eq.trans (World.drewN_drewN _ _ _) (congrArg (World.drewN _) (Nat.add_assoc _ _ _))⟩)) | (go_at_call 48; (with_reducible refine (impl_words.calls a0_0 t335 _ A6.out).mono ?_); rintro e w' ⟨rfl, ⟨nd, rfl⟩⟩; (try first | exact ⟨rfl, _, World.drewN_drewN _ _ _⟩ | exact ⟨rfl, _, Eq.trans (World.drewN_drewN _ _ _) (congrArg (World.drewN _) (Nat.add_assoc _ _ _))⟩))))
    go_meet
    case rel => exact ⟨_, (((l0_1.length : Int) != t335)), rg_, H', ⟨by first | omega | exact Nat.le_refl _⟩, ⟨kB_ BK333⟩, ⟨hB_⟩⟩
   ·replace c5 := Bool.eq_false_iff.mpr c5; subst c5
    have H1 : (impl_IsBits.j0 k true a0_0 l0_1) = some r := by rw [if_neg (show ¬ (false = true) by decide)] at H; exact H
    clear H; have H := H1; clear H1; have H' := Qx H; clear H
    obtain ⟨hcz8_0, hcz8_1, hfz8_0, hfz8_1⟩ := cellsQ2_g1c (w := w3) BK333.out
    go_wp2_with (first | (go_at_call 25; (with_reducible refine (impl_in.calls a0_0 0 4096 false _ A4.out).mono ?_); rintro e w' ⟨rfl, ⟨nd, rfl⟩⟩; (try first | exact ⟨rfl, _, World.drewN_drewN _ _ _⟩ | exact ⟨rfl, _, Eq.trans (World.drewN_drewN _ _ _) (congrArg (World.drewN _) (Nat.add_assoc _ _ _))⟩)))
    repeat (go_quiet (first | (go_at_call 25; (with_reducible refine (impl_in.calls a0_0 0 4096 false _ A4.out).mono ?_); rintro e w' ⟨rfl, ⟨nd, rfl⟩⟩; (try first | exact ⟨rfl, _, World.drewN_drewN _ _ _⟩ | exact ⟨rfl, _, Eq.trans (World.drewN_drewN _ _ _) (congrArg (World.drewN _) (Nat.add_assoc _ _ _))⟩))); try go_wp2_with (first | (go_at_call 25; (with_reducible refine (impl_in.calls a0_0 0 4096 false _ A4.out).mono ?_); rintro e w' ⟨rfl, ⟨nd, rfl⟩⟩; (try first | exact ⟨rfl, _, World.drewN_drewN _ _ _⟩ | exact ⟨rfl, _, Eq.trans (World.drewN_drewN _ _ _) (congrArg (World.drewN _) (Nat.add_assoc _ _ _))⟩))))
    go_meet
    case rel => exact ⟨_, (true), rg_, H', ⟨by first | omega | exact Nat.le_refl _⟩, ⟨kB_ BK333⟩, ⟨hB_⟩⟩
  case rest =>
   clear HC2
   try clear p2
   try clear c4
   try clear c5
   try clear hcz7_0
   try clear hcz7_1
   try clear hcz8_0
   try clear hcz8_1
   try clear hfz7_0
   try clear hfz7_1
   try clear hfz8_0
   try clear hfz8_1
   obtain ⟨kq, x18_1, rfl, HA, HJ1, BK333, HB⟩ := hcut
   cases kq with
   | zero => exact absurd HA.out (by simp [impl_IsBits.j0])
   | succ kj1 =>
    have H := HA.out; clear HA; simp only [impl_IsBits.j0] at H
    by_cases c9 : x18_1 = true
    ·subst c9
     have H1 : (some false) = some r := by rw [if_pos rfl] at H; exact H
     clear H; have H := H1; clear H1; obtain rfl := Option.some.inj H
     go_wp2
     repeat (go_quiet (fail); try go_wp2)
     go_ret
     exact ⟨rf_, hB_⟩
    ·replace c9 := Bool.eq_false_iff.mpr c9; subst c9
     have H1 : (impl_IsBits.l0 kj1 l0_1 (l0_1.length : Int) 0 a0_0 l0_1) = some r := by rw [if_neg (show ¬ (false = true) by decide)] at H; exact H
     clear H; have H := H1; clear H1; have H' := Qx H; clear H
     obtain ⟨hcz10_0, hcz10_1, hfz10_0, hfz10_1⟩ := cellsQ2_g1c (w := wc) BK333.out
     go_wp2
     repeat (go_quiet (fail); try go_wp2)
     go_loopg [22] kj1 (fun kq v22 w' => ∃ (x22_2 : Int), v22 = .int .i64 x22_2 ∧ Aside0 (impl_IsBits.l0 kq l0_1 (l0_1.length : Int) x22_2 a0_0 l0_1 = some r) ∧ Aside0 (kq ≤ kj1) ∧ Aside0 (w'.heap[gb333]? = some (.cells #[.int .i64 a0_0, (.slice A0_1 l0_1.length c0_1)] 28 (0, 0))) ∧ Aside0 (Below w.heap.size w w'))
     case atStart => exact ⟨(0), rg_, H', ⟨Nat.le_refl _⟩, ⟨kB_ BK333⟩, ⟨hB_⟩⟩
     case round =>
      clear H'
      try clear p2
      try clear c4
      try clear c5
      try clear c9
      try clear hcz10_0
      try clear hcz10_1
      try clear hcz7_0
      try clear hcz7_1
      try clear hcz8_0
      try clear hcz8_1
      try clear hfz10_0
      try clear hfz10_1
      try clear hfz7_0
      try clear hfz7_1
      try clear hfz8_0
      try clear hfz8_1
      try clear p2
      obtain ⟨x22_2, rfl, HA, HK2, BK333, HB⟩ := hrel
      cases gk with
      | zero => exact absurd HA.out (by simp [impl_IsBits.l0])
      | succ k2 =>
       have H := HA.out; clear HA; simp only [impl_IsBits.l0] at H
       by_cases c11 : x22_2 < (l0_1.length : Int)
       ·rw [if_pos c11] at H
        have c11b0 : decide (x22_2 < (l0_1.length : Int)) = true := decide_eq_true c11
        clear c11
        by_cases c12 : 0 ≤ x22_2
        ·rw [if_pos c12] at H
         have c12b0 : decide (0 ≤ x22_2) = true := decide_eq_true c12
         clear c12
         by_cases c13 : x22_2 < (l0_1.length : Int)
         ·rw [if_pos c13] at H
          have c13b0 : decide (x22_2 < (l0_1.length : Int)) = true := decide_eq_true c13
          clear c13; replace H := Option.bind_eq_some_iff.mp H; obtain ⟨t337, A140, H⟩ := H
          have A14 := Qx A140; clear A140
          by_cases c15 : t337 = true
          ·subst c15
           have H1 : (impl_IsBits.l0 k2 l0_1 (l0_1.length : Int) (wrap64 (x22_2 + 1)) a0_0 l0_1) = some r := by rw [if_pos rfl] at H; exact H
           clear H; have H := H1; clear H1; have H' := Qx H; clear H
           have p336 : 0 ≤ (x22_2 : Int) := of_decide_eq_true as_
           have q336 : x22_2 < (l0_1.length : Int) := of_decide_eq_true as_
           obtain ⟨ad336, e336, hx336_0⟩ := Kd.at_int HR0_1.out x22_2 p336 q336
           cases e336
           replace hx336_0 := (HB.out.cell (World.block_lt_of_cell? w _ hx336_0)).trans hx336_0
           replace p336 := eq_true p336; replace q336 := eq_true q336
           go_wp2_with (first | (go_at_call 25; (with_reducible refine (impl_in.calls (rd l0_1 x22_2) 0 65535 true _ A14.out).mono ?_); rintro e w' ⟨rfl, ⟨nd, rfl⟩⟩; (try first | exact ⟨rfl, _, World.drewN_drewN _ _ _⟩ | exact ⟨rfl, _, Eq.trans (World.drewN_drewN _ _ _) (congrArg (World.drewN _) (Nat.add_assoc _ _ _))⟩)))
           repeat (go_quiet (first | (go_at_call 25; (with_reducible refine (impl_in.calls (rd l0_1 x22_2) 0 65535 true _ A14.out).mono ?_); rintro e w' ⟨rfl, ⟨nd, rfl⟩⟩; (try first | exact ⟨rfl, _, World.drewN_drewN _ _ _⟩ | exact ⟨rfl, _, Eq.trans (World.drewN_drewN _ _ _) (congrArg (World.drewN _) (Nat.add_assoc _ _ _))⟩))); try go_wp2_with (first | (go_at_call 25; (with_reducible refine (impl_in.calls (rd l0_1 x22_2) 0 65535 true _ A14.out).mono ?_); rintro e w' ⟨rfl, ⟨nd, rfl⟩⟩; (try first | exact ⟨rfl, _, World.drewN_drewN _ _ _⟩ | exact ⟨rfl, _, Eq.trans (World.drewN_drewN _ _ _) (congrArg (World.drewN _) (Nat.add_assoc _ _ _))⟩))))
           go_roundg k2
           case measure => have := HJ1.out; have := HK2.out; omega
           case rel => exact ⟨(wrap64 (x22_2 + 1)), rg_, H', ⟨by have := HJ1.out; have := HK2.out; omega⟩, ⟨kB_ BK333⟩, ⟨hB_⟩⟩
          ·replace c15 := Bool.eq_false_iff.mpr c15; subst c15
           have H1 : (some false) = some r := by rw [if_neg (show ¬ (false = true) by decide)] at H; exact H
           clear H; have H := H1; clear H1; obtain rfl := Option.some.inj H
           have p336 : 0 ≤ (x22_2 : Int) := of_decide_eq_true as_
           have q336 : x22_2 < (l0_1.length : Int) := of_decide_eq_true as_
           obtain ⟨ad336, e336, hx336_0⟩ := Kd.at_int HR0_1.out x22_2 p336 q336
           cases e336
           replace hx336_0 := (HB.out.cell (World.block_lt_of_cell? w _ hx336_0)).trans hx336_0
           replace p336 := eq_true p336; replace q336 := eq_true q336
           go_wp2_with (first | (go_at_call 25; (with_reducible refine (impl_in.calls (rd l0_1 x22_2) 0 65535 false _ A14.out).mono ?_); rintro e w' ⟨rfl, ⟨nd, rfl⟩⟩; (try first | exact ⟨rfl, _, World.drewN_drewN _ _ _⟩ | exact ⟨rfl, _, Eq.trans (World.drewN_drewN _ _ _) (congrArg (World.drewN _) (Nat.add_assoc _ _ _))⟩)))
           repeat (go_quiet (first | (go_at_call 25; (with_reducible refine (impl_in.calls (rd l0_1 x22_2) 0 65535 false _ A14.out).mono ?_); rintro e w' ⟨rfl, ⟨nd, rfl⟩⟩; (try first | exact ⟨rfl, _, World.drewN_drewN _ _ _⟩ | exact ⟨rfl, _, Eq.trans (World.drewN_drewN _ _ _) (congrArg (World.drewN _) (Nat.add_assoc _ _ _))⟩))); try go_wp2_with (first | (go_at_call 25; (with_reducible refine (impl_in.calls (rd l0_1 x22_2) 0 65535 false _ A14.out).mono ?_); rintro e w' ⟨rfl, ⟨nd, rfl⟩⟩; (try first | exact ⟨rfl, _, World.drewN_drewN _ _ _⟩ | exact ⟨rfl, _, Eq.trans (World.drewN_drewN _ _ _) (congrArg (World.drewN _) (Nat.add_assoc _ _ _))⟩))))
           go_ret
           exact ⟨rf_, hB_⟩
         ·rw [if_neg c13] at H
          exact absurd H (by simp)
        ·rw [if_neg c12] at H
         exact absurd H (by simp)
       ·rw [if_neg c11] at H
        have c11b0 : decide (x22_2 < (l0_1.length : Int)) = false := decide_eq_false c11
        clear c11
        by_cases c16 : (Int.tmod a0_0 16) = 0
        ·rw [if_pos c16] at H
         have c16b0 : ((Int.tmod a0_0 16) == 0) = true := beq_iff_eq.mpr c16
         have c16b1 : ((Int.tmod a0_0 16) != 0) = false := bne_eq_false_iff_eq.mpr c16
         clear c16; obtain rfl := Option.some.inj H
         obtain ⟨hcz17_0, hcz17_1, hfz17_0, hfz17_1⟩ := cellsQ2_g1c (w := wr) BK333.out
         go_wp2
         repeat (go_quiet (fail); try go_wp2)
         go_ret
         exact ⟨rf_, hB_⟩
        ·rw [if_neg c16] at H
         have c16b0 : ((Int.tmod a0_0 16) == 0) = false := beq_eq_false_iff_ne.mpr c16
         have c16b1 : ((Int.tmod a0_0 16) != 0) = true := bne_iff_ne.mpr c16
         obtain ⟨ji18, hji18⟩ : ∃ j_ : Int, (wrap64 ((l0_1.length : Int) - 1)) = j_ := ⟨_, rfl⟩
         replace H : (if 0 ≤ (ji18) then (if (ji18) < (l0_1.length : Int) then (if 0 ≤ (Int.tmod a0_0 16) then (some ((shr .i64 (rd l0_1 (ji18)) (Int.tmod a0_0 16)) == 0)) else (none)) else (none)) else (none)) = some r := by first | (rw [hji18] at H; exact H) | (simp only [hji18] at H ⊢; exact H)
         have hji18w : (IntKind.i64.wrap ((l0_1.length : Int) - 1)) = ji18 := (i64_w _).trans hji18
         by_cases c19 : 0 ≤ (ji18)
         ·rw [if_pos c19] at H
          have c19b0 : decide (0 ≤ (ji18)) = true := decide_eq_true c19
          clear c19
          by_cases c20 : (ji18) < (l0_1.length : Int)
          ·rw [if_pos c20] at H
           have c20b0 : decide ((ji18) < (l0_1.length : Int)) = true := decide_eq_true c20
           clear c20
           obtain ⟨ji21, hji21⟩ : ∃ j_ : Int, (Int.tmod a0_0 16) = j_ := ⟨_, rfl⟩
           replace H : (if 0 ≤ (ji21) then (some ((shr .i64 (rd l0_1 (ji18)) (ji21)) == 0)) else (none)) = some r := by first | (rw [hji21] at H; exact H) | (simp only [hji21] at H ⊢; exact H)
           (try rw [hji21] at c16b0)
           (try rw [hji21] at c16b1)
           by_cases c22 : 0 ≤ (ji21)
           ·rw [if_pos c22] at H; have c22b0 := eq_true c22
            have c22b1 : decide (0 ≤ (ji21)) = true := decide_eq_true c22
            clear c22
            obtain ⟨ji23, hji23⟩ : ∃ j_ : Int, (shr .i64 (rd l0_1 (ji18)) (ji21)) = j_ := ⟨_, rfl⟩
            replace H : (some ((ji23) == 0)) = some r := by first | (rw [hji23] at H; exact H) | (simp only [hji23] at H ⊢; exact H)
            have hji23_ : ((rd l0_1 (ji18)) / 2 ^ min (ji21).toNat 64) = ji23 := hji23
            have hji23z : (ji21) ≤ 64 → ((rd l0_1 (ji18)) / 2 ^ (ji21).toNat) = ji23 := shr_small hji23
            obtain rfl := Option.some.inj H
            obtain ⟨hcz24_0, hcz24_1, hfz24_0, hfz24_1⟩ := cellsQ2_g1c (w := wr) BK333.out
            have p338 : 0 ≤ ((ji18) : Int) := of_decide_eq_true as_
            have q338 : (ji18) < (l0_1.length : Int) := of_decide_eq_true as_
            obtain ⟨ad338, e338, hx338_0⟩ := Kd.at_int HR0_1.out (ji18) p338 q338
            cases e338
            replace hx338_0 := (HB.out.cell (World.block_lt_of_cell? w _ hx338_0)).trans hx338_0
            replace p338 := eq_true p338; replace q338 := eq_true q338
            go_wp2
            repeat (go_quiet (fail); try go_wp2)
            go_ret
            exact ⟨by first | rfl | (simp [errW_none, errW_some] <;> rfl) | (simp only [← hji18, ← hji21, ← hji23]; first | rfl | (simp [errW_none, errW_some] <;> rfl)) | (simp [*, errW_none, errW_some] <;> rfl), hB_⟩
           ·rw [if_neg c22] at H
            exact absurd H (by simp)
          ·rw [if_neg c20] at H
           exact absurd H (by simp)
         ·rw [if_neg c19] at H
          exact absurd H (by simp)
/-! ### slices_Equal_int_int: function 52 -/
def slices_Equal_int_int.l0 : Nat → List Int → List Int → Int → Int → Option (Bool)
  | 0, _, _, _, _ => none
  | k + 1, x0, x1, x12, x13 => if x13 < x12 then (if 0 ≤ x13 then (if x13 < (x0.length : Int) then (if x13 < (x1.length : Int) then (if (rd x0 x13) = (rd x1 x13) then (slices_Equal_int_int.l0 k x0 x1 x12 (wrap64 (x13 + 1))) else (some false)) else (none)) else (none)) else (none)) else (some true)
def slices_Equal_int_int.f (k : Nat) (l0 : List Int) (l1 : List Int) : Option (Bool) := if (l0.length : Int) = (l1.length : Int) then (slices_Equal_int_int.l0 k l0 l1 (l0.length : Int) 0) else (some false)
theorem slices_Equal_int_int.mono_l : ∀ k, (∀ y0 y1 y2 y3, LeO (slices_Equal_int_int.l0 k y0 y1 y2 y3) (slices_Equal_int_int.l0 (k + 1) y0 y1 y2 y3))
  | 0 => fun _ _ _ _ r h => by simp [slices_Equal_int_int.l0] at h
  | k + 1 => by
    have ih0 := slices_Equal_int_int.mono_l k
    · intro y0 y1 y2 y3
      unfold slices_Equal_int_int.l0
      repeat' first
      | (with_reducible exact ih0 _ _ _ _)
      | (with_reducible exact LeO.refl _)
      | (with_reducible exact LeO.none _)
      | (with_reducible refine LeO.ite ?_ ?_)
      | (with_reducible refine LeO.bind ?_ (fun _ => ?_))
      | exact ih0 _ _ _ _
      | exact LeO.none _
      | refine LeO.ite ?_ ?_
      | refine LeO.bind ?_ (fun _ => ?_)
theorem slices_Equal_int_int.mono : ∀ a0 a1 k, LeO (slices_Equal_int_int.f k a0 a1) (slices_Equal_int_int.f (k + 1) a0 a1) := by
  intro a0 a1 k
  have ih0 := slices_Equal_int_int.mono_l k
  unfold slices_Equal_int_int.f
  repeat' first
      | (with_reducible exact ih0 _ _ _ _)
      | (with_reducible exact LeO.refl _)
      | (with_reducible exact LeO.none _)
      | (with_reducible refine LeO.ite ?_ ?_)
      | (with_reducible refine LeO.bind ?_ (fun _ => ?_))
      | exact ih0 _ _ _ _
      | exact LeO.none _
      | refine LeO.ite ?_ ?_
      | refine LeO.bind ?_ (fun _ => ?_)
noncomputable def slices_Equal_int_int.L0 (y0 : List Int) (y1 : List Int) (y2 : Int) (y3 : Int) : Option (Bool) := lim fun k => slices_Equal_int_int.l0 k y0 y1 y2 y3
theorem slices_Equal_int_int.L0_sup (y0 : List Int) (y1 : List Int) (y2 : Int) (y3 : Int) : Sup (fun k => slices_Equal_int_int.l0 k y0 y1 y2 y3) (slices_Equal_int_int.L0 y0 y1 y2 y3) := Sup.of_mono fun k => slices_Equal_int_int.mono_l k y0 y1 y2 y3
noncomputable def slices_Equal_int_int.F (l0 : List Int) (l1 : List Int) : Option (Bool) := lim fun k => slices_Equal_int_int.f k l0 l1
theorem slices_Equal_int_int.F_sup (l0 : List Int) (l1 : List Int) : Sup (fun k => slices_Equal_int_int.f k l0 l1) (slices_Equal_int_int.F l0 l1) := Sup.of_mono fun k => slices_Equal_int_int.mono l0 l1 k
theorem slices_Equal_int_int.L0_eq (x0 : List Int) (x1 : List Int) (x12 : Int) (x13 : Int) : slices_Equal_int_int.L0 x0 x1 x12 x13 = if x13 < x12 then (if 0 ≤ x13 then (if x13 < (x0.length : Int) then (if x13 < (x1.length : Int) then (if (rd x0 x13) = (rd x1 x13) then (slices_Equal_int_int.L0 x0 x1 x12 (wrap64 (x13 + 1))) else (some false)) else (none)) else (none)) else (none)) else (some true) := by
  refine Sup.unique (slices_Equal_int_int.L0_sup x0 x1 x12 x13) (Sup.shift (fun k => slices_Equal_int_int.mono_l k x0 x1 x12 x13) (Sup.congr (g' := fun k => if x13 < x12 then (if 0 ≤ x13 then (if x13 < (x0.length : Int) then (if x13 < (x1.length : Int) then (if (rd x0 x13) = (rd x1 x13) then (slices_Equal_int_int.l0 k x0 x1 x12 (wrap64 (x13 + 1))) else (some false)) else (none)) else (none)) else (none)) else (some true)) (fun k => by first | rfl | simp only [slices_Equal_int_int.l0]) ?_))
  repeat' first
    | (with_reducible exact slices_Equal_int_int.L0_sup _ _ _ _)
    | (with_reducible refine Sup.ite ?_ ?_)
    | (with_reducible refine Sup.bind ?_ (fun _ => ?_))
    | (with_reducible exact Sup.const _)
    | exact slices_Equal_int_int.L0_sup _ _ _ _
    | exact Sup.const _
theorem slices_Equal_int_int.F_eq (l0 : List Int) (l1 : List Int) : slices_Equal_int_int.F l0 l1 = if (l0.length : Int) = (l1.length : Int) then (slices_Equal_int_int.L0 l0 l1 (l0.length : Int) 0) else (some false) := by
  refine Sup.unique (slices_Equal_int_int.F_sup l0 l1) (Sup.congr (g' := fun k => if (l0.length : Int) = (l1.length : Int) then (slices_Equal_int_int.l0 k l0 l1 (l0.length : Int) 0) else (some false)) (fun k => by first | rfl | simp only [slices_Equal_int_int.f]) ?_)
  repeat' first
    | (with_reducible exact slices_Equal_int_int.L0_sup _ _ _ _)
    | (with_reducible refine Sup.ite ?_ ?_)
    | (with_reducible refine Sup.bind ?_ (fun _ => ?_))
    | (with_reducible exact Sup.const _)
    | exact slices_Equal_int_int.L0_sup _ _ _ _
    | exact Sup.const _
set_option maxHeartbeats 8000000 in
set_option maxRecDepth 100000 in
theorem slices_Equal_int_int.calls (k : Nat) (A0 : Option Addr) (c0 : Nat) (l0 : List Int) (A1 : Option Addr) (c1 : Nat) (l1 : List Int) (r : Bool) (w : World) (hr0 : Kd.C (Kd.int .i64) w A0 l0.length l0) (hc0 : l0.length ≤ c0) (hr1 : Kd.C (Kd.int .i64) w A1 l1.length l1) (hc1 : l1.length ≤ c1) (h : slices_Equal_int_int.f k l0 l1 = some r) :
    Calls Try.prog 52 #[.slice A0 l0.length c0, .slice A1 l1.length c1] w fun e w' => e = .returned (.bool r) ∧ Drawn0 w w' := by
  have HR0 := Qx hr0; have HC0 := Qx hc0; clear hr0 hc0; have HR1 := Qx hr1; have HC1 := Qx hc1; clear hr1 hc1
  have H : (if (l0.length : Int) = (l1.length : Int) then (slices_Equal_int_int.l0 k l0 l1 (l0.length : Int) 0) else (some false)) = some r := h
  clear h
  by_cases c3 : (l0.length : Int) = (l1.length : Int)
  ·rw [if_pos c3] at H
   have c3b0 : ((l0.length : Int) == (l1.length : Int)) = true := beq_iff_eq.mpr c3
   have c3b1 : ((l0.length : Int) != (l1.length : Int)) = false := bne_eq_false_iff_eq.mpr c3
   have c3b2 : (l0.length == l1.length) = true := by first | simpa using c3 | (simp at c3 ⊢; omega)
   clear c3; have H' := Qx H; clear H
   go_enter Try.func52, Try.ntmps52
   go_wp2
   repeat (go_quiet (fail); try go_wp2)
   go_loopg [13] k (fun kq v13 w' => ∃ (x13_1 : Int), v13 = .int .i64 x13_1 ∧ Aside0 (slices_Equal_int_int.l0 kq l0 l1 (l0.length : Int) x13_1 = some r) ∧ Aside0 (kq ≤ k) ∧ Drawn0 w w')
   case atStart => exact ⟨(0), rg_, H', ⟨Nat.le_refl _⟩, by repeat (first | exact Drawn0.refl _ | apply Drawn0.step)⟩
   case round =>
    clear H'
    try clear c1
    try clear p2
    try clear c3
    try clear c3b0
    try clear c3b1
    try clear c3b2
    obtain ⟨x13_1, rfl, HA, HK1, ⟨m1, rfl⟩⟩ := hrel
    cases gk with
    | zero => exact absurd HA.out (by simp [slices_Equal_int_int.l0])
    | succ k1 =>
     have H := HA.out; clear HA; simp only [slices_Equal_int_int.l0] at H
     by_cases c4 : x13_1 < (l0.length : Int)
     ·rw [if_pos c4] at H
      have c4b0 : decide (x13_1 < (l0.length : Int)) = true := decide_eq_true c4
      clear c4
      by_cases c5 : 0 ≤ x13_1
      ·rw [if_pos c5] at H
       have c5b0 : decide (0 ≤ x13_1) = true := decide_eq_true c5
       clear c5
       by_cases c6 : x13_1 < (l0.length : Int)
       ·rw [if_pos c6] at H
        have c6b0 : decide (x13_1 < (l0.length : Int)) = true := decide_eq_true c6
        clear c6
        by_cases c7 : x13_1 < (l1.length : Int)
        ·rw [if_pos c7] at H
         have c7b0 : decide (x13_1 < (l1.length : Int)) = true := decide_eq_true c7
         clear c7
         by_cases c8 : (rd l0 x13_1) = (rd l1 x13_1)
         ·rw [if_pos c8] at H
          have c8b0 : ((rd l0 x13_1) == (rd l1 x13_1)) = true := beq_iff_eq.mpr c8
          have c8b1 : ((rd l0 x13_1) != (rd l1 x13_1)) = false := bne_eq_false_iff_eq.mpr c8
          clear c8; have H' := Qx H; clear H
          have p339 : 0 ≤ (x13_1 : Int) := of_decide_eq_true as_
          have q339 : x13_1 < (l0.length : Int) := of_decide_eq_true as_
          obtain ⟨ad339, e339, hx339_0⟩ := Kd.at_int HR0.out x13_1 p339 q339
          cases e339
          replace p339 := eq_true p339; replace q339 := eq_true q339
          have p340 : 0 ≤ (x13_1 : Int) := of_decide_eq_true as_
          have q340 : x13_1 < (l1.length : Int) := of_decide_eq_true as_
          obtain ⟨ad340, e340, hx340_0⟩ := Kd.at_int HR1.out x13_1 p340 q340
          cases e340
          replace p340 := eq_true p340; replace q340 := eq_true q340
          go_wp2
          repeat (go_quiet (fail); try go_wp2)
          go_roundg k1
          case measure => have := HK1.out; omega
          case rel => exact ⟨(wrap64 (x13_1 + 1)), rg_, H', ⟨by have := HK1.out; omega⟩, by repeat (first | exact Drawn0.refl _ | apply Drawn0.step)⟩
         ·rw [if_neg c8] at H
          have c8b0 : ((rd l0 x13_1) == (rd l1 x13_1)) = false := beq_eq_false_iff_ne.mpr c8
          have c8b1 : ((rd l0 x13_1) != (rd l1 x13_1)) = true := bne_iff_ne.mpr c8
          obtain rfl := Option.some.inj H
          have p339 : 0 ≤ (x13_1 : Int) := of_decide_eq_true as_
          have q339 : x13_1 < (l0.length : Int) := of_decide_eq_true as_
          obtain ⟨ad339, e339, hx339_0⟩ := Kd.at_int HR0.out x13_1 p339 q339
          cases e339
          replace p339 := eq_true p339; replace q339 := eq_true q339
          have p340 : 0 ≤ (x13_1 : Int) := of_decide_eq_true as_
          have q340 : x13_1 < (l1.length : Int) := of_decide_eq_true as_
          obtain ⟨ad340, e340, hx340_0⟩ := Kd.at_int HR1.out x13_1 p340 q340
          cases e340
          replace p340 := eq_true p340; replace q340 := eq_true q340
          go_wp2
          repeat (go_quiet (fail); try go_wp2)
          go_ret
          exact ⟨rg_, by repeat (first | exact Drawn0.refl _ | apply Drawn0.step)⟩
        ·rw [if_neg c7] at H
         exact absurd H (by simp)
       ·rw [if_neg c6] at H
        exact absurd H (by simp)
      ·rw [if_neg c5] at H
       exact absurd H (by simp)
     ·rw [if_neg c4] at H
      have c4b0 : decide (x13_1 < (l0.length : Int)) = false := decide_eq_false c4
      clear c4; obtain rfl := Option.some.inj H
      go_wp2
      repeat (go_quiet (fail); try go_wp2)
      go_ret
      exact ⟨rg_, by repeat (first | exact Drawn0.refl _ | apply Drawn0.step)⟩
  ·rw [if_neg c3] at H
   have c3b0 : ((l0.length : Int) == (l1.length : Int)) = false := beq_eq_false_iff_ne.mpr c3
   have c3b1 : ((l0.length : Int) != (l1.length : Int)) = true := bne_iff_ne.mpr c3
   have c3b2 : (l0.length == l1.length) = false := by first | simpa using c3 | (simp at c3 ⊢; omega)
   obtain rfl := Option.some.inj H
   go_enter Try.func52, Try.ntmps52
   go_wp2
   repeat (go_quiet (fail); try go_wp2)
   go_ret
   exact ⟨rg_, by repeat (first | exact Drawn0.refl _ | apply Drawn0.step)⟩
/-! ### impl_sameBits: function 45 -/
def impl_sameBits.f (k : Nat) (a0_0 : Int) (l0_1 : List Int) (a1_0 : Int) (l1_1 : List Int) : Option (Bool) := if a0_0 = a1_0 then ((slices_Equal_int_int.f k l0_1 l1_1).bind fun t343 => (some t343)) else (some false)
theorem impl_sameBits.mono : ∀ a0 a1 a2 a3 k, LeO (impl_sameBits.f k a0 a1 a2 a3) (impl_sameBits.f (k + 1) a0 a1 a2 a3) := by
  intro a0 a1 a2 a3 k
  unfold impl_sameBits.f
  repeat' first
      | (with_reducible exact slices_Equal_int_int.mono _ _ _)
      | (with_reducible exact LeO.refl _)
      | (with_reducible exact LeO.none _)
      | (with_reducible refine LeO.ite ?_ ?_)
      | (with_reducible refine LeO.bind ?_ (fun _ => ?_))
      | exact slices_Equal_int_int.mono _ _ _
      | exact LeO.none _
      | refine LeO.ite ?_ ?_
      | refine LeO.bind ?_ (fun _ => ?_)
noncomputable def impl_sameBits.F (a0_0 : Int) (l0_1 : List Int) (a1_0 : Int) (l1_1 : List Int) : Option (Bool) := lim fun k => impl_sameBits.f k a0_0 l0_1 a1_0 l1_1
theorem impl_sameBits.F_sup (a0_0 : Int) (l0_1 : List Int) (a1_0 : Int) (l1_1 : List Int) : Sup (fun k => impl_sameBits.f k a0_0 l0_1 a1_0 l1_1) (impl_sameBits.F a0_0 l0_1 a1_0 l1_1) := Sup.of_mono fun k => impl_sameBits.mono a0_0 l0_1 a1_0 l1_1 k
theorem impl_sameBits.F_eq (a0_0 : Int) (l0_1 : List Int) (a1_0 : Int) (l1_1 : List Int) : impl_sameBits.F a0_0 l0_1 a1_0 l1_1 = if a0_0 = a1_0 then ((slices_Equal_int_int.F l0_1 l1_1).bind fun t343 => (some t343)) else (some false) := by
  refine Sup.unique (impl_sameBits.F_sup a0_0 l0_1 a1_0 l1_1) (Sup.congr (g' := fun k => if a0_0 = a1_0 then ((slices_Equal_int_int.f k l0_1 l1_1).bind fun t343 => (some t343)) else (some false)) (fun k => by first | rfl | simp only [impl_sameBits.f]) ?_)
  repeat' first
    | (with_reducible exact slices_Equal_int_int.F_sup _ _)
    | (with_reducible refine Sup.ite ?_ ?_)
    | (with_reducible refine Sup.bind ?_ (fun _ => ?_))
    | (with_reducible exact Sup.const _)
    | exact slices_Equal_int_int.F_sup _ _
    | exact Sup.const _
set_option maxHeartbeats 8000000 in
set_option maxRecDepth 100000 in
theorem impl_sameBits.calls (k : Nat) (a0_0 : Int) (A0_1 : Option Addr) (c0_1 : Nat) (l0_1 : List Int) (a1_0 : Int) (A1_1 : Option Addr) (c1_1 : Nat) (l1_1 : List Int) (r : Bool) (w : World) (hr0_1 : Kd.C (Kd.int .i64) w A0_1 l0_1.length l0_1) (hc0_1 : l0_1.length ≤ c0_1) (hr1_1 : Kd.C (Kd.int .i64) w A1_1 l1_1.length l1_1) (hc1_1 : l1_1.length ≤ c1_1) (h : impl_sameBits.f k a0_0 l0_1 a1_0 l1_1 = some r) :
    Calls Try.prog 45 #[.agg #[.int .i64 a0_0, .slice A0_1 l0_1.length c0_1], .agg #[.int .i64 a1_0, .slice A1_1 l1_1.length c1_1]] w fun e w' => e = .returned (.bool r) ∧ Below w.heap.size w w' := by
  have hu28 := Try.underlying28; have hu24 := Try.underlying24; have HR0_1 := Qx hr0_1; have HC0_1 := Qx hc0_1; clear hr0_1 hc0_1; have HR1_1 := Qx hr1_1; have HC1_1 := Qx hc1_1; clear hr1_1 hc1_1
  have HB := Qx (Below.refl w.heap.size w)
  have H : (if a0_0 = a1_0 then ((slices_Equal_int_int.f k l0_1 l1_1).bind fun t343 => (some t343)) else (some false)) = some r := h
  clear h
  by_cases c3 : a0_0 = a1_0
  ·rw [if_pos c3] at H
   have c3b0 : (a0_0 == a1_0) = true := beq_iff_eq.mpr c3
   have c3b1 : (a0_0 != a1_0) = false := bne_eq_false_iff_eq.mpr c3
   clear c3; replace H := Option.bind_eq_some_iff.mp H; obtain ⟨t343, A40, H⟩ := H
   have A4 := Qx A40; clear A40; obtain rfl := Option.some.inj H
   go_enter Try.func45, Try.ntmps45
   go_wp2_with (first | ((with_reducible refine gate_dst (N := 2) rfl ?_); refine bx_ 2 #[.int .i64 a0_0, .slice A0_1 l0_1.length c0_1] 28 ?_; intro gb341 hg w5 hbox hb; have BK341 := Qx (hbox); have GW341 := Qx ((ge_ hg)); have GE341 := Qx ((ge_ hg)); replace HB := Qx (Qp hB_ hb); clear hb hbox hg) | ((with_reducible refine gate_dst (N := 3) rfl ?_); refine bx_ 3 #[.int .i64 a1_0, .slice A1_1 l1_1.length c1_1] 28 ?_; intro gb342 hg w6 hbox hb; have BK342 := Qx (hbox); have GW342 := Qx ((ge_ hg)); have GE342 := Qx ((ge_ hg)); replace HB := Qx (Qp hB_ hb); have NB341_342 := Qx ((ne_ hg BK341)); have NB342_341 := Qx ((nf_ hg BK341)); replace BK341 := Qx (Qb (kB_ BK341) hb); clear hb hbox hg; have hnb7 := NB341_342.out; have hnc7 := NB342_341.out; obtain ⟨hcz8_0, hcz8_1, hfz8_0, hfz8_1⟩ := cellsQ2_g1c (w := w6) BK341.out; obtain ⟨hcz9_0, hcz9_1, hfz9_0, hfz9_1⟩ := cellsQ2_g1c (w := w6) BK342.out) | (go_at_call 52; (with_reducible refine (slices_Equal_int_int.calls k _ _ l0_1 _ _ l1_1 t343 _ ?side1 ?side2 ?side3 ?side4 A4.out).mono ?_); (case side1 => exact kC_ HR0_1); (case side2 => exact HC0_1.out); (case side3 => exact kC_ HR1_1); (case side4 => exact HC1_1.out); rintro e w' ⟨rfl, ⟨nd, rfl⟩⟩))
   go_ret
   exact ⟨rf_, hB_⟩
  ·rw [if_neg c3] at H
   have c3b0 : (a0_0 == a1_0) = false := beq_eq_false_iff_ne.mpr c3
   have c3b1 : (a0_0 != a1_0) = true := bne_iff_ne.mpr c3
   obtain rfl := Option.some.inj H
   go_enter Try.func45, Try.ntmps45
   go_wp2_with (first | ((with_reducible refine gate_dst (N := 2) rfl ?_); refine bx_ 2 #[.int .i64 a0_0, .slice A0_1 l0_1.length c0_1] 28 ?_; intro gb341 hg w10 hbox hb; have BK341 := Qx (hbox); have GW341 := Qx ((ge_ hg)); have GE341 := Qx ((ge_ hg)); replace HB := Qx (Qp hB_ hb); clear hb hbox hg) | ((with_reducible refine gate_dst (N := 3) rfl ?_); refine bx_ 3 #[.int .i64 a1_0, .slice A1_1 l1_1.length c1_1] 28 ?_; intro gb342 hg w11 hbox hb; have BK342 := Qx (hbox); have GW342 := Qx ((ge_ hg)); have GE342 := Qx ((ge_ hg)); replace HB := Qx (Qp hB_ hb); have NB341_342 := Qx ((ne_ hg BK341)); have NB342_341 := Qx ((nf_ hg BK341)); replace BK341 := Qx (Qb (kB_ BK341) hb); clear hb hbox hg; have hnb12 := NB341_342.out; have hnc12 := NB342_341.out; obtain ⟨hcz13_0, hcz13_1, hfz13_0, hfz13_1⟩ := cellsQ2_g1c (w := w11) BK341.out; obtain ⟨hcz14_0, hcz14_1, hfz14_0, hfz14_1⟩ := cellsQ2_g1c (w := w11) BK342.out))
   go_ret
   exact ⟨rf_, hB_⟩
/-! ### impl_Bits_at_in_30_5: function 73 -/
def impl_Bits_at_in_30_5.f (a0_0 : Int) (a0_1 : Int) (a0_2 : Int) (a0_3 : Int) (l0_4 : List Int) (a0_5 : Int) (l0_6 : List Int) (a1 : Int) : Option (Bool) := if 0 ≤ (wrap64 (Int.tdiv a1 16)) then (if (wrap64 (Int.tdiv a1 16)) < (l0_6.length : Int) then (if 0 ≤ (Int.tmod a1 16) then (some ((Go.bits .and .i64 (shr .i64 (rd l0_6 (wrap64 (Int.tdiv a1 16))) (Int.tmod a1 16)) 1) == 1)) else (none)) else (none)) else (none)
set_option maxHeartbeats 8000000 in
set_option maxRecDepth 100000 in
theorem impl_Bits_at_in_30_5.calls (gb0_ : Nat) (a0_0 : Int) (a0_1 : Int) (a0_2 : Int) (a0_3 : Int) (A0_4 : Option Addr) (c0_4 : Nat) (l0_4 : List Int) (a0_5 : Int) (A0_6 : Option Addr) (c0_6 : Nat) (l0_6 : List Int) (a1 : Int) (r : Bool) (w : World) (hr0_4 : Kd.C (Kd.int .i64) w A0_4 l0_4.length l0_4) (hc0_4 : l0_4.length ≤ c0_4) (hr0_6 : Kd.C (Kd.int .i64) w A0_6 l0_6.length l0_6) (hc0_6 : l0_6.length ≤ c0_6) (hb0_ : w.heap[gb0_]? = some (.cells #[.int .i64 a0_0, .int .i64 a0_1, .int .i64 a0_2, .int .i64 a0_3, .slice A0_4 l0_4.length c0_4, .int .i64 a0_5, .slice A0_6 l0_6.length c0_6] 30 (0, 0))) (h : impl_Bits_at_in_30_5.f a0_0 a0_1 a0_2 a0_3 l0_4 a0_5 l0_6 a1 = some r) :
    Calls Try.prog 43 #[.pointer (some ⟨gb0_, 5, none⟩), .int .i64 a1] w fun e w' => e = .returned (.bool r) ∧ Drawn0 w w' := by
  have hu24 := Try.underlying24; have HR0_4 := Qx hr0_4; have HC0_4 := Qx hc0_4; clear hr0_4 hc0_4; have HR0_6 := Qx hr0_6; have HC0_6 := Qx hc0_6; clear hr0_6 hc0_6; have BK0 := Qx hb0_; clear hb0_
  have H : (if 0 ≤ (wrap64 (Int.tdiv a1 16)) then (if (wrap64 (Int.tdiv a1 16)) < (l0_6.length : Int) then (if 0 ≤ (Int.tmod a1 16) then (some ((Go.bits .and .i64 (shr .i64 (rd l0_6 (wrap64 (Int.tdiv a1 16))) (Int.tmod a1 16)) 1) == 1)) else (none)) else (none)) else (none)) = some r := h
  clear h
  obtain ⟨ji3, hji3⟩ : ∃ j_ : Int, (wrap64 (Int.tdiv a1 16)) = j_ := ⟨_, rfl⟩
  replace H : (if 0 ≤ (ji3) then (if (ji3) < (l0_6.length : Int) then (if 0 ≤ (Int.tmod a1 16) then (some ((Go.bits .and .i64 (shr .i64 (rd l0_6 (ji3)) (Int.tmod a1 16)) 1) == 1)) else (none)) else (none)) else (none)) = some r := by first | (rw [hji3] at H; exact H) | (simp only [hji3] at H ⊢; exact H)
  have hji3w : (IntKind.i64.wrap (Int.tdiv a1 16)) = ji3 := (i64_w _).trans hji3
  by_cases c4 : 0 ≤ (ji3)
  ·rw [if_pos c4] at H
   have c4b0 : decide (0 ≤ (ji3)) = true := decide_eq_true c4
   clear c4
   by_cases c5 : (ji3) < (l0_6.length : Int)
   ·rw [if_pos c5] at H
    have c5b0 : decide ((ji3) < (l0_6.length : Int)) = true := decide_eq_true c5
    clear c5
    obtain ⟨ji6, hji6⟩ : ∃ j_ : Int, (Int.tmod a1 16) = j_ := ⟨_, rfl⟩
    replace H : (if 0 ≤ (ji6) then (some ((Go.bits .and .i64 (shr .i64 (rd l0_6 (ji3)) (ji6)) 1) == 1)) else (none)) = some r := by first | (rw [hji6] at H; exact H) | (simp only [hji6] at H ⊢; exact H)
    by_cases c7 : 0 ≤ (ji6)
    ·rw [if_pos c7] at H; have c7b0 := eq_true c7
     have c7b1 : decide (0 ≤ (ji6)) = true := decide_eq_true c7
     clear c7
     obtain ⟨ji8, hji8⟩ : ∃ j_ : Int, (shr .i64 (rd l0_6 (ji3)) (ji6)) = j_ := ⟨_, rfl⟩
     replace H : (some ((Go.bits .and .i64 (ji8) 1) == 1)) = some r := by first | (rw [hji8] at H; exact H) | (simp only [hji8] at H ⊢; exact H)
     have hji8_ : ((rd l0_6 (ji3)) / 2 ^ min (ji6).toNat 64) = ji8 := hji8
     have hji8z : (ji6) ≤ 64 → ((rd l0_6 (ji3)) / 2 ^ (ji6).toNat) = ji8 := shr_small hji8
     obtain rfl := Option.some.inj H
     obtain ⟨hcz9_0, hcz9_1, hcz9_2, hcz9_3, hcz9_4, hcz9_5, hcz9_6, hfz9_0, hfz9_1, hfz9_2, hfz9_3, hfz9_4, hfz9_5, hfz9_6⟩ := cellsQ7_g1c (w := w) BK0.out
     have p344 : 0 ≤ ((ji3) : Int) := of_decide_eq_true as_
     have q344 : (ji3) < (l0_6.length : Int) := of_decide_eq_true as_
     obtain ⟨ad344, e344, hx344_0⟩ := Kd.at_int HR0_6.out (ji3) p344 q344
     cases e344
     replace p344 := eq_true p344; replace q344 := eq_true q344
     go_enter Try.func43, Try.ntmps43
     go_wp2
     go_ret
     exact ⟨by first | rfl | (simp; done) | (simp only [← hji3, ← hji6, ← hji8] <;> (first | rfl | simp)) | (simp [*]; done), by repeat (first | exact Drawn0.refl _ | apply Drawn0.step)⟩
    ·rw [if_neg c7] at H
     exact absurd H (by simp)
   ·rw [if_neg c5] at H
    exact absurd H (by simp)
  ·rw [if_neg c4] at H
   exact absurd H (by simp)
/-! ### impl_Bits_at_in_30_3: function 75 -/
def impl_Bits_at_in_30_3.f (a0_0 : Int) (a0_1 : Int) (a0_2 : Int) (a0_3 : Int) (l0_4 : List Int) (a0_5 : Int) (l0_6 : List Int) (a1 : Int) : Option (Bool) := if 0 ≤ (wrap64 (Int.tdiv a1 16)) then (if (wrap64 (Int.tdiv a1 16)) < (l0_4.length : Int) then (if 0 ≤ (Int.tmod a1 16) then (some ((Go.bits .and .i64 (shr .i64 (rd l0_4 (wrap64 (Int.tdiv a1 16))) (Int.tmod a1 16)) 1) == 1)) else (none)) else (none)) else (none)
set_option maxHeartbeats 8000000 in
set_option maxRecDepth 100000 in
theorem impl_Bits_at_in_30_3.calls (gb0_ : Nat) (a0_0 : Int) (a0_1 : Int) (a0_2 : Int) (a0_3 : Int) (A0_4 : Option Addr) (c0_4 : Nat) (l0_4 : List Int) (a0_5 : Int) (A0_6 : Option Addr) (c0_6 : Nat) (l0_6 : List Int) (a1 : Int) (r : Bool) (w : World) (hr0_4 : Kd.C (Kd.int .i64) w A0_4 l0_4.length l0_4) (hc0_4 : l0_4.length ≤ c0_4) (hr0_6 : Kd.C (Kd.int .i64) w A0_6 l0_6.length l0_6) (hc0_6 : l0_6.length ≤ c0_6) (hb0_ : w.heap[gb0_]? = some (.cells #[.int .i64 a0_0, .int .i64 a0_1, .int .i64 a0_2, .int .i64 a0_3, .slice A0_4 l0_4.length c0_4, .int .i64 a0_5, .slice A0_6 l0_6.length c0_6] 30 (0, 0))) (h : impl_Bits_at_in_30_3.f a0_0 a0_1 a0_2 a0_3 l0_4 a0_5 l0_6 a1 = some r) :
    Calls Try.prog 43 #[.pointer (some ⟨gb0_, 3, none⟩), .int .i64 a1] w fun e w' => e = .returned (.bool r) ∧ Drawn0 w w' := by
  have hu24 := Try.underlying24; have HR0_4 := Qx hr0_4; have HC0_4 := Qx hc0_4; clear hr0_4 hc0_4; have HR0_6 := Qx hr0_6; have HC0_6 := Qx hc0_6; clear hr0_6 hc0_6; have BK0 := Qx hb0_; clear hb0_
  have H : (if 0 ≤ (wrap64 (Int.tdiv a1 16)) then (if (wrap64 (Int.tdiv a1 16)) < (l0_4.length : Int) then (if 0 ≤ (Int.tmod a1 16) then (some ((Go.bits .and .i64 (shr .i64 (rd l0_4 (wrap64 (Int.tdiv a1 16))) (Int.tmod a1 16)) 1) == 1)) else (none)) else (none)) else (none)) = some r := h
  clear h
  obtain ⟨ji3, hji3⟩ : ∃ j_ : Int, (wrap64 (Int.tdiv a1 16)) = j_ := ⟨_, rfl⟩
  replace H : (if 0 ≤ (ji3) then (if (ji3) < (l0_4.length : Int) then (if 0 ≤ (Int.tmod a1 16) then (some ((Go.bits .and .i64 (shr .i64 (rd l0_4 (ji3)) (Int.tmod a1 16)) 1) == 1)) else (none)) else (none)) else (none)) = some r := by first | (rw [hji3] at H; exact H) | (simp only [hji3] at H ⊢; exact H)
  have hji3w : (IntKind.i64.wrap (Int.tdiv a1 16)) = ji3 := (i64_w _).trans hji3
  by_cases c4 : 0 ≤ (ji3)
  ·rw [if_pos c4] at H
   have c4b0 : decide (0 ≤ (ji3)) = true := decide_eq_true c4
   clear c4
   by_cases c5 : (ji3) < (l0_4.length : Int)
   ·rw [if_pos c5] at H
    have c5b0 : decide ((ji3) < (l0_4.length : Int)) = true := decide_eq_true c5
    clear c5
    obtain ⟨ji6, hji6⟩ : ∃ j_ : Int, (Int.tmod a1 16) = j_ := ⟨_, rfl⟩
    replace H : (if 0 ≤ (ji6) then (some ((Go.bits .and .i64 (shr .i64 (rd l0_4 (ji3)) (ji6)) 1) == 1)) else (none)) = some r := by first | (rw [hji6] at H; exact H) | (simp only [hji6] at H ⊢; exact H)
    by_cases c7 : 0 ≤ (ji6)
    ·rw [if_pos c7] at H; have c7b0 := eq_true c7
     have c7b1 : decide (0 ≤ (ji6)) = true := decide_eq_true c7
     clear c7
     obtain ⟨ji8, hji8⟩ : ∃ j_ : Int, (shr .i64 (rd l0_4 (ji3)) (ji6)) = j_ := ⟨_, rfl⟩
     replace H : (some ((Go.bits .and .i64 (ji8) 1) == 1)) = some r := by first | (rw [hji8] at H; exact H) | (simp only [hji8] at H ⊢; exact H)
     have hji8_ : ((rd l0_4 (ji3)) / 2 ^ min (ji6).toNat 64) = ji8 := hji8
     have hji8z : (ji6) ≤ 64 → ((rd l0_4 (ji3)) / 2 ^ (ji6).toNat) = ji8 := shr_small hji8
     obtain rfl := Option.some.inj H
     obtain ⟨hcz9_0, hcz9_1, hcz9_2, hcz9_3, hcz9_4, hcz9_5, hcz9_6, hfz9_0, hfz9_1, hfz9_2, hfz9_3, hfz9_4, hfz9_5, hfz9_6⟩ := cellsQ7_g1c (w := w) BK0.out
     have p345 : 0 ≤ ((ji3) : Int) := of_decide_eq_true as_
     have q345 : (ji3) < (l0_4.length : Int) := of_decide_eq_true as_
     obtain ⟨ad345, e345, hx345_0⟩ := Kd.at_int HR0_4.out (ji3) p345 q345
     cases e345
     replace p345 := eq_true p345; replace q345 := eq_true q345
     go_enter Try.func43, Try.ntmps43
     go_wp2
     go_ret
     exact ⟨by first | rfl | (simp; done) | (simp only [← hji3, ← hji6, ← hji8] <;> (first | rfl | simp)) | (simp [*]; done), by repeat (first | exact Drawn0.refl _ | apply Drawn0.step)⟩
    ·rw [if_neg c7] at H
     exact absurd H (by simp)
   ·rw [if_neg c5] at H
    exact absurd H (by simp)
  ·rw [if_neg c4] at H
   exact absurd H (by simp)
/-! ### impl_Bits_field_in_30_3: function 74 -/
def impl_Bits_field_in_30_3.l0 : Nat → Int → Int → Int → Int → Int → Int → Int → Int → List Int → Int → List Int → Option (Int)
  | 0, _, _, _, _, _, _, _, _, _, _, _ => none
  | k + 1, x1, x7, x9, x10, x1000, x1001, x1002, x1003, x1004, x1005, x1006 => if x10 < x9 then ((impl_Bits_at_in_30_3.f x1000 x1001 x1002 x1003 x1004 x1005 x1006 (wrap64 (x1 + x10))).bind fun t346 => (if t346 = true then (if 0 ≤ x10 then (impl_Bits_field_in_30_3.l0 k x1 (Go.bits .or .i64 x7 (shl .i64 1 x10)) x9 (wrap64 (x10 + 1)) x1000 x1001 x1002 x1003 x1004 x1005 x1006) else (none)) else (impl_Bits_field_in_30_3.l0 k x1 x7 x9 (wrap64 (x10 + 1)) x1000 x1001 x1002 x1003 x1004 x1005 x1006))) else (some x7)
def impl_Bits_field_in_30_3.f (k : Nat) (a0_0 : Int) (a0_1 : Int) (a0_2 : Int) (a0_3 : Int) (l0_4 : List Int) (a0_5 : Int) (l0_6 : List Int) (a1 : Int) (a2 : Int) : Option (Int) := impl_Bits_field_in_30_3.l0 k a1 0 a2 0 a0_0 a0_1 a0_2 a0_3 l0_4 a0_5 l0_6
theorem impl_Bits_field_in_30_3.mono_l : ∀ k, (∀ y0 y1 y2 y3 y4 y5 y6 y7 y8 y9 y10, LeO (impl_Bits_field_in_30_3.l0 k y0 y1 y2 y3 y4 y5 y6 y7 y8 y9 y10) (impl_Bits_field_in_30_3.l0 (k + 1) y0 y1 y2 y3 y4 y5 y6 y7 y8 y9 y10))
  | 0 => fun _ _ _ _ _ _ _ _ _ _ _ r h => by simp [impl_Bits_field_in_30_3.l0] at h
  | k + 1 => by
    have ih0 := impl_Bits_field_in_30_3.mono_l k
    · intro y0 y1 y2 y3 y4 y5 y6 y7 y8 y9 y10
      unfold impl_Bits_field_in_30_3.l0
      repeat' first
      | (with_reducible exact ih0 _ _ _ _ _ _ _ _ _ _ _)
      | (with_reducible exact LeO.refl _)
      | (with_reducible exact LeO.none _)
      | (with_reducible refine LeO.ite ?_ ?_)
      | (with_reducible refine LeO.bind ?_ (fun _ => ?_))
      | exact ih0 _ _ _ _ _ _ _ _ _ _ _
      | exact LeO.none _
      | refine LeO.ite ?_ ?_
      | refine LeO.bind ?_ (fun _ => ?_)
theorem impl_Bits_field_in_30_3.mono : ∀ a0 a1 a2 a3 a4 a5 a6 a7 a8 k, LeO (impl_Bits_field_in_30_3.f k a0 a1 a2 a3 a4 a5 a6 a7 a8) (impl_Bits_field_in_30_3.f (k + 1) a0 a1 a2 a3 a4 a5 a6 a7 a8) := by
  intro a0 a1 a2 a3 a4 a5 a6 a7 a8 k
  have ih0 := impl_Bits_field_in_30_3.mono_l k
  unfold impl_Bits_field_in_30_3.f
  repeat' first
      | (with_reducible exact ih0 _ _ _ _ _ _ _ _ _ _ _)
      | (with_reducible exact LeO.refl _)
      | (with_reducible exact LeO.none _)
      | (with_reducible refine LeO.ite ?_ ?_)
      | (with_reducible refine LeO.bind ?_ (fun _ => ?_))
      | exact ih0 _ _ _ _ _ _ _ _ _ _ _
      | exact LeO.none _
      | refine LeO.ite ?_ ?_
      | refine LeO.bind ?_ (fun _ => ?_)
noncomputable def impl_Bits_field_in_30_3.L0 (y0 : Int) (y1 : Int) (y2 : Int) (y3 : Int) (y4 : Int) (y5 : Int) (y6 : Int) (y7 : Int) (y8 : List Int) (y9 : Int) (y10 : List Int) : Option (Int) := lim fun k => impl_Bits_field_in_30_3.l0 k y0 y1 y2 y3 y4 y5 y6 y7 y8 y9 y10
theorem impl_Bits_field_in_30_3.L0_sup (y0 : Int) (y1 : Int) (y2 : Int) (y3 : Int) (y4 : Int) (y5 : Int) (y6 : Int) (y7 : Int) (y8 : List Int) (y9 : Int) (y10 : List Int) : Sup (fun k => impl_Bits_field_in_30_3.l0 k y0 y1 y2 y3 y4 y5 y6 y7 y8 y9 y10) (impl_Bits_field_in_30_3.L0 y0 y1 y2 y3 y4 y5 y6 y7 y8 y9 y10) := Sup.of_mono fun k => impl_Bits_field_in_30_3.mono_l k y0 y1 y2 y3 y4 y5 y6 y7 y8 y9 y10
noncomputable def impl_Bits_field_in_30_3.F (a0_0 : Int) (a0_1 : Int) (a0_2 : Int) (a0_3 : Int) (l0_4 : List Int) (a0_5 : Int) (l0_6 : List Int) (a1 : Int) (a2 : Int) : Option (Int) := lim fun k => impl_Bits_field_in_30_3.f k a0_0 a0_1 a0_2 a0_3 l0_4 a0_5 l0_6 a1 a2
theorem impl_Bits_field_in_30_3.F_sup (a0_0 : Int) (a0_1 : Int) (a0_2 : Int) (a0_3 : Int) (l0_4 : List Int) (a0_5 : Int) (l0_6 : List Int) (a1 : Int) (a2 : Int) : Sup (fun k => impl_Bits_field_in_30_3.f k a0_0 a0_1 a0_2 a0_3 l0_4 a0_5 l0_6 a1 a2) (impl_Bits_field_in_30_3.F a0_0 a0_1 a0_2 a0_3 l0_4 a0_5 l0_6 a1 a2) := Sup.of_mono fun k => impl_Bits_field_in_30_3.mono a0_0 a0_1 a0_2 a0_3 l0_4 a0_5 l0_6 a1 a2 k
theorem impl_Bits_field_in_30_3.L0_eq (x1 : Int) (x7 : Int) (x9 : Int) (x10 : Int) (x1000 : Int) (x1001 : Int) (x1002 : Int) (x1003 : Int) (x1004 : List Int) (x1005 : Int) (x1006 : List Int) : impl_Bits_field_in_30_3.L0 x1 x7 x9 x10 x1000 x1001 x1002 x1003 x1004 x1005 x1006 = if x10 < x9 then ((impl_Bits_at_in_30_3.f x1000 x1001 x1002 x1003 x1004 x1005 x1006 (wrap64 (x1 + x10))).bind fun t346 => (if t346 = true then (if 0 ≤ x10 then (impl_Bits_field_in_30_3.L0 x1 (Go.bits .or .i64 x7 (shl .i64 1 x10)) x9 (wrap64 (x10 + 1)) x1000 x1001 x1002 x1003 x1004 x1005 x1006) else (none)) else (impl_Bits_field_in_30_3.L0 x1 x7 x9 (wrap64 (x10 + 1)) x1000 x1001 x1002 x1003 x1004 x1005 x1006))) else (some x7) := by
  refine Sup.unique (impl_Bits_field_in_30_3.L0_sup x1 x7 x9 x10 x1000 x1001 x1002 x1003 x1004 x1005 x1006) (Sup.shift (fun k => impl_Bits_field_in_30_3.mono_l k x1 x7 x9 x10 x1000 x1001 x1002 x1003 x1004 x1005 x1006) (Sup.congr (g' := fun k => if x10 < x9 then ((impl_Bits_at_in_30_3.f x1000 x1001 x1002 x1003 x1004 x1005 x1006 (wrap64 (x1 + x10))).bind fun t346 => (if t346 = true then (if 0 ≤ x10 then (impl_Bits_field_in_30_3.l0 k x1 (Go.bits .or .i64 x7 (shl .i64 1 x10)) x9 (wrap64 (x10 + 1)) x1000 x1001 x1002 x1003 x1004 x1005 x1006) else (none)) else (impl_Bits_field_in_30_3.l0 k x1 x7 x9 (wrap64 (x10 + 1)) x1000 x1001 x1002 x1003 x1004 x1005 x1006))) else (some x7)) (fun k => by first | rfl | simp only [impl_Bits_field_in_30_3.l0]) ?_))
  repeat' first
    | (with_reducible exact impl_Bits_field_in_30_3.L0_sup _ _ _ _ _ _ _ _ _ _ _)
    | (with_reducible refine Sup.ite ?_ ?_)
    | (with_reducible refine Sup.bind ?_ (fun _ => ?_))
    | (with_reducible exact Sup.const _)
    | exact impl_Bits_field_in_30_3.L0_sup _ _ _ _ _ _ _ _ _ _ _
    | exact Sup.const _
theorem impl_Bits_field_in_30_3.F_eq (a0_0 : Int) (a0_1 : Int) (a0_2 : Int) (a0_3 : Int) (l0_4 : List Int) (a0_5 : Int) (l0_6 : List Int) (a1 : Int) (a2 : Int) : impl_Bits_field_in_30_3.F a0_0 a0_1 a0_2 a0_3 l0_4 a0_5 l0_6 a1 a2 = impl_Bits_field_in_30_3.L0 a1 0 a2 0 a0_0 a0_1 a0_2 a0_3 l0_4 a0_5 l0_6 := by
  refine Sup.unique (impl_Bits_field_in_30_3.F_sup a0_0 a0_1 a0_2 a0_3 l0_4 a0_5 l0_6 a1 a2) (Sup.congr (g' := fun k => impl_Bits_field_in_30_3.l0 k a1 0 a2 0 a0_0 a0_1 a0_2 a0_3 l0_4 a0_5 l0_6) (fun k => by first | rfl | simp only [impl_Bits_field_in_30_3.f]) ?_)
  repeat' first
    | (with_reducible exact impl_Bits_field_in_30_3.L0_sup _ _ _ _ _ _ _ _ _ _ _)
    | (with_reducible refine Sup.ite ?_ ?_)
    | (with_reducible refine Sup.bind ?_ (fun _ => ?_))
    | (with_reducible exact Sup.const _)
    | exact impl_Bits_field_in_30_3.L0_sup _ _ _ _ _ _ _ _ _ _ _
    | exact Sup.const _
set_option maxHeartbeats 8000000 in
set_option maxRecDepth 100000 in
theorem impl_Bits_field_in_30_3.calls (k : Nat) (gb0_ : Nat) (a0_0 : Int) (a0_1 : Int) (a0_2 : Int) (a0_3 : Int) (A0_4 : Option Addr) (c0_4 : Nat) (l0_4 : List Int) (a0_5 : Int) (A0_6 : Option Addr) (c0_6 : Nat) (l0_6 : List Int) (a1 : Int) (a2 : Int) (r : Int) (w : World) (hr0_4 : Kd.C (Kd.int .i64) w A0_4 l0_4.length l0_4) (hc0_4 : l0_4.length ≤ c0_4) (hr0_6 : Kd.C (Kd.int .i64) w A0_6 l0_6.length l0_6) (hc0_6 : l0_6.length ≤ c0_6) (hb0_ : w.heap[gb0_]? = some (.cells #[.int .i64 a0_0, .int .i64 a0_1, .int .i64 a0_2, .int .i64 a0_3, .slice A0_4 l0_4.length c0_4, .int .i64 a0_5, .slice A0_6 l0_6.length c0_6] 30 (0, 0))) (h : impl_Bits_field_in_30_3.f k a0_0 a0_1 a0_2 a0_3 l0_4 a0_5 l0_6 a1 a2 = some r) :
    Calls Try.prog 44 #[.pointer (some ⟨gb0_, 3, none⟩), .int .i64 a1, .int .i64 a2] w fun e w' => e = .returned (.int .i64 r) ∧ Drawn0 w w' := by
  have HR0_4 := Qx hr0_4; have HC0_4 := Qx hc0_4; clear hr0_4 hc0_4; have HR0_6 := Qx hr0_6; have HC0_6 := Qx hc0_6; clear hr0_6 hc0_6; have BK0 := Qx hb0_; clear hb0_
  have H : (impl_Bits_field_in_30_3.l0 k a1 0 a2 0 a0_0 a0_1 a0_2 a0_3 l0_4 a0_5 l0_6) = some r := h
  clear h; have H' := Qx H; clear H
  go_enter Try.func44, Try.ntmps44
  go_wp2
  go_loopg [7, 10] k (fun kq v7 v10 w' => ∃ (x7_1 : Int) (x10_1 : Int), v7 = .int .i64 x7_1 ∧ v10 = .int .i64 x10_1 ∧ Aside0 (impl_Bits_field_in_30_3.l0 kq a1 x7_1 a2 x10_1 a0_0 a0_1 a0_2 a0_3 l0_4 a0_5 l0_6 = some r) ∧ Aside0 (kq ≤ k) ∧ Drawn0 w w')
  case atStart => exact ⟨(0), (0), rg_, rg_, H', ⟨Nat.le_refl _⟩, by repeat (first | exact Drawn0.refl _ | apply Drawn0.step)⟩
  case round =>
   clear H'
   try clear p2
   obtain ⟨x7_1, x10_1, rfl, rfl, HA, HK1, ⟨m1, rfl⟩⟩ := hrel
   cases gk with
   | zero => exact absurd HA.out (by simp [impl_Bits_field_in_30_3.l0])
   | succ k1 =>
    have H := HA.out; clear HA; simp only [impl_Bits_field_in_30_3.l0] at H
    by_cases c4 : x10_1 < a2
    ·rw [if_pos c4] at H
     have c4b0 : decide (x10_1 < a2) = true := decide_eq_true c4
     clear c4; replace H := Option.bind_eq_some_iff.mp H; obtain ⟨t346, A50, H⟩ := H
     have A5 := Qx A50; clear A50
     by_cases c6 : t346 = true
     ·subst c6
      have H1 : (if 0 ≤ x10_1 then (impl_Bits_field_in_30_3.l0 k1 a1 (Go.bits .or .i64 x7_1 (shl .i64 1 x10_1)) a2 (wrap64 (x10_1 + 1)) a0_0 a0_1 a0_2 a0_3 l0_4 a0_5 l0_6) else (none)) = some r := by rw [if_pos rfl] at H; exact H
      clear H; have H := H1; clear H1
      by_cases c7 : 0 ≤ x10_1
      ·rw [if_pos c7] at H; have c7b0 := eq_true c7
       have c7b1 : decide (0 ≤ x10_1) = true := decide_eq_true c7
       clear c7
       obtain ⟨ji8, hji8⟩ : ∃ j_ : Int, (shl .i64 1 x10_1) = j_ := ⟨_, rfl⟩
       replace H : (impl_Bits_field_in_30_3.l0 k1 a1 (Go.bits .or .i64 x7_1 (ji8)) a2 (wrap64 (x10_1 + 1)) a0_0 a0_1 a0_2 a0_3 l0_4 a0_5 l0_6) = some r := by first | (rw [hji8] at H; exact H) | (simp only [hji8] at H ⊢; exact H)
       (try rw [hji8] at A5)
       have hji8_ : (IntKind.i64.wrap (1 * 2 ^ min x10_1.toNat 64)) = ji8 := hji8
       have hji8z : x10_1 ≤ 64 → (IntKind.i64.wrap (1 * 2 ^ x10_1.toNat)) = ji8 := shl_small hji8
       have hji8u : (IntKind.i64.wrap (2 ^ min x10_1.toNat 64)) = ji8 := by have h_ := hji8_; rw [Int.one_mul] at h_; exact h_
       have hji8v : x10_1 ≤ 64 → (IntKind.i64.wrap (2 ^ x10_1.toNat)) = ji8 := fun hle_ => by have h_ := hji8z hle_; rw [Int.one_mul] at h_; exact h_
       have hji8y : (wrap64 (1 * 2 ^ min x10_1.toNat 64)) = ji8 := (i64_w _).symm.trans hji8_
       have hji8x : x10_1 ≤ 64 → (wrap64 (1 * 2 ^ x10_1.toNat)) = ji8 := fun h_ => (i64_w _).symm.trans (hji8z h_)
       have H' := Qx H; clear H
       go_wp2_with (first | ((with_reducible refine gate_callee (f := 43) rfl ?_); refine gl_ 17 Try.func43 #[.pointer (some ⟨gb0_, 3, none⟩), .int .i64 (wrap64 (a1 + x10_1))] ?_; (with_reducible refine (impl_Bits_at_in_30_3.calls gb0_ a0_0 a0_1 a0_2 a0_3 A0_4 c0_4 l0_4 a0_5 A0_6 c0_6 l0_6 (wrap64 (a1 + x10_1)) true _ ?side1 ?side2 ?side3 ?side4 ?side5 A5.out).mono ?_); (case side1 => exact kE_ HR0_4); (case side2 => exact HC0_4.out); (case side3 => exact kE_ HR0_6); (case side4 => exact HC0_6.out); (case side5 => exact (kB_ BK0)); rintro e w' ⟨rfl, ⟨nd, rfl⟩⟩; refine ⟨_, rfl, ?_⟩))
       go_roundg k1
       case measure => have := HK1.out; omega
       case rel => exact ⟨(Go.bits .or .i64 x7_1 (ji8)), (wrap64 (x10_1 + 1)), (by first | rfl | (simp; done) | (simp only [← hji8] <;> (first | rfl | simp)) | (simp [*]; done)), rg_, H', ⟨by have := HK1.out; omega⟩, by repeat (first | exact Drawn0.refl _ | apply Drawn0.step)⟩
      ·rw [if_neg c7] at H
       exact absurd H (by simp)
     ·replace c6 := Bool.eq_false_iff.mpr c6; subst c6
      have H1 : (impl_Bits_field_in_30_3.l0 k1 a1 x7_1 a2 (wrap64 (x10_1 + 1)) a0_0 a0_1 a0_2 a0_3 l0_4 a0_5 l0_6) = some r := by rw [if_neg (show ¬ (false = true) by decide)] at H; exact H
      clear H; have H := H1; clear H1; have H' := Qx H; clear H
      go_wp2_with (first | ((with_reducible refine gate_callee (f := 43) rfl ?_); refine gl_ 17 Try.func43 #[.pointer (some ⟨gb0_, 3, none⟩), .int .i64 (wrap64 (a1 + x10_1))] ?_; (with_reducible refine (impl_Bits_at_in_30_3.calls gb0_ a0_0 a0_1 a0_2 a0_3 A0_4 c0_4 l0_4 a0_5 A0_6 c0_6 l0_6 (wrap64 (a1 + x10_1)) false _ ?side1 ?side2 ?side3 ?side4 ?side5 A5.out).mono ?_); (case side1 => exact kE_ HR0_4); (case side2 => exact HC0_4.out); (case side3 => exact kE_ HR0_6); (case side4 => exact HC0_6.out); (case side5 => exact (kB_ BK0)); rintro e w' ⟨rfl, ⟨nd, rfl⟩⟩; refine ⟨_, rfl, ?_⟩))
      go_roundg k1
      case measure => have := HK1.out; omega
      case rel => exact ⟨(x7_1), (wrap64 (x10_1 + 1)), rg_, rg_, H', ⟨by have := HK1.out; omega⟩, by repeat (first | exact Drawn0.refl _ | apply Drawn0.step)⟩
    ·rw [if_neg c4] at H
     have c4b0 : decide (x10_1 < a2) = false := decide_eq_false c4
     clear c4; obtain rfl := Option.some.inj H
     go_wp2
     go_ret
     exact ⟨rg_, by repeat (first | exact Drawn0.refl _ | apply Drawn0.step)⟩
end Go.Proofs.Ytcgakiihochafaa.X
