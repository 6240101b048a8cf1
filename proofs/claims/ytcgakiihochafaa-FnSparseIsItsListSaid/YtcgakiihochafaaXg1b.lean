/- Written by a program of this session: what functions of the given program compute, and that their calls do so. -/
import Derived.Test.YtcgakiihochafaaXx0
import Derived.Test.YtcgakiihochafaaXg1a
import Derived.Test.YtcgakiihochafaaXs
namespace Go.Proofs.Ytcgakiihochafaa.X
open Go.RowKit Go.Proofs.YtcgakiihochafaaW.PrintWords Go.Proofs.YtcgakiihochafaaW.PrintLast Go.Proofs.YtcgakiihochafaaW.PrintMore
theorem cellsQ2_g1b {w : World} {g : Nat} {t : TypeId} {a0 a1 : Value} (k : w.heap[g]? = some (.cells #[a0, a1] t (0, 0))) : w.cell? ⟨g, 0, none⟩ = some a0 ∧ w.cell? ⟨g, 1, none⟩ = some a1 ∧ w.frozen? ⟨g, 0, none⟩ = false ∧ w.frozen? ⟨g, 1, none⟩ = false := ⟨(blk_cell k 0).trans rfl, (blk_cell k 1).trans rfl, blk_frozen k 0, blk_frozen k 1⟩
theorem cellsQ7_g1b {w : World} {g : Nat} {t : TypeId} {a0 a1 a2 a3 a4 a5 a6 : Value} (k : w.heap[g]? = some (.cells #[a0, a1, a2, a3, a4, a5, a6] t (0, 0))) : w.cell? ⟨g, 0, none⟩ = some a0 ∧ w.cell? ⟨g, 1, none⟩ = some a1 ∧ w.cell? ⟨g, 2, none⟩ = some a2 ∧ w.cell? ⟨g, 3, none⟩ = some a3 ∧ w.cell? ⟨g, 4, none⟩ = some a4 ∧ w.cell? ⟨g, 5, none⟩ = some a5 ∧ w.cell? ⟨g, 6, none⟩ = some a6 ∧ w.frozen? ⟨g, 0, none⟩ = false ∧ w.frozen? ⟨g, 1, none⟩ = false ∧ w.frozen? ⟨g, 2, none⟩ = false ∧ w.frozen? ⟨g, 3, none⟩ = false ∧ w.frozen? ⟨g, 4, none⟩ = false ∧ w.frozen? ⟨g, 5, none⟩ = false ∧ w.frozen? ⟨g, 6, none⟩ = false := ⟨(blk_cell k 0).trans rfl, (blk_cell k 1).trans rfl, (blk_cell k 2).trans rfl, (blk_cell k 3).trans rfl, (blk_cell k 4).trans rfl, (blk_cell k 5).trans rfl, (blk_cell k 6).trans rfl, blk_frozen k 0, blk_frozen k 1, blk_frozen k 2, blk_frozen k 3, blk_frozen k 4, blk_frozen k 5, blk_frozen k 6⟩
theorem farsQ2_g1b {τ : Type} {d : Kd τ} {e : Nat} {w : World} {base g : Nat} {ok : Nat → Prop} {v : Value} {xs : List τ} (h : d.R e w base ok v xs) (hok : ∀ k, ok k → k ≠ g) (u0 u1 : Value) : d.R e ((w.setCell ⟨g, 0, none⟩ u0).setCell ⟨g, 1, none⟩ u1) base ok v xs := Kd.R_far (p := ⟨g, 1, none⟩) (Kd.R_far (p := ⟨g, 0, none⟩) h hok u0) hok u1
theorem farsQ7_g1b {τ : Type} {d : Kd τ} {e : Nat} {w : World} {base g : Nat} {ok : Nat → Prop} {v : Value} {xs : List τ} (h : d.R e w base ok v xs) (hok : ∀ k, ok k → k ≠ g) (u0 u1 u2 u3 u4 u5 u6 : Value) : d.R e (((((((w.setCell ⟨g, 0, none⟩ u0).setCell ⟨g, 1, none⟩ u1).setCell ⟨g, 2, none⟩ u2).setCell ⟨g, 3, none⟩ u3).setCell ⟨g, 4, none⟩ u4).setCell ⟨g, 5, none⟩ u5).setCell ⟨g, 6, none⟩ u6) base ok v xs := Kd.R_far (p := ⟨g, 6, none⟩) (Kd.R_far (p := ⟨g, 5, none⟩) (Kd.R_far (p := ⟨g, 4, none⟩) (Kd.R_far (p := ⟨g, 3, none⟩) (Kd.R_far (p := ⟨g, 2, none⟩) (Kd.R_far (p := ⟨g, 1, none⟩) (Kd.R_far (p := ⟨g, 0, none⟩) h hok u0) hok u1) hok u2) hok u3) hok u4) hok u5) hok u6
open Go.Proofs.YtcgakiihochafaaW.PrintWords renaming blk_cell → Qc, blk_alloc → Qk, blk_drewN → Qm, blk_drew → Qw, below_size → Qz, below_step → Qp, blk_below → Qb, blk_put → Qu
open Go.Proofs.YtcgakiihochafaaW.PrintWords.Kd renaming R_drewN → Qrn, R_alloc → Qra, R_drew → Qrd, R_mono → Qrm
open Go.Proofs.YtcgakiihochafaaW.PrintWords.Aside0 renaming mk → Qx
attribute [local go_sem] max2_int min2_int max_two min_two max_three min_three max_four min_four   -- for this text's walks alone
set_option linter.unusedVariables false
set_option linter.unusedSimpArgs false
/-! ### impl_WidthFor: function 33 -/
mutual
def impl_WidthFor.j0 : Nat → Int → Int → Bool → Option (Int × Bool)
  | 0, _, _, _ => none
  | k + 1, x0, x1, x14 => if x14 = true then (some (0, false)) else (impl_WidthFor.l0 k x0 x1 0)
def impl_WidthFor.l0 : Nat → Int → Int → Int → Option (Int × Bool)
  | 0, _, _, _ => none
  | k + 1, x0, x1, x6 => if 0 ≤ (wrap64 (x6 + 1)) then (if (shl .i64 (mx x0 1) (wrap64 (x6 + 1))) ≤ x1 then (impl_WidthFor.l0 k x0 x1 (wrap64 (x6 + 1))) else (some (x6, true))) else (none)
end
def impl_WidthFor.f (k : Nat) (a0 : Int) (a1 : Int) : Option (Int × Bool) := (impl_in.f a0 0 60).bind fun t217 => (if t217 = true then ((impl_limitOk.f a1).bind fun t218 => (impl_WidthFor.j0 k a0 a1 (!t218))) else (impl_WidthFor.j0 k a0 a1 true))
theorem impl_WidthFor.mono_l : ∀ k, (∀ y0 y1 y2, LeO (impl_WidthFor.j0 k y0 y1 y2) (impl_WidthFor.j0 (k + 1) y0 y1 y2)) ∧ (∀ y0 y1 y2, LeO (impl_WidthFor.l0 k y0 y1 y2) (impl_WidthFor.l0 (k + 1) y0 y1 y2))
  | 0 => ⟨fun _ _ _ r h => by simp [impl_WidthFor.j0] at h, fun _ _ _ r h => by simp [impl_WidthFor.l0] at h⟩
  | k + 1 => by
    obtain ⟨ih0, ih1⟩ := impl_WidthFor.mono_l k
    refine ⟨?_, ?_⟩
    · intro y0 y1 y2
      unfold impl_WidthFor.j0
      repeat' first
      | (with_reducible exact ih0 _ _ _)
      | (with_reducible exact ih1 _ _ _)
      | (with_reducible exact LeO.refl _)
      | (with_reducible exact LeO.none _)
      | (with_reducible refine LeO.ite ?_ ?_)
      | (with_reducible refine LeO.bind ?_ (fun _ => ?_))
      | exact ih0 _ _ _
      | exact ih1 _ _ _
      | exact LeO.none _
      | refine LeO.ite ?_ ?_
      | refine LeO.bind ?_ (fun _ => ?_)
    · intro y0 y1 y2
      unfold impl_WidthFor.l0
      repeat' first
      | (with_reducible exact ih0 _ _ _)
      | (with_reducible exact ih1 _ _ _)
      | (with_reducible exact LeO.refl _)
      | (with_reducible exact LeO.none _)
      | (with_reducible refine LeO.ite ?_ ?_)
      | (with_reducible refine LeO.bind ?_ (fun _ => ?_))
      | exact ih0 _ _ _
      | exact ih1 _ _ _
      | exact LeO.none _
      | refine LeO.ite ?_ ?_
      | refine LeO.bind ?_ (fun _ => ?_)
theorem impl_WidthFor.mono : ∀ a0 a1 k, LeO (impl_WidthFor.f k a0 a1) (impl_WidthFor.f (k + 1) a0 a1) := by
  intro a0 a1 k
  obtain ⟨ih0, ih1⟩ := impl_WidthFor.mono_l k
  unfold impl_WidthFor.f
  repeat' first
      | (with_reducible exact ih0 _ _ _)
      | (with_reducible exact ih1 _ _ _)
      | (with_reducible exact LeO.refl _)
      | (with_reducible exact LeO.none _)
      | (with_reducible refine LeO.ite ?_ ?_)
      | (with_reducible refine LeO.bind ?_ (fun _ => ?_))
      | exact ih0 _ _ _
      | exact ih1 _ _ _
      | exact LeO.none _
      | refine LeO.ite ?_ ?_
      | refine LeO.bind ?_ (fun _ => ?_)
noncomputable def impl_WidthFor.J0 (y0 : Int) (y1 : Int) (y2 : Bool) : Option (Int × Bool) := lim fun k => impl_WidthFor.j0 k y0 y1 y2
theorem impl_WidthFor.J0_sup (y0 : Int) (y1 : Int) (y2 : Bool) : Sup (fun k => impl_WidthFor.j0 k y0 y1 y2) (impl_WidthFor.J0 y0 y1 y2) := Sup.of_mono fun k => (impl_WidthFor.mono_l k).1 y0 y1 y2
noncomputable def impl_WidthFor.L0 (y0 : Int) (y1 : Int) (y2 : Int) : Option (Int × Bool) := lim fun k => impl_WidthFor.l0 k y0 y1 y2
theorem impl_WidthFor.L0_sup (y0 : Int) (y1 : Int) (y2 : Int) : Sup (fun k => impl_WidthFor.l0 k y0 y1 y2) (impl_WidthFor.L0 y0 y1 y2) := Sup.of_mono fun k => (impl_WidthFor.mono_l k).2 y0 y1 y2
noncomputable def impl_WidthFor.F (a0 : Int) (a1 : Int) : Option (Int × Bool) := lim fun k => impl_WidthFor.f k a0 a1
theorem impl_WidthFor.F_sup (a0 : Int) (a1 : Int) : Sup (fun k => impl_WidthFor.f k a0 a1) (impl_WidthFor.F a0 a1) := Sup.of_mono fun k => impl_WidthFor.mono a0 a1 k
theorem impl_WidthFor.J0_eq (x0 : Int) (x1 : Int) (x14 : Bool) : impl_WidthFor.J0 x0 x1 x14 = if x14 = true then (some (0, false)) else (impl_WidthFor.L0 x0 x1 0) := by
  refine Sup.unique (impl_WidthFor.J0_sup x0 x1 x14) (Sup.shift (fun k => (impl_WidthFor.mono_l k).1 x0 x1 x14) (Sup.congr (g' := fun k => if x14 = true then (some (0, false)) else (impl_WidthFor.l0 k x0 x1 0)) (fun k => by first | rfl | simp only [impl_WidthFor.j0]) ?_))
  repeat' first
    | (with_reducible exact impl_WidthFor.J0_sup _ _ _)
    | (with_reducible exact impl_WidthFor.L0_sup _ _ _)
    | (with_reducible refine Sup.ite ?_ ?_)
    | (with_reducible refine Sup.bind ?_ (fun _ => ?_))
    | (with_reducible exact Sup.const _)
    | exact impl_WidthFor.J0_sup _ _ _
    | exact impl_WidthFor.L0_sup _ _ _
    | exact Sup.const _
theorem impl_WidthFor.L0_eq (x0 : Int) (x1 : Int) (x6 : Int) : impl_WidthFor.L0 x0 x1 x6 = if 0 ≤ (wrap64 (x6 + 1)) then (if (shl .i64 (mx x0 1) (wrap64 (x6 + 1))) ≤ x1 then (impl_WidthFor.L0 x0 x1 (wrap64 (x6 + 1))) else (some (x6, true))) else (none) := by
  refine Sup.unique (impl_WidthFor.L0_sup x0 x1 x6) (Sup.shift (fun k => (impl_WidthFor.mono_l k).2 x0 x1 x6) (Sup.congr (g' := fun k => if 0 ≤ (wrap64 (x6 + 1)) then (if (shl .i64 (mx x0 1) (wrap64 (x6 + 1))) ≤ x1 then (impl_WidthFor.l0 k x0 x1 (wrap64 (x6 + 1))) else (some (x6, true))) else (none)) (fun k => by first | rfl | simp only [impl_WidthFor.l0]) ?_))
  repeat' first
    | (with_reducible exact impl_WidthFor.J0_sup _ _ _)
    | (with_reducible exact impl_WidthFor.L0_sup _ _ _)
    | (with_reducible refine Sup.ite ?_ ?_)
    | (with_reducible refine Sup.bind ?_ (fun _ => ?_))
    | (with_reducible exact Sup.const _)
    | exact impl_WidthFor.J0_sup _ _ _
    | exact impl_WidthFor.L0_sup _ _ _
    | exact Sup.const _
theorem impl_WidthFor.F_eq (a0 : Int) (a1 : Int) : impl_WidthFor.F a0 a1 = (impl_in.f a0 0 60).bind fun t217 => (if t217 = true then ((impl_limitOk.f a1).bind fun t218 => (impl_WidthFor.J0 a0 a1 (!t218))) else (impl_WidthFor.J0 a0 a1 true)) := by
  refine Sup.unique (impl_WidthFor.F_sup a0 a1) (Sup.congr (g' := fun k => (impl_in.f a0 0 60).bind fun t217 => (if t217 = true then ((impl_limitOk.f a1).bind fun t218 => (impl_WidthFor.j0 k a0 a1 (!t218))) else (impl_WidthFor.j0 k a0 a1 true))) (fun k => by first | rfl | simp only [impl_WidthFor.f]) ?_)
  repeat' first
    | (with_reducible exact impl_WidthFor.J0_sup _ _ _)
    | (with_reducible exact impl_WidthFor.L0_sup _ _ _)
    | (with_reducible refine Sup.ite ?_ ?_)
    | (with_reducible refine Sup.bind ?_ (fun _ => ?_))
    | (with_reducible exact Sup.const _)
    | exact impl_WidthFor.J0_sup _ _ _
    | exact impl_WidthFor.L0_sup _ _ _
    | exact Sup.const _
set_option maxHeartbeats 8000000 in
set_option maxRecDepth 100000 in
theorem impl_WidthFor.calls (k : Nat) (a0 : Int) (a1 : Int) (r1 : Int) (r2 : Bool) (w : World) (h : impl_WidthFor.f k a0 a1 = some (r1, r2)) :
    Calls Try.prog 33 #[.int .i64 a0, .int .i64 a1] w fun e w' => e = .returned (.tuple #[.int .i64 r1, .bool r2]) ∧ Below w.heap.size w w' := by
  have HB := Qx (Below.refl w.heap.size w)
  have H : ((impl_in.f a0 0 60).bind fun t217 => (if t217 = true then ((impl_limitOk.f a1).bind fun t218 => (impl_WidthFor.j0 k a0 a1 (!t218))) else (impl_WidthFor.j0 k a0 a1 true))) = some (r1, r2) := h
  clear h; have HC3 := Qx H; clear H
  go_enter Try.func33, Try.ntmps33
  go_upto_region 1 with (fail)
  go_cut [14] (fun v14 wc => ∃ (kq : Nat) (x14_2 : Bool), v14 = .bool x14_2 ∧ Aside0 (impl_WidthFor.j0 kq a0 a1 x14_2 = some (r1, r2)) ∧ Aside0 (kq ≤ k) ∧ Aside0 (Below w.heap.size w wc))
  case first =>
   have H := HC3.out; clear HC3; replace H := Option.bind_eq_some_iff.mp H; obtain ⟨t217, A40, H⟩ := H
   have A4 := Qx A40; clear A40
   by_cases c5 : t217 = true
   ·subst c5
    have H1 : ((impl_limitOk.f a1).bind fun t218 => (impl_WidthFor.j0 k a0 a1 (!t218))) = some (r1, r2) := by rw [if_pos rfl] at H; exact H
    clear H; have H := H1; clear H1; replace H := Option.bind_eq_some_iff.mp H; obtain ⟨t218, A60, H⟩ := H
    have A6 := Qx A60; clear A60; have H' := Qx H; clear H
    go_wp2_with (first | ((with_reducible refine gate_callee (f := 25) rfl ?_); refine gl_ 8 Try.func25 #[.int .i64 a0, .int .i64 0, .int .i64 60] ?_; (with_reducible refine (impl_in.calls a0 0 60 true _ A4.out).mono ?_); rintro e w' ⟨rfl, ⟨nd, rfl⟩⟩; refine ⟨_, rfl, ?_⟩) | (go_at_call 32; (with_reducible refine (impl_limitOk.calls a1 t218 _ A6.out).mono ?_); rintro e w' ⟨rfl, ⟨nd, rfl⟩⟩))
    go_meet
    case rel => exact ⟨_, (!t218), rg_, H', ⟨by first | omega | exact Nat.le_refl _⟩, ⟨hB_⟩⟩
   ·replace c5 := Bool.eq_false_iff.mpr c5; subst c5
    have H1 : (impl_WidthFor.j0 k a0 a1 true) = some (r1, r2) := by rw [if_neg (show ¬ (false = true) by decide)] at H; exact H
    clear H; have H := H1; clear H1; have H' := Qx H; clear H
    go_wp2_with (first | ((with_reducible refine gate_callee (f := 25) rfl ?_); refine gl_ 8 Try.func25 #[.int .i64 a0, .int .i64 0, .int .i64 60] ?_; (with_reducible refine (impl_in.calls a0 0 60 false _ A4.out).mono ?_); rintro e w' ⟨rfl, ⟨nd, rfl⟩⟩; refine ⟨_, rfl, ?_⟩))
    go_meet
    case rel => exact ⟨_, (true), rg_, H', ⟨by first | omega | exact Nat.le_refl _⟩, ⟨hB_⟩⟩
  case rest =>
   clear HC3
   try clear c2
   try clear p2
   try clear c3
   try clear c5
   obtain ⟨kq, x14_2, rfl, HA, HJ2, HB⟩ := hcut
   cases kq with
   | zero => exact absurd HA.out (by simp [impl_WidthFor.j0])
   | succ kj2 =>
    have H := HA.out; clear HA; simp only [impl_WidthFor.j0] at H
    by_cases c7 : x14_2 = true
    ·subst c7
     have H1 : (some (0, false)) = some (r1, r2) := by rw [if_pos rfl] at H; exact H
     clear H; have H := H1; clear H1; simp only [Option.some.injEq, Prod.mk.injEq] at H; obtain ⟨rfl, rfl⟩ := H
     go_wp2
     go_ret2
     exact ⟨rf_, hB_⟩
    ·replace c7 := Bool.eq_false_iff.mpr c7; subst c7
     have H1 : (impl_WidthFor.l0 kj2 a0 a1 0) = some (r1, r2) := by rw [if_neg (show ¬ (false = true) by decide)] at H; exact H
     clear H; have H := H1; clear H1; have H' := Qx H; clear H
     go_wp2
     go_loopg [6] kj2 (fun kq v6 w' => ∃ (x6_2 : Int), v6 = .int .i64 x6_2 ∧ Aside0 (impl_WidthFor.l0 kq a0 a1 x6_2 = some (r1, r2)) ∧ Aside0 (kq ≤ kj2) ∧ Aside0 (Below w.heap.size w w'))
     case atStart => exact ⟨(0), rg_, H', ⟨Nat.le_refl _⟩, ⟨hB_⟩⟩
     case round =>
      clear H'
      try clear c2
      try clear p2
      try clear c3
      try clear c5
      try clear c7
      try clear p2
      obtain ⟨x6_2, rfl, HA, HK2, HB⟩ := hrel
      cases gk with
      | zero => exact absurd HA.out (by simp [impl_WidthFor.l0])
      | succ k2 =>
       have H := HA.out; clear HA; simp only [impl_WidthFor.l0] at H
       obtain ⟨ji8, hji8⟩ : ∃ j_ : Int, (mx a0 1) = j_ := ⟨_, rfl⟩
       replace H : (if 0 ≤ (wrap64 (x6_2 + 1)) then (if (shl .i64 (ji8) (wrap64 (x6_2 + 1))) ≤ a1 then (impl_WidthFor.l0 k2 a0 a1 (wrap64 (x6_2 + 1))) else (some (x6_2, true))) else (none)) = some (r1, r2) := by first | (rw [hji8] at H; exact H) | (simp only [hji8] at H ⊢; exact H)
       have hji8_ : (if a0 < 1 then 1 else a0) = ji8 := hji8
       obtain ⟨ji9, hji9⟩ : ∃ j_ : Int, (wrap64 (x6_2 + 1)) = j_ := ⟨_, rfl⟩
       replace H : (if 0 ≤ (ji9) then (if (shl .i64 (ji8) (ji9)) ≤ a1 then (impl_WidthFor.l0 k2 a0 a1 ji9) else (some (x6_2, true))) else (none)) = some (r1, r2) := by first | (rw [hji9] at H; exact H) | (simp only [hji9] at H ⊢; exact H)
       have hji9w : (IntKind.i64.wrap (x6_2 + 1)) = ji9 := (i64_w _).trans hji9
       by_cases c10 : 0 ≤ (ji9)
       ·rw [if_pos c10] at H; have c10b0 := eq_true c10
        have c10b1 : decide (0 ≤ (ji9)) = true := decide_eq_true c10
        clear c10
        obtain ⟨ji11, hji11⟩ : ∃ j_ : Int, (shl .i64 (ji8) (ji9)) = j_ := ⟨_, rfl⟩
        replace H : (if (ji11) ≤ a1 then (impl_WidthFor.l0 k2 a0 a1 ji9) else (some (x6_2, true))) = some (r1, r2) := by first | (rw [hji11] at H; exact H) | (simp only [hji11] at H ⊢; exact H)
        have hji11_ : (IntKind.i64.wrap ((ji8) * 2 ^ min (ji9).toNat 64)) = ji11 := hji11
        have hji11z : (ji9) ≤ 64 → (IntKind.i64.wrap ((ji8) * 2 ^ (ji9).toNat)) = ji11 := shl_small hji11
        have hji11y : (wrap64 ((ji8) * 2 ^ min (ji9).toNat 64)) = ji11 := (i64_w _).symm.trans hji11_
        have hji11x : (ji9) ≤ 64 → (wrap64 ((ji8) * 2 ^ (ji9).toNat)) = ji11 := fun h_ => (i64_w _).symm.trans (hji11z h_)
        by_cases c12 : (ji11) ≤ a1
        ·rw [if_pos c12] at H
         have c12b0 : decide ((ji11) ≤ a1) = true := decide_eq_true c12
         clear c12; have H' := Qx H; clear H
         go_wp2
         go_roundg k2
         case measure => have := HJ2.out; have := HK2.out; omega
         case rel => exact ⟨(ji9), (by first | rfl | (simp; done) | (simp only [← hji9] <;> (first | rfl | simp)) | (simp [*]; done)), H', ⟨by have := HJ2.out; have := HK2.out; omega⟩, ⟨hB_⟩⟩
        ·rw [if_neg c12] at H
         have c12b0 : decide ((ji11) ≤ a1) = false := decide_eq_false c12
         clear c12; simp only [Option.some.injEq, Prod.mk.injEq] at H; obtain ⟨rfl, rfl⟩ := H
         go_wp2
         go_ret2
         exact ⟨by first | rfl | (simp [errW_none, errW_some] <;> rfl) | (simp only [← hji8, ← hji9, ← hji11]; first | rfl | (simp [errW_none, errW_some] <;> rfl)) | (simp [*, errW_none, errW_some] <;> rfl), hB_⟩
       ·rw [if_neg c10] at H
        exact absurd H (by simp)
/-! ### impl_words: function 48 -/
def impl_words.f (a0 : Int) : Option (Int) := some (wrap64 (Int.tdiv (wrap64 ((wrap64 (a0 + 16)) - 1)) 16))
set_option maxHeartbeats 8000000 in
set_option maxRecDepth 100000 in
theorem impl_words.calls (a0 : Int) (r : Int) (w : World) (h : impl_words.f a0 = some r) :
    Calls Try.prog 48 #[.int .i64 a0] w fun e w' => e = .returned (.int .i64 r) ∧ Drawn0 w w' := by
  have H : (some (wrap64 (Int.tdiv (wrap64 ((wrap64 (a0 + 16)) - 1)) 16))) = some r := h
  clear h; obtain rfl := Option.some.inj H
  go_enter Try.func48, Try.ntmps48
  go_wp2
  go_ret
  exact ⟨rg_, by repeat (first | exact Drawn0.refl _ | apply Drawn0.step)⟩
/-! ### impl_blank: function 34 -/
def impl_blank.f (a0 : Int) : Option (Int × List Int) := (impl_words.f a0).bind fun t220 => (if 0 ≤ t220 then (if (t220 : Int).toNat ≤ 35184372088832 then (some (a0, (List.replicate (t220 : Int).toNat 0))) else (none)) else (none))
set_option maxHeartbeats 8000000 in
set_option maxRecDepth 100000 in
theorem impl_blank.calls (a0 : Int) (r1 : Int) (r2 : List Int) (w : World) (h : impl_blank.f a0 = some (r1, r2)) :
    Calls Try.prog 34 #[.int .i64 a0] w fun e w' => ∃ v1_ : Value, e = .returned (.agg #[.int .i64 r1, v1_]) ∧ Kd.R (Kd.int .i64) 3 w' w.heap.size (fun _ => True) v1_ r2 ∧ Below w.heap.size w w' := by
  have hu28 := Try.underlying28
  have HB := Qx (Below.refl w.heap.size w)
  have H : ((impl_words.f a0).bind fun t220 => (if 0 ≤ t220 then (if (t220 : Int).toNat ≤ 35184372088832 then (some (a0, (List.replicate (t220 : Int).toNat 0))) else (none)) else (none))) = some (r1, r2) := h
  clear h; replace H := Option.bind_eq_some_iff.mp H; obtain ⟨t220, A20, H⟩ := H
  have A2 := Qx A20; clear A20
  by_cases c3 : 0 ≤ t220
  ·rw [if_pos c3] at H; have c3b0 := eq_true c3
   have c3b1 : decide (0 ≤ t220) = true := decide_eq_true c3
   clear c3
   by_cases c4 : (t220 : Int).toNat ≤ 35184372088832
   ·rw [if_pos c4] at H; have c4b0 := eq_true c4
    have c4b1 : decide ((t220 : Int).toNat ≤ 35184372088832) = true := decide_eq_true c4
    clear c4
    obtain ⟨y221, hy221⟩ : ∃ y_ : List Int, y_ = (List.replicate (t220 : Int).toNat 0) := ⟨_, rfl⟩
    replace H : (some (a0, y221)) = some (r1, r2) := by first | (rw [hy221]; with_reducible exact H) | (have H2_ := (Option.bind_some _ _).symm.trans H; rw [hy221]; with_reducible exact H2_) | (have H2_ := (Option.bind_some _ _).symm.trans H; with_reducible exact H2_) | with_reducible exact H | (rw [hy221]; exact H) | exact H
    have Ny221 := Qx hy221; clear hy221; simp only [Option.some.injEq, Prod.mk.injEq] at H; obtain ⟨rfl, rfl⟩ := H
    go_enter Try.func34, Try.ntmps34
    go_wp2_with (first | ((with_reducible refine gate_dst (N := 2) rfl ?_); refine bx_ 2 #[.int .i64 0, .slice none 0 0] 28 ?_; intro gb219 hg w5 hbox hb; have BK219 := Qx (hbox); have GW219 := Qx ((ge_ hg)); have GE219 := Qx ((ge_ hg)); replace HB := Qx (Qp hB_ hb); clear hb hbox hg) | ((with_reducible refine gate_callee (f := 48) rfl ?_); refine gl_ 5 Try.func48 #[.int .i64 a0] ?_; (with_reducible refine (impl_words.calls a0 t220 _ A2.out).mono ?_); rintro e w' ⟨rfl, ⟨nd, rfl⟩⟩; refine ⟨_, rfl, ?_⟩; (try (rw [drewN_self w5]; generalize hq_ : World.drewN w5 _ = w5; have n0_ : Aside0 (w5.heap[gb219]? = some (.cells #[.int .i64 0, .slice none 0 0] 28 (0, 0))) := ⟨by rw [← hq_]; exact (kB_ BK219)⟩; have n1_ : Aside0 (Below w.heap.size w w5) := ⟨by rw [← hq_]; exact hB_⟩; clear BK219 HB hq_; have BK219 := n0_; have HB := n1_; clear n0_ n1_))) | ((with_reducible refine gate_dst (N := 6) rfl ?_); refine Kd.R_make (Kd.int .i64) _ 3 rfl (N := 6) rfl 24 _ _ rfl t220 rfl rfl Try.underlying24 (.int .i64 0) 8 info3 rfl (by decide) (by omega) 0 (ok := fun _ => True) (okp := fun _ => True) rfl (fun _ hk => hk) trivial (of_decide_eq_true as_) (Nat.le_trans (Nat.mul_le_mul_right _ (of_decide_eq_true as_ : t220.toNat ≤ 35184372088832)) (by omega)) (Below.refl _ _) (Nat.le_refl _) ?_; intro v222 w6 ho7 hb hg_ hnew_; clear hg_ hnew_; (first | rw [← Ny221.out] at ho7 | (simp only [Int.reduceToNat] at ho7; rw [← Ny221.out] at ho7)); have HO223 := Qx (Kd.R_lower ho7 (Qz hB_)); replace BK219 := Qx (Qb (kB_ BK219) hb); replace HB := Qx (Qp hB_ hb); clear hb ho7; obtain ⟨Ao8, co8, eo8⟩ := Kd.R_slice HO223.out; subst eo8; obtain ⟨hcz9_0, hcz9_1, hfz9_0, hfz9_1⟩ := cellsQ2_g1b (w := w6) BK219.out))
    refine bodyPost_ret (results_cell_row rfl _ _ gb219 28 #[.int .i64 a0, .slice Ao8 y221.length co8] (0, 0) _ rfl (by (with_reducible repeat (first | refine Qm ?_ _ | refine Qw ?_ | refine Qk ?_ _)); refine Qu (cs := #[.int .i64 a0, .slice none 0 0]) ?_ 1 _ rfl; (with_reducible repeat (first | refine Qm ?_ _ | refine Qw ?_ | refine Qk ?_ _)); refine Qu (cs := #[.int .i64 0, .slice none 0 0]) ?_ 0 _ rfl; (with_reducible repeat (first | refine Qm ?_ _ | refine Qw ?_ | refine Qk ?_ _)); exact BK219.out) Try.underlying28 rfl (by kernel_rfl)) rfl ?_
    exact ⟨_, rf_, by (with_reducible repeat (first | apply Qra | apply Qrn | apply Qrd)); exact Qrm (farsQ2_g1b (Kd.R_types HO223.out BK219.out (by decide)) (fun _ hk => hk.2) (.int .i64 a0) (.slice Ao8 y221.length co8)) (fun _ hk => trivial), hB_⟩
   ·rw [if_neg c4] at H
    exact absurd H (by simp)
  ·rw [if_neg c3] at H
   exact absurd H (by simp)
/-! ### impl_Bits_set: function 35 -/
def impl_Bits_set.f (a0_0 : Int) (l0_1 : List Int) (a1 : Int) (a2 : Bool) : Option (List Int) := if 0 ≤ (wrap64 (Int.tdiv a1 16)) then (if (wrap64 (Int.tdiv a1 16)) < (l0_1.length : Int) then (if 0 ≤ (Int.tmod a1 16) then ((some (l0_1.set ((wrap64 (Int.tdiv a1 16)) : Int).toNat (Go.bits .andNot .i64 (rd l0_1 (wrap64 (Int.tdiv a1 16))) (shl .i64 1 (Int.tmod a1 16))) : List Int)).bind fun y225 => (if a2 = true then (some (y225.set ((wrap64 (Int.tdiv a1 16)) : Int).toNat (Go.bits .or .i64 (rd y225 (wrap64 (Int.tdiv a1 16))) (shl .i64 1 (Int.tmod a1 16))))) else (some y225))) else (none)) else (none)) else (none)
def impl_Bits_set.T0 : Bool × List (List Nat × List Nat) := (true, [([], []), ([0], [0]), ([1], [1]), ([2], [2]), ([], []), ([4], [4]), ([3, 5], [3, 5]), ([6], [6]), ([], []), ([8], [8]), ([9], [9]), ([7, 10], [7, 10]), ([3, 5, 0, 1, 2, 3, 4, 5, 6, 7, 8, 9, 10, 11], [3, 5]), ([12, 11, 0, 1, 2, 3, 4, 5, 6, 7, 8, 9, 10, 11], [11, 12])])
def impl_Bits_set.B0 : List Nat := [0, 1, 3, 7, 0, 16, 63, 127, 0, 256, 768, 2047, 4095, 8191]
theorem impl_Bits_set.tab0 : rtab .any (opsOf Try.f35 0) = impl_Bits_set.T0 := by kernel_rfl
theorem impl_Bits_set.bits0 : waitsOk impl_Bits_set.T0.2 impl_Bits_set.B0 = true := by kernel_rfl
def impl_Bits_set.T2 : Bool × List (List Nat × List Nat) := (true, [([], []), ([0], [0]), ([1], [1]), ([2], [2]), ([], []), ([4], [4]), ([3, 5], [3, 5]), ([6], [6]), ([], []), ([8], [8]), ([9], [9]), ([7, 10], [7, 10]), ([3, 5, 0, 1, 2, 3, 4, 5, 6, 7, 8, 9, 10, 11], [3, 5]), ([12, 11, 0, 1, 2, 3, 4, 5, 6, 7, 8, 9, 10, 11], [11, 12])])
def impl_Bits_set.B2 : List Nat := [0, 1, 3, 7, 0, 16, 63, 127, 0, 256, 768, 2047, 4095, 8191]
theorem impl_Bits_set.tab2 : rtab .any (opsOf Try.f35 2) = impl_Bits_set.T2 := by kernel_rfl
theorem impl_Bits_set.bits2 : waitsOk impl_Bits_set.T2.2 impl_Bits_set.B2 = true := by kernel_rfl
set_option maxHeartbeats 8000000 in
set_option maxRecDepth 100000 in
theorem impl_Bits_set.calls (gb0_ : Nat) (a0_0 : Int) (P0_1_ : Nat → Prop) (u9000_ : Value) (l0_1 : List Int) (a1 : Int) (a2 : Bool) (r : List Int) (w0 w : World) (hB : Below w0.heap.size w0 w) (ho0_1 : Kd.R (Kd.int .i64) 3 w w0.heap.size P0_1_ u9000_ l0_1) (hb0_ : w.heap[gb0_]? = some (.cells #[.int .i64 a0_0, u9000_] 28 (0, 0))) (h : impl_Bits_set.f a0_0 l0_1 a1 a2 = some r) :
    Calls Try.prog 35 #[.pointer (some ⟨gb0_, 0, none⟩), .int .i64 a1, .bool a2] w fun e w' => e = .returned (.tuple #[]) ∧ Kd.R (Kd.int .i64) 3 w' w0.heap.size (fun k_ => (P0_1_ k_ ∨ w.heap.size ≤ k_)) u9000_ r ∧ Below w0.heap.size w0 w' ∧ Kept w w' (fun k_ => P0_1_ k_) := by
  have hu24 := Try.underlying24
  have HO0_1 := Qx (show Kd.R (Kd.int .i64) 3 w w0.heap.size (fun k_ => (P0_1_ k_ ∨ w.heap.size ≤ k_)) u9000_ l0_1 from Qrm ho0_1 (fun k_ hk => (.inl hk)))
  have BK0 := Qx hb0_; clear hb0_
  have HK := Qx (Kept.refl w (fun k_ => P0_1_ k_))
  have HW0 := Qx hB.size; have HB := Qx hB; clear hB
  have H : (if 0 ≤ (wrap64 (Int.tdiv a1 16)) then (if (wrap64 (Int.tdiv a1 16)) < (l0_1.length : Int) then (if 0 ≤ (Int.tmod a1 16) then ((some (l0_1.set ((wrap64 (Int.tdiv a1 16)) : Int).toNat (Go.bits .andNot .i64 (rd l0_1 (wrap64 (Int.tdiv a1 16))) (shl .i64 1 (Int.tmod a1 16))) : List Int)).bind fun y225 => (if a2 = true then (some (y225.set ((wrap64 (Int.tdiv a1 16)) : Int).toNat (Go.bits .or .i64 (rd y225 (wrap64 (Int.tdiv a1 16))) (shl .i64 1 (Int.tmod a1 16))))) else (some y225))) else (none)) else (none)) else (none)) = some r := h
  clear h
  obtain ⟨ji4, hji4⟩ : ∃ j_ : Int, (wrap64 (Int.tdiv a1 16)) = j_ := ⟨_, rfl⟩
  replace H : (if 0 ≤ (ji4) then (if (ji4) < (l0_1.length : Int) then (if 0 ≤ (Int.tmod a1 16) then ((some (l0_1.set ((ji4) : Int).toNat (Go.bits .andNot .i64 (rd l0_1 (ji4)) (shl .i64 1 (Int.tmod a1 16))) : List Int)).bind fun y225 => (if a2 = true then (some (y225.set ((ji4) : Int).toNat (Go.bits .or .i64 (rd y225 (ji4)) (shl .i64 1 (Int.tmod a1 16))))) else (some y225))) else (none)) else (none)) else (none)) = some r := by first | (rw [hji4] at H; exact H) | (simp only [hji4] at H ⊢; exact H)
  have hji4w : (IntKind.i64.wrap (Int.tdiv a1 16)) = ji4 := (i64_w _).trans hji4
  by_cases c5 : 0 ≤ (ji4)
  ·rw [if_pos c5] at H
   have c5b0 : decide (0 ≤ (ji4)) = true := decide_eq_true c5
   clear c5
   by_cases c6 : (ji4) < (l0_1.length : Int)
   ·rw [if_pos c6] at H
    have c6b0 : decide ((ji4) < (l0_1.length : Int)) = true := decide_eq_true c6
    clear c6
    obtain ⟨ji7, hji7⟩ : ∃ j_ : Int, (Int.tmod a1 16) = j_ := ⟨_, rfl⟩
    replace H : (if 0 ≤ (ji7) then ((some (l0_1.set ((ji4) : Int).toNat (Go.bits .andNot .i64 (rd l0_1 (ji4)) (shl .i64 1 (ji7))) : List Int)).bind fun y225 => (if a2 = true then (some (y225.set ((ji4) : Int).toNat (Go.bits .or .i64 (rd y225 (ji4)) (shl .i64 1 (ji7))))) else (some y225))) else (none)) = some r := by first | (rw [hji7] at H; exact H) | (simp only [hji7] at H ⊢; exact H)
    by_cases c8 : 0 ≤ (ji7)
    ·rw [if_pos c8] at H; have c8b0 := eq_true c8
     have c8b1 : decide (0 ≤ (ji7)) = true := decide_eq_true c8
     clear c8
     obtain ⟨ji9, hji9⟩ : ∃ j_ : Int, (shl .i64 1 (ji7)) = j_ := ⟨_, rfl⟩
     replace H : ((some (l0_1.set ((ji4) : Int).toNat (Go.bits .andNot .i64 (rd l0_1 (ji4)) (ji9)) : List Int)).bind fun y225 => (if a2 = true then (some (y225.set ((ji4) : Int).toNat (Go.bits .or .i64 (rd y225 (ji4)) (ji9)))) else (some y225))) = some r := by first | (rw [hji9] at H; exact H) | (simp only [hji9] at H ⊢; exact H)
     have hji9_ : (IntKind.i64.wrap (1 * 2 ^ min (ji7).toNat 64)) = ji9 := hji9
     have hji9z : (ji7) ≤ 64 → (IntKind.i64.wrap (1 * 2 ^ (ji7).toNat)) = ji9 := shl_small hji9
     have hji9u : (IntKind.i64.wrap (2 ^ min (ji7).toNat 64)) = ji9 := by have h_ := hji9_; rw [Int.one_mul] at h_; exact h_
     have hji9v : (ji7) ≤ 64 → (IntKind.i64.wrap (2 ^ (ji7).toNat)) = ji9 := fun hle_ => by have h_ := hji9z hle_; rw [Int.one_mul] at h_; exact h_
     have hji9y : (wrap64 (1 * 2 ^ min (ji7).toNat 64)) = ji9 := (i64_w _).symm.trans hji9_
     have hji9x : (ji7) ≤ 64 → (wrap64 (1 * 2 ^ (ji7).toNat)) = ji9 := fun h_ => (i64_w _).symm.trans (hji9z h_)
     obtain ⟨y225, hy225⟩ : ∃ y_ : List Int, y_ = (l0_1.set ((ji4) : Int).toNat (Go.bits .andNot .i64 (rd l0_1 (ji4)) (ji9))) := ⟨_, rfl⟩
     replace H : (if a2 = true then (some (y225.set ((ji4) : Int).toNat (Go.bits .or .i64 (rd y225 (ji4)) (ji9)))) else (some y225)) = some r := by first | (rw [hy225]; with_reducible exact H) | (have H2_ := (Option.bind_some _ _).symm.trans H; rw [hy225]; with_reducible exact H2_) | (have H2_ := (Option.bind_some _ _).symm.trans H; with_reducible exact H2_) | with_reducible exact H | (rw [hy225]; exact H) | exact H
     have Ny225 := Qx hy225; clear hy225
     by_cases c11 : a2 = true
     ·subst c11
      have H1 : (some (y225.set ((ji4) : Int).toNat (Go.bits .or .i64 (rd y225 (ji4)) (ji9)))) = some r := by rw [if_pos rfl] at H; exact H
      clear H; have H := H1; clear H1
      have c12b0 := eq_true (of_decide_eq_true as_ : 0 ≤ (ji7))
      obtain ⟨y227, hy227⟩ : ∃ y_ : List Int, y_ = (y225.set ((ji4) : Int).toNat (Go.bits .or .i64 (rd y225 (ji4)) (ji9))) := ⟨_, rfl⟩
      replace H : (some y227) = some r := by first | (rw [hy227]; with_reducible exact H) | (have H2_ := (Option.bind_some _ _).symm.trans H; rw [hy227]; with_reducible exact H2_) | (have H2_ := (Option.bind_some _ _).symm.trans H; with_reducible exact H2_) | with_reducible exact H | (rw [hy227]; exact H) | exact H
      have Ny227 := Qx hy227; clear hy227; obtain rfl := Option.some.inj H
      go_enter Try.func35, Try.ntmps35
      try go_wp2
      replace HO0_1 := Qx (Qrd HO0_1.out)
      replace BK0 := Qx (Qw BK0.out)
      replace HK := Qx (Kept.drew HK.out)
      replace HB := Qx (below_drew1 HB.out)
      obtain ⟨Ao15, co15, eo15⟩ := Kd.R_slice HO0_1.out
      (first | subst eo15 | (injection eo15 with f1_ f2_ f3_; have f4_ := f1_.symm; have f5_ := f3_.symm; clear f1_ f2_ f3_; subst f4_; subst f5_))
      have p224 : 0 ≤ ((ji4) : Int) := of_decide_eq_true as_
      have q224 : (ji4) < (l0_1.length : Int) := of_decide_eq_true as_
      obtain ⟨ad224, e224, hx224_0⟩ := Kd.at_int (Kd.R_reads' HO0_1.out).2.2 (ji4) p224 q224
      cases e224
      replace p224 := eq_true p224; replace q224 := eq_true q224
      have p10 : 0 ≤ ((ji4) : Int) := of_decide_eq_true as_
      have q10 : ((ji4) : Int) < ((l0_1.length : Int) : Int) := of_decide_eq_true as_
      obtain ⟨go10, co10, eo10, gb10, gl10, cl10, HG10⟩ := Kd.R_form HO0_1.out (by omega)
      (first | cases eo10 | (injection eo10 with ea_ en_ ec_; (first | subst ea_ | (injection ea_ with ea_; subst ea_)); subst ec_; clear en_))
      have GB10 := Qx gb10; have GG10 := Qx HG10; clear gb10 gl10 HG10
      have HMgo10 := Qx (show (P0_1_ go10 ∨ w.heap.size ≤ go10) from (HO0_1.out.1 _ rfl))
      (first | simp only [add_plain] at hx224_0 | skip)
      obtain ⟨hx10_0, hf10_0⟩ := Kd.R_celln 0 HO0_1.out ((ji4) : Int) p10 q10
      replace p10 := eq_true p10; replace q10 := eq_true q10
      have HP16 := Kd.R_putn HO0_1.out ((ji4) : Int) (Go.bits .andNot .i64 (rd l0_1 (ji4)) (ji9))
      rw [← Ny225.out] at HP16; have HQ16 := Qx HP16; clear HP16
      refine start_ (n := 14) (S := fun w' => w'.cell? ⟨gb0_, 0, none⟩ = some (.int .i64 a0_0) ∧ w'.cell? ⟨gb0_, 1, none⟩ = some (.slice (some ⟨go10, 0, none⟩) l0_1.length co15) ∧ w'.cell? ⟨go10, ((ji4)).toNat, none⟩ = some (.int .i64 (rd l0_1 (ji4)))) (ds := [13]) #[false, false, false, false, false, false, false, false, false, false, false, false, false, false] (by kernel_rfl) rfl rfl ⟨(Qc BK0.out 0).trans rfl, (Qc BK0.out 1).trans rfl, hx224_0⟩ (fun hHeld => ?_); refine with_tabW impl_Bits_set.tab0 impl_Bits_set.bits0 (fun HT_ HW_ => ?_)
      generalize w.drew = w14 at HO0_1 BK0 HK HB GG10 HQ16 hf10_0 hx10_0 hx224_0 hHeld ⊢
      refine pr_ 0 6 14 1 ?_
      refine pr_ 1 7 14 3 ?_
      refine pr_ 2 8 14 7 ?_
      refine pr_ 4 10 14 23 ?_
      refine pr_ 5 11 14 55 ?_
      refine pr_ 8 14 14 311 ?_
      refine pr_ 9 15 14 823 ?_
      refine pr_ 10 16 14 1847 ?_
      refine tq_ 3 9 14 1855 HT_.out HW_.out (by kernel_rfl) hHeld ?_ rfl (by rintro w' ⟨s0, s1, s2⟩; go_simp; with_reducible rfl)
      refine pr_ 6 12 14 1919 ?_
      refine tq_ 7 13 14 2047 HT_.out HW_.out (by kernel_rfl) hHeld ?_ rfl (by rintro w' ⟨s0, s1, s2⟩; go_simp; with_reducible rfl)
      refine pr_ 11 17 14 4095 ?_
      refine pr_ 12 18 14 8191 ?_
      refine last_ (i := 13) (N := none) (bsA 14 16383) rfl rfl (one_of HT_.out (by kernel_rfl)) (by decide) (fun K hK => ?_)
      refine skip_ (w1 := ?_) (by rfl) rfl ?_ ?_
      rotate_left
      ·go_simp
       rfl
      refine hK.out _ _ ?_
      clear hK K
      refine done_ (done_of HT_.out (by kernel_rfl)) ?_
      try go_wp2
      have n0_ : Aside0 (Kd.R (Kd.int .i64) 3 (w14.setCell ⟨go10, ((ji4) : Int).toNat, none⟩ (.int .i64 (Go.bits .andNot .i64 (rd l0_1 (ji4)) (ji9)))) w0.heap.size (fun k_ => (P0_1_ k_ ∨ w.heap.size ≤ k_)) (.slice (some ⟨go10, 0, none⟩) l0_1.length co15) y225) := ⟨kR_ HQ16⟩
      have n1_ : Aside0 ((w14.setCell ⟨go10, ((ji4) : Int).toNat, none⟩ (.int .i64 (Go.bits .andNot .i64 (rd l0_1 (ji4)) (ji9)))).heap[gb0_]? = some (.cells #[.int .i64 a0_0, .slice (some ⟨go10, 0, none⟩) l0_1.length co15] 28 (0, 0))) := ⟨by (with_reducible repeat (first | refine Qm ?_ _ | refine Qw ?_ | refine Qk ?_ _)); refine blk_far ?_ (by have h_ := Kd.R_ne HO0_1.out BK0.out (by decide); intro e_; exact h_ (by rw [e_]; rfl)) _; (with_reducible repeat (first | refine Qm ?_ _ | refine Qw ?_ | refine Qk ?_ _)); exact BK0.out⟩
      have n2_ : Aside0 (Kept w (w14.setCell ⟨go10, ((ji4) : Int).toNat, none⟩ (.int .i64 (Go.bits .andNot .i64 (rd l0_1 (ji4)) (ji9)))) (fun k_ => P0_1_ k_)) := ⟨by repeat (first | (with_reducible first | exact HK.out | apply Kept.alloc | apply Kept.drewN | apply Kept.drew | refine Kept.setCell ?_ HMgo10.out _ | refine Kept.setCell ?_ (.inr GW0.out) _) | exact HK.out)⟩
      have n3_ : Aside0 (Below w0.heap.size w0 (w14.setCell ⟨go10, ((ji4) : Int).toNat, none⟩ (.int .i64 (Go.bits .andNot .i64 (rd l0_1 (ji4)) (ji9))))) := ⟨hB_⟩
      (try clear HO0_1); (try clear BK0); (try clear HK); (try clear HB)
      generalize (w14.setCell ⟨go10, ((ji4) : Int).toNat, none⟩ (.int .i64 (Go.bits .andNot .i64 (rd l0_1 (ji4)) (ji9)))) = w17 at n0_ n1_ n2_ n3_ ⊢
      have HO0_1 := n0_; have BK0 := n1_; have HK := n2_; have HB := n3_; clear n0_ n1_ n2_ n3_
      replace HO0_1 := Qx (Qrd HO0_1.out)
      replace BK0 := Qx (Qw BK0.out)
      replace HK := Qx (Kept.drew HK.out)
      replace HB := Qx (below_drew1 HB.out)
      have p226 : 0 ≤ ((ji4) : Int) := of_decide_eq_true as_
      have q226 : (ji4) < (y225.length : Int) := (by have h_ : ((ji4) : Int) < ((l0_1.length : Int) : Int) := of_decide_eq_true as_; first | (have e_ := (Kd.R_reads' HO0_1.out).1; omega) | simpa only [Ny225.out, List.length_set] using h_)
      have ql226 : (((ji4) : Int) < ((l0_1.length : Int) : Int)) = True := eq_true (of_decide_eq_true as_)
      obtain ⟨ad226, e226, hx226_0⟩ := Kd.at_int (Kd.R_reads' HO0_1.out).2.2 (ji4) p226 q226
      obtain rfl : (⟨go10, 0, none⟩ : Addr) = ad226 := (by injection e226)
      (first | simp only [add_plain] at hx226_0 | simp only [add_at] at hx226_0 | simp only [Addr.add, Nat.zero_add] at hx226_0 | skip)
      replace p226 := eq_true p226; replace q226 := eq_true q226
      have p13 : 0 ≤ ((ji4) : Int) := of_decide_eq_true as_
      have q13 : ((ji4) : Int) < ((l0_1.length : Int) : Int) := of_decide_eq_true as_
      obtain ⟨hx13_0, hf13_0⟩ := Kd.R_celln 0 HO0_1.out ((ji4) : Int) p13 q13
      replace p13 := eq_true p13; replace q13 := eq_true q13
      have HP19 := Kd.R_putn HO0_1.out ((ji4) : Int) (Go.bits .or .i64 (rd y225 (ji4)) (ji9))
      rw [← Ny227.out] at HP19; have HQ19 := Qx HP19; clear HP19
      refine start_ (n := 14) (S := fun w' => w'.cell? ⟨gb0_, 0, none⟩ = some (.int .i64 a0_0) ∧ w'.cell? ⟨gb0_, 1, none⟩ = some (.slice (some ⟨go10, 0, none⟩) l0_1.length co15) ∧ w'.cell? ⟨go10, ((ji4)).toNat, none⟩ = some (.int .i64 (rd y225 (ji4)))) (ds := [13]) #[false, false, false, false, false, false, false, false, false, false, false, false, false, false] (by kernel_rfl) rfl rfl ⟨(Qc BK0.out 0).trans rfl, (Qc BK0.out 1).trans rfl, hx226_0⟩ (fun hHeld => ?_); refine with_tabW impl_Bits_set.tab2 impl_Bits_set.bits2 (fun HT_ HW_ => ?_)
      generalize w17.drew = w18 at HO0_1 BK0 HK HB HQ16 HQ19 hf13_0 hx13_0 hx226_0 hHeld ⊢
      refine pr_ 0 20 14 1 ?_
      refine pr_ 1 21 14 3 ?_
      refine pr_ 2 22 14 7 ?_
      refine pr_ 4 24 14 23 ?_
      refine pr_ 5 25 14 55 ?_
      refine pr_ 8 28 14 311 ?_
      refine pr_ 9 29 14 823 ?_
      refine pr_ 10 30 14 1847 ?_
      refine tq_ 3 23 14 1855 HT_.out HW_.out (by kernel_rfl) hHeld ?_ rfl (by rintro w' ⟨s0, s1, s2⟩; go_simp; with_reducible rfl)
      refine pr_ 6 26 14 1919 ?_
      refine tq_ 7 27 14 2047 HT_.out HW_.out (by kernel_rfl) hHeld ?_ rfl (by rintro w' ⟨s0, s1, s2⟩; go_simp; with_reducible rfl)
      refine pr_ 11 31 14 4095 ?_
      refine pr_ 12 32 14 8191 ?_
      refine last_ (i := 13) (N := none) (bsA 14 16383) rfl rfl (one_of HT_.out (by kernel_rfl)) (by decide) (fun K hK => ?_)
      refine skip_ (w1 := ?_) (by rfl) rfl ?_ ?_
      rotate_left
      ·go_simp
       rfl
      refine hK.out _ _ ?_
      clear hK K
      refine done_ (done_of HT_.out (by kernel_rfl)) ?_
      try go_wp2
      first | go_end0 | ((try simp only [Exit.inBlock, Exit.then]); refine bodyPost_ret (results_none rfl _ _ _) rfl ?_)
      exact ⟨by first | rfl | (simp [errW_none, errW_some] <;> rfl) | (simp only [← hji4, ← hji7, ← hji9]; first | rfl | (simp [errW_none, errW_some] <;> rfl)) | (simp [*, errW_none, errW_some] <;> rfl), kR_ HQ19, hB_, by repeat (first | (with_reducible first | exact HK.out | apply Kept.alloc | apply Kept.drewN | apply Kept.drew | refine Kept.setCell ?_ HMgo10.out _ | refine Kept.setCell ?_ (.inr GW0.out) _) | exact HK.out)⟩
     ·replace c11 := Bool.eq_false_iff.mpr c11; subst c11
      have H1 : (some y225) = some r := by rw [if_neg (show ¬ (false = true) by decide)] at H; exact H
      clear H; have H := H1; clear H1; obtain rfl := Option.some.inj H
      go_enter Try.func35, Try.ntmps35
      try go_wp2
      replace HO0_1 := Qx (Qrd HO0_1.out)
      replace BK0 := Qx (Qw BK0.out)
      replace HK := Qx (Kept.drew HK.out)
      replace HB := Qx (below_drew1 HB.out)
      obtain ⟨Ao21, co21, eo21⟩ := Kd.R_slice HO0_1.out
      (first | subst eo21 | (injection eo21 with f1_ f2_ f3_; have f4_ := f1_.symm; have f5_ := f3_.symm; clear f1_ f2_ f3_; subst f4_; subst f5_))
      have p224 : 0 ≤ ((ji4) : Int) := of_decide_eq_true as_
      have q224 : (ji4) < (l0_1.length : Int) := of_decide_eq_true as_
      obtain ⟨ad224, e224, hx224_0⟩ := Kd.at_int (Kd.R_reads' HO0_1.out).2.2 (ji4) p224 q224
      cases e224
      replace p224 := eq_true p224; replace q224 := eq_true q224
      have p10 : 0 ≤ ((ji4) : Int) := of_decide_eq_true as_
      have q10 : ((ji4) : Int) < ((l0_1.length : Int) : Int) := of_decide_eq_true as_
      obtain ⟨go10, co10, eo10, gb10, gl10, cl10, HG10⟩ := Kd.R_form HO0_1.out (by omega)
      (first | cases eo10 | (injection eo10 with ea_ en_ ec_; (first | subst ea_ | (injection ea_ with ea_; subst ea_)); subst ec_; clear en_))
      have GB10 := Qx gb10; have GG10 := Qx HG10; clear gb10 gl10 HG10
      have HMgo10 := Qx (show (P0_1_ go10 ∨ w.heap.size ≤ go10) from (HO0_1.out.1 _ rfl))
      (first | simp only [add_plain] at hx224_0 | skip)
      obtain ⟨hx10_0, hf10_0⟩ := Kd.R_celln 0 HO0_1.out ((ji4) : Int) p10 q10
      replace p10 := eq_true p10; replace q10 := eq_true q10
      have HP22 := Kd.R_putn HO0_1.out ((ji4) : Int) (Go.bits .andNot .i64 (rd l0_1 (ji4)) (ji9))
      rw [← Ny225.out] at HP22; have HQ22 := Qx HP22; clear HP22
      refine start_ (n := 14) (S := fun w' => w'.cell? ⟨gb0_, 0, none⟩ = some (.int .i64 a0_0) ∧ w'.cell? ⟨gb0_, 1, none⟩ = some (.slice (some ⟨go10, 0, none⟩) l0_1.length co21) ∧ w'.cell? ⟨go10, ((ji4)).toNat, none⟩ = some (.int .i64 (rd l0_1 (ji4)))) (ds := [13]) #[false, false, false, false, false, false, false, false, false, false, false, false, false, false] (by kernel_rfl) rfl rfl ⟨(Qc BK0.out 0).trans rfl, (Qc BK0.out 1).trans rfl, hx224_0⟩ (fun hHeld => ?_); refine with_tabW impl_Bits_set.tab0 impl_Bits_set.bits0 (fun HT_ HW_ => ?_)
      generalize w.drew = w20 at HO0_1 BK0 HK HB GG10 HQ22 hf10_0 hx10_0 hx224_0 hHeld ⊢
      refine pr_ 0 6 14 1 ?_
      refine pr_ 1 7 14 3 ?_
      refine pr_ 2 8 14 7 ?_
      refine pr_ 4 10 14 23 ?_
      refine pr_ 5 11 14 55 ?_
      refine pr_ 8 14 14 311 ?_
      refine pr_ 9 15 14 823 ?_
      refine pr_ 10 16 14 1847 ?_
      refine tq_ 3 9 14 1855 HT_.out HW_.out (by kernel_rfl) hHeld ?_ rfl (by rintro w' ⟨s0, s1, s2⟩; go_simp; with_reducible rfl)
      refine pr_ 6 12 14 1919 ?_
      refine tq_ 7 13 14 2047 HT_.out HW_.out (by kernel_rfl) hHeld ?_ rfl (by rintro w' ⟨s0, s1, s2⟩; go_simp; with_reducible rfl)
      refine pr_ 11 17 14 4095 ?_
      refine pr_ 12 18 14 8191 ?_
      refine last_ (i := 13) (N := none) (bsA 14 16383) rfl rfl (one_of HT_.out (by kernel_rfl)) (by decide) (fun K hK => ?_)
      refine skip_ (w1 := ?_) (by rfl) rfl ?_ ?_
      rotate_left
      ·go_simp
       rfl
      refine hK.out _ _ ?_
      clear hK K
      refine done_ (done_of HT_.out (by kernel_rfl)) ?_
      try go_wp2
      first | go_end0 | ((try simp only [Exit.inBlock, Exit.then]); refine bodyPost_ret (results_none rfl _ _ _) rfl ?_)
      exact ⟨by first | rfl | (simp [errW_none, errW_some] <;> rfl) | (simp only [← hji4, ← hji7, ← hji9]; first | rfl | (simp [errW_none, errW_some] <;> rfl)) | (simp [*, errW_none, errW_some] <;> rfl), kR_ HQ22, hB_, by repeat (first | (with_reducible first | exact HK.out | apply Kept.alloc | apply Kept.drewN | apply Kept.drew | refine Kept.setCell ?_ HMgo10.out _ | refine Kept.setCell ?_ (.inr GW0.out) _) | exact HK.out)⟩
    ·rw [if_neg c8] at H
     exact absurd H (by simp)
   ·rw [if_neg c6] at H
    exact absurd H (by simp)
  ·rw [if_neg c5] at H
   exact absurd H (by simp)
/-! ### impl_Bits_setField: function 49 -/
def impl_Bits_setField.l0 : Nat → Int → Int → Int → Int → Int → List Int → Option (List Int)
  | 0, _, _, _, _, _, _ => none
  | k + 1, x1, x3, x9, x10, x1000, x1001 => if x10 < x9 then (if 0 ≤ x10 then ((impl_Bits_set.f x1000 x1001 (wrap64 (x1 + x10)) ((Go.bits .and .i64 (shr .i64 x3 x10) 1) == 1)).bind fun t228 => (impl_Bits_setField.l0 k x1 x3 x9 (wrap64 (x10 + 1)) x1000 t228)) else (none)) else (some x1001)
def impl_Bits_setField.f (k : Nat) (a0_0 : Int) (l0_1 : List Int) (a1 : Int) (a2 : Int) (a3 : Int) : Option (List Int) := impl_Bits_setField.l0 k a1 a3 a2 0 a0_0 l0_1
theorem impl_Bits_setField.mono_l : ∀ k, (∀ y0 y1 y2 y3 y4 y5, LeO (impl_Bits_setField.l0 k y0 y1 y2 y3 y4 y5) (impl_Bits_setField.l0 (k + 1) y0 y1 y2 y3 y4 y5))
  | 0 => fun _ _ _ _ _ _ r h => by simp [impl_Bits_setField.l0] at h
  | k + 1 => by
    have ih0 := impl_Bits_setField.mono_l k
    · intro y0 y1 y2 y3 y4 y5
      unfold impl_Bits_setField.l0
      repeat' first
      | (with_reducible exact ih0 _ _ _ _ _ _)
      | (with_reducible exact LeO.refl _)
      | (with_reducible exact LeO.none _)
      | (with_reducible refine LeO.ite ?_ ?_)
      | (with_reducible refine LeO.bind ?_ (fun _ => ?_))
      | exact ih0 _ _ _ _ _ _
      | exact LeO.none _
      | refine LeO.ite ?_ ?_
      | refine LeO.bind ?_ (fun _ => ?_)
theorem impl_Bits_setField.mono : ∀ a0 a1 a2 a3 a4 k, LeO (impl_Bits_setField.f k a0 a1 a2 a3 a4) (impl_Bits_setField.f (k + 1) a0 a1 a2 a3 a4) := by
  intro a0 a1 a2 a3 a4 k
  have ih0 := impl_Bits_setField.mono_l k
  unfold impl_Bits_setField.f
  repeat' first
      | (with_reducible exact ih0 _ _ _ _ _ _)
      | (with_reducible exact LeO.refl _)
      | (with_reducible exact LeO.none _)
      | (with_reducible refine LeO.ite ?_ ?_)
      | (with_reducible refine LeO.bind ?_ (fun _ => ?_))
      | exact ih0 _ _ _ _ _ _
      | exact LeO.none _
      | refine LeO.ite ?_ ?_
      | refine LeO.bind ?_ (fun _ => ?_)
noncomputable def impl_Bits_setField.L0 (y0 : Int) (y1 : Int) (y2 : Int) (y3 : Int) (y4 : Int) (y5 : List Int) : Option (List Int) := lim fun k => impl_Bits_setField.l0 k y0 y1 y2 y3 y4 y5
theorem impl_Bits_setField.L0_sup (y0 : Int) (y1 : Int) (y2 : Int) (y3 : Int) (y4 : Int) (y5 : List Int) : Sup (fun k => impl_Bits_setField.l0 k y0 y1 y2 y3 y4 y5) (impl_Bits_setField.L0 y0 y1 y2 y3 y4 y5) := Sup.of_mono fun k => impl_Bits_setField.mono_l k y0 y1 y2 y3 y4 y5
noncomputable def impl_Bits_setField.F (a0_0 : Int) (l0_1 : List Int) (a1 : Int) (a2 : Int) (a3 : Int) : Option (List Int) := lim fun k => impl_Bits_setField.f k a0_0 l0_1 a1 a2 a3
theorem impl_Bits_setField.F_sup (a0_0 : Int) (l0_1 : List Int) (a1 : Int) (a2 : Int) (a3 : Int) : Sup (fun k => impl_Bits_setField.f k a0_0 l0_1 a1 a2 a3) (impl_Bits_setField.F a0_0 l0_1 a1 a2 a3) := Sup.of_mono fun k => impl_Bits_setField.mono a0_0 l0_1 a1 a2 a3 k
theorem impl_Bits_setField.L0_eq (x1 : Int) (x3 : Int) (x9 : Int) (x10 : Int) (x1000 : Int) (x1001 : List Int) : impl_Bits_setField.L0 x1 x3 x9 x10 x1000 x1001 = if x10 < x9 then (if 0 ≤ x10 then ((impl_Bits_set.f x1000 x1001 (wrap64 (x1 + x10)) ((Go.bits .and .i64 (shr .i64 x3 x10) 1) == 1)).bind fun t228 => (impl_Bits_setField.L0 x1 x3 x9 (wrap64 (x10 + 1)) x1000 t228)) else (none)) else (some x1001) := by
  refine Sup.unique (impl_Bits_setField.L0_sup x1 x3 x9 x10 x1000 x1001) (Sup.shift (fun k => impl_Bits_setField.mono_l k x1 x3 x9 x10 x1000 x1001) (Sup.congr (g' := fun k => if x10 < x9 then (if 0 ≤ x10 then ((impl_Bits_set.f x1000 x1001 (wrap64 (x1 + x10)) ((Go.bits .and .i64 (shr .i64 x3 x10) 1) == 1)).bind fun t228 => (impl_Bits_setField.l0 k x1 x3 x9 (wrap64 (x10 + 1)) x1000 t228)) else (none)) else (some x1001)) (fun k => by first | rfl | simp only [impl_Bits_setField.l0]) ?_))
  repeat' first
    | (with_reducible exact impl_Bits_setField.L0_sup _ _ _ _ _ _)
    | (with_reducible refine Sup.ite ?_ ?_)
    | (with_reducible refine Sup.bind ?_ (fun _ => ?_))
    | (with_reducible exact Sup.const _)
    | exact impl_Bits_setField.L0_sup _ _ _ _ _ _
    | exact Sup.const _
theorem impl_Bits_setField.F_eq (a0_0 : Int) (l0_1 : List Int) (a1 : Int) (a2 : Int) (a3 : Int) : impl_Bits_setField.F a0_0 l0_1 a1 a2 a3 = impl_Bits_setField.L0 a1 a3 a2 0 a0_0 l0_1 := by
  refine Sup.unique (impl_Bits_setField.F_sup a0_0 l0_1 a1 a2 a3) (Sup.congr (g' := fun k => impl_Bits_setField.l0 k a1 a3 a2 0 a0_0 l0_1) (fun k => by first | rfl | simp only [impl_Bits_setField.f]) ?_)
  repeat' first
    | (with_reducible exact impl_Bits_setField.L0_sup _ _ _ _ _ _)
    | (with_reducible refine Sup.ite ?_ ?_)
    | (with_reducible refine Sup.bind ?_ (fun _ => ?_))
    | (with_reducible exact Sup.const _)
    | exact impl_Bits_setField.L0_sup _ _ _ _ _ _
    | exact Sup.const _
set_option maxHeartbeats 8000000 in
set_option maxRecDepth 100000 in
theorem impl_Bits_setField.calls (k : Nat) (gb0_ : Nat) (a0_0 : Int) (P0_1_ : Nat → Prop) (u9000_ : Value) (l0_1 : List Int) (a1 : Int) (a2 : Int) (a3 : Int) (r : List Int) (w0 w : World) (hB : Below w0.heap.size w0 w) (ho0_1 : Kd.R (Kd.int .i64) 3 w w0.heap.size P0_1_ u9000_ l0_1) (hb0_ : w.heap[gb0_]? = some (.cells #[.int .i64 a0_0, u9000_] 28 (0, 0))) (h : impl_Bits_setField.f k a0_0 l0_1 a1 a2 a3 = some r) :
    Calls Try.prog 49 #[.pointer (some ⟨gb0_, 0, none⟩), .int .i64 a1, .int .i64 a2, .int .i64 a3] w fun e w' => e = .returned (.tuple #[]) ∧ Kd.R (Kd.int .i64) 3 w' w0.heap.size (fun k_ => (P0_1_ k_ ∨ w.heap.size ≤ k_)) u9000_ r ∧ Below w0.heap.size w0 w' ∧ Kept w w' (fun k_ => P0_1_ k_) := by
  have HO0_1 := Qx (show Kd.R (Kd.int .i64) 3 w w0.heap.size (fun k_ => (P0_1_ k_ ∨ w.heap.size ≤ k_)) u9000_ l0_1 from Qrm ho0_1 (fun k_ hk => (.inl hk)))
  have BK0 := Qx hb0_; clear hb0_
  have HK := Qx (Kept.refl w (fun k_ => P0_1_ k_))
  have HW0 := Qx hB.size; have HB := Qx hB; clear hB
  have H : (impl_Bits_setField.l0 k a1 a3 a2 0 a0_0 l0_1) = some r := h
  clear h; have H' := Qx H; clear H
  go_enter Try.func49, Try.ntmps49
  go_wp2
  go_loopg [10] k (fun kq v10 w' => ∃ (x10_1 : Int) (x1001_1 : List Int), v10 = .int .i64 x10_1 ∧ Aside0 (impl_Bits_setField.l0 kq a1 a3 a2 x10_1 a0_0 x1001_1 = some r) ∧ Aside0 (kq ≤ k) ∧ Aside0 (Kd.R (Kd.int .i64) 3 w' w0.heap.size (fun k_ => (P0_1_ k_ ∨ w.heap.size ≤ k_)) u9000_ x1001_1) ∧ Aside0 (w'.heap[gb0_]? = some (.cells #[.int .i64 a0_0, u9000_] 28 (0, 0))) ∧ Aside0 (Kept w w' (fun k_ => P0_1_ k_)) ∧ Aside0 (Below w0.heap.size w0 w'))
  case atStart => exact ⟨(0), (l0_1), rg_, H', ⟨Nat.le_refl _⟩, ⟨kR_ HO0_1⟩, ⟨kB_ BK0⟩, ⟨by repeat (first | (with_reducible first | exact HK.out | apply Kept.alloc | apply Kept.drewN | apply Kept.drew | refine Kept.setCell ?_ (.inr GW0.out) _) | exact HK.out)⟩, ⟨hB_⟩⟩
  case round =>
   clear H'
   try clear p2
   try clear c4
   obtain ⟨x10_1, x1001_1, rfl, HA, HK1, HO_1001, BK0, HK, HB⟩ := hrel
   cases gk with
   | zero => exact absurd HA.out (by simp [impl_Bits_setField.l0])
   | succ k1 =>
    have H := HA.out; clear HA; simp only [impl_Bits_setField.l0] at H
    by_cases c5 : x10_1 < a2
    ·rw [if_pos c5] at H
     have c5b0 : decide (x10_1 < a2) = true := decide_eq_true c5
     clear c5
     by_cases c6 : 0 ≤ x10_1
     ·rw [if_pos c6] at H; have c6b0 := eq_true c6
      have c6b1 : decide (0 ≤ x10_1) = true := decide_eq_true c6
      clear c6
      obtain ⟨ji7, hji7⟩ : ∃ j_ : Int, (shr .i64 a3 x10_1) = j_ := ⟨_, rfl⟩
      replace H : ((impl_Bits_set.f a0_0 x1001_1 (wrap64 (a1 + x10_1)) ((Go.bits .and .i64 (ji7) 1) == 1)).bind fun t228 => (impl_Bits_setField.l0 k1 a1 a3 a2 (wrap64 (x10_1 + 1)) a0_0 t228)) = some r := by first | (rw [hji7] at H; exact H) | (simp only [hji7] at H ⊢; exact H)
      have hji7_ : (a3 / 2 ^ min x10_1.toNat 64) = ji7 := hji7
      have hji7z : x10_1 ≤ 64 → (a3 / 2 ^ x10_1.toNat) = ji7 := shr_small hji7
      replace H := Option.bind_eq_some_iff.mp H; obtain ⟨t228, A80, H⟩ := H
      have A8 := Qx A80; clear A80; have H' := Qx H; clear H; obtain ⟨Ao9, co9, eo9⟩ := Kd.R_slice HO_1001.out; subst eo9
      go_wp2_with (first | ((with_reducible refine gate_callee (f := 35) rfl ?_); refine goesL_ (some 22) rfl rfl Try.func35 (by kernel_rfl) rfl #[.pointer (some ⟨gb0_, 0, none⟩), .int .i64 (wrap64 (a1 + x10_1)), .bool ((Go.bits .and .i64 (ji7) 1) == 1)] rfl (by (try simp only [List.map_toArray, List.map_cons, List.map_nil]); first | done | (simp only [hji7]; rfl) | rfl | (simp only [List.length_drop, List.length_take]; rfl)) ?_; (with_reducible refine (impl_Bits_set.calls gb0_ a0_0 (fun k_ => some k_ = (.slice Ao9 x1001_1.length co9 : Value).ownBlock) (.slice Ao9 x1001_1.length co9) x1001_1 (wrap64 (a1 + x10_1)) ((Go.bits .and .i64 (ji7) 1) == 1) t228 w0 _ ?side1 ?side2 ?side3 A8.out).mono ?_); (case side1 => exact hB_); (case side2 => exact Kd.R_tight rfl HO_1001.out); (case side3 => exact (kB_ BK0)); rintro e w10 ⟨rfl, hy0, hb, hkp⟩; refine ⟨_, rfl, ?_⟩; replace BK0 := Qx (blk_kept (kB_ BK0) hkp (fun hs_ => (fun e_ => (Kd.R_ne HO_1001.out BK0.out (by decide)) e_) hs_)); replace HK := Qx (Kept.then_ (S := (fun k_ => P0_1_ k_)) (by repeat (first | (with_reducible first | exact HK.out | apply Kept.alloc | apply Kept.drewN | apply Kept.drew | refine Kept.setCell ?_ (.inr GW0.out) _) | exact HK.out)) hkp (fun k_ hs_ => (fun e_ => (HO_1001.out.1 k_ e_.symm)) hs_)); replace HO_1001 := Qx (Kd.R_reok rfl hy0 (fun k_ e_ => HO_1001.out.1 k_ e_)); replace HB := Qx (hb); (try clear hb); (try clear hkp); (try clear hy0)))
      go_roundg k1
      case measure => have := HK1.out; omega
      case rel => exact ⟨(wrap64 (x10_1 + 1)), (t228), rg_, H', ⟨by have := HK1.out; omega⟩, ⟨kR_ HO_1001⟩, ⟨kB_ BK0⟩, ⟨by repeat (first | (with_reducible first | exact HK.out | apply Kept.alloc | apply Kept.drewN | apply Kept.drew | refine Kept.setCell ?_ (.inr GW0.out) _) | exact HK.out)⟩, ⟨hB_⟩⟩
     ·rw [if_neg c6] at H
      exact absurd H (by simp)
    ·rw [if_neg c5] at H
     have c5b0 : decide (x10_1 < a2) = false := decide_eq_false c5
     clear c5; obtain rfl := Option.some.inj H
     go_wp2
     first | go_end0 | ((try simp only [Exit.inBlock, Exit.then]); refine bodyPost_ret (results_none rfl _ _ _) rfl ?_)
     exact ⟨rf_, kR_ HO_1001, hB_, by repeat (first | (with_reducible first | exact HK.out | apply Kept.alloc | apply Kept.drewN | apply Kept.drew | refine Kept.setCell ?_ (.inr GW0.out) _) | exact HK.out)⟩
/-! ### impl_fields: function 36 -/
def impl_fields.l0 : Nat → Int → List Int → Int → Int → Int → List Int → Option (Int × List Int)
  | 0, _, _, _, _, _, _ => none
  | k + 1, x1, x13, x14, x15, x235000, x235001 => if x15 < x14 then (if 0 ≤ x15 then (if x15 < (x13.length : Int) then ((impl_Bits_setField.f k x235000 x235001 (wrap64 (x15 * x1)) x1 (rd x13 x15)).bind fun t236 => (impl_fields.l0 k x1 x13 x14 (wrap64 (x15 + 1)) x235000 t236)) else (none)) else (none)) else (some (x235000, x235001))
def impl_fields.f (k : Nat) (l0 : List Int) (a1 : Int) : Option (Int × List Int) := (impl_blank.f (wrap64 ((l0.length : Int) * a1))).bind fun bt230 => (impl_fields.l0 k a1 l0 (l0.length : Int) 0 bt230.1 bt230.2)
theorem impl_fields.mono_l : ∀ k, (∀ y0 y1 y2 y3 y4 y5, LeO (impl_fields.l0 k y0 y1 y2 y3 y4 y5) (impl_fields.l0 (k + 1) y0 y1 y2 y3 y4 y5))
  | 0 => fun _ _ _ _ _ _ r h => by simp [impl_fields.l0] at h
  | k + 1 => by
    have ih0 := impl_fields.mono_l k
    · intro y0 y1 y2 y3 y4 y5
      unfold impl_fields.l0
      repeat' first
      | (with_reducible exact ih0 _ _ _ _ _ _)
      | (with_reducible exact impl_Bits_setField.mono _ _ _ _ _ _)
      | (with_reducible exact LeO.refl _)
      | (with_reducible exact LeO.none _)
      | (with_reducible refine LeO.ite ?_ ?_)
      | (with_reducible refine LeO.bind ?_ (fun _ => ?_))
      | exact ih0 _ _ _ _ _ _
      | exact impl_Bits_setField.mono _ _ _ _ _ _
      | exact LeO.none _
      | refine LeO.ite ?_ ?_
      | refine LeO.bind ?_ (fun _ => ?_)
theorem impl_fields.mono : ∀ a0 a1 k, LeO (impl_fields.f k a0 a1) (impl_fields.f (k + 1) a0 a1) := by
  intro a0 a1 k
  have ih0 := impl_fields.mono_l k
  unfold impl_fields.f
  repeat' first
      | (with_reducible exact ih0 _ _ _ _ _ _)
      | (with_reducible exact impl_Bits_setField.mono _ _ _ _ _ _)
      | (with_reducible exact LeO.refl _)
      | (with_reducible exact LeO.none _)
      | (with_reducible refine LeO.ite ?_ ?_)
      | (with_reducible refine LeO.bind ?_ (fun _ => ?_))
      | exact ih0 _ _ _ _ _ _
      | exact impl_Bits_setField.mono _ _ _ _ _ _
      | exact LeO.none _
      | refine LeO.ite ?_ ?_
      | refine LeO.bind ?_ (fun _ => ?_)
noncomputable def impl_fields.L0 (y0 : Int) (y1 : List Int) (y2 : Int) (y3 : Int) (y4 : Int) (y5 : List Int) : Option (Int × List Int) := lim fun k => impl_fields.l0 k y0 y1 y2 y3 y4 y5
theorem impl_fields.L0_sup (y0 : Int) (y1 : List Int) (y2 : Int) (y3 : Int) (y4 : Int) (y5 : List Int) : Sup (fun k => impl_fields.l0 k y0 y1 y2 y3 y4 y5) (impl_fields.L0 y0 y1 y2 y3 y4 y5) := Sup.of_mono fun k => impl_fields.mono_l k y0 y1 y2 y3 y4 y5
noncomputable def impl_fields.F (l0 : List Int) (a1 : Int) : Option (Int × List Int) := lim fun k => impl_fields.f k l0 a1
theorem impl_fields.F_sup (l0 : List Int) (a1 : Int) : Sup (fun k => impl_fields.f k l0 a1) (impl_fields.F l0 a1) := Sup.of_mono fun k => impl_fields.mono l0 a1 k
theorem impl_fields.L0_eq (x1 : Int) (x13 : List Int) (x14 : Int) (x15 : Int) (x235000 : Int) (x235001 : List Int) : impl_fields.L0 x1 x13 x14 x15 x235000 x235001 = if x15 < x14 then (if 0 ≤ x15 then (if x15 < (x13.length : Int) then ((impl_Bits_setField.F x235000 x235001 (wrap64 (x15 * x1)) x1 (rd x13 x15)).bind fun t236 => (impl_fields.L0 x1 x13 x14 (wrap64 (x15 + 1)) x235000 t236)) else (none)) else (none)) else (some (x235000, x235001)) := by
  refine Sup.unique (impl_fields.L0_sup x1 x13 x14 x15 x235000 x235001) (Sup.shift (fun k => impl_fields.mono_l k x1 x13 x14 x15 x235000 x235001) (Sup.congr (g' := fun k => if x15 < x14 then (if 0 ≤ x15 then (if x15 < (x13.length : Int) then ((impl_Bits_setField.f k x235000 x235001 (wrap64 (x15 * x1)) x1 (rd x13 x15)).bind fun t236 => (impl_fields.l0 k x1 x13 x14 (wrap64 (x15 + 1)) x235000 t236)) else (none)) else (none)) else (some (x235000, x235001))) (fun k => by first | rfl | simp only [impl_fields.l0]) ?_))
  repeat' first
    | (with_reducible exact impl_fields.L0_sup _ _ _ _ _ _)
    | (with_reducible exact impl_Bits_setField.F_sup _ _ _ _ _)
    | (with_reducible refine Sup.ite ?_ ?_)
    | (with_reducible refine Sup.bind ?_ (fun _ => ?_))
    | (with_reducible exact Sup.const _)
    | exact impl_fields.L0_sup _ _ _ _ _ _
    | exact impl_Bits_setField.F_sup _ _ _ _ _
    | exact Sup.const _
theorem impl_fields.F_eq (l0 : List Int) (a1 : Int) : impl_fields.F l0 a1 = (impl_blank.f (wrap64 ((l0.length : Int) * a1))).bind fun bt230 => (impl_fields.L0 a1 l0 (l0.length : Int) 0 bt230.1 bt230.2) := by
  refine Sup.unique (impl_fields.F_sup l0 a1) (Sup.congr (g' := fun k => (impl_blank.f (wrap64 ((l0.length : Int) * a1))).bind fun bt230 => (impl_fields.l0 k a1 l0 (l0.length : Int) 0 bt230.1 bt230.2)) (fun k => by first | rfl | simp only [impl_fields.f]) ?_)
  repeat' first
    | (with_reducible exact impl_fields.L0_sup _ _ _ _ _ _)
    | (with_reducible exact impl_Bits_setField.F_sup _ _ _ _ _)
    | (with_reducible refine Sup.ite ?_ ?_)
    | (with_reducible refine Sup.bind ?_ (fun _ => ?_))
    | (with_reducible exact Sup.const _)
    | exact impl_fields.L0_sup _ _ _ _ _ _
    | exact impl_Bits_setField.F_sup _ _ _ _ _
    | exact Sup.const _
set_option maxHeartbeats 8000000 in
set_option maxRecDepth 100000 in
theorem impl_fields.calls (k : Nat) (A0 : Option Addr) (c0 : Nat) (l0 : List Int) (a1 : Int) (r1 : Int) (r2 : List Int) (w : World) (hr0 : Kd.C (Kd.int .i64) w A0 l0.length l0) (hc0 : l0.length ≤ c0) (h : impl_fields.f k l0 a1 = some (r1, r2)) :
    Calls Try.prog 36 #[.slice A0 l0.length c0, .int .i64 a1] w fun e w' => ∃ v1_ : Value, e = .returned (.agg #[.int .i64 r1, v1_]) ∧ Kd.R (Kd.int .i64) 3 w' w.heap.size (fun _ => True) v1_ r2 ∧ Below w.heap.size w w' := by
  have hu28 := Try.underlying28; have HR0 := Qx hr0; have HC0 := Qx hc0; clear hr0 hc0
  have HB := Qx (Below.refl w.heap.size w)
  have H : ((impl_blank.f (wrap64 ((l0.length : Int) * a1))).bind fun bt230 => (impl_fields.l0 k a1 l0 (l0.length : Int) 0 bt230.1 bt230.2)) = some (r1, r2) := h
  clear h; replace H := Option.bind_eq_some_iff.mp H; obtain ⟨⟨t230, t231⟩, A30, H⟩ := H
  have A3 := Qx A30; clear A30; have H' := Qx H; clear H
  go_enter Try.func36, Try.ntmps36
  go_wp2_with (first | ((with_reducible refine gate_dst (N := 4) rfl ?_); refine bx_ 4 #[.int .i64 0, .slice none 0 0] 28 ?_; intro gb229 hg w4 hbox hb; have BK229 := Qx (hbox); have GW229 := Qx ((ge_ hg)); have GE229 := Qx ((ge_ hg)); replace HB := Qx (Qp hB_ hb); clear hb hbox hg) | ((with_reducible refine gate_callee (f := 34) rfl ?_); refine gl_ 12 Try.func34 #[.int .i64 (wrap64 ((l0.length : Int) * a1))] ?_; (with_reducible refine (impl_blank.calls (wrap64 ((l0.length : Int) * a1)) t230 t231 _ A3.out).mono ?_); rintro e w5 ⟨v232, rfl, ho0, hb⟩; refine ⟨_, rfl, ?_⟩; have HO233 := Qx (Kd.R_lower ho0 (Qz hB_)); replace BK229 := Qx (Qb (kB_ BK229) hb); replace HB := Qx (Qp hB_ hb); (try clear hb); (try clear hb2); (try clear hk); (try clear hi); (try clear ho0)) | ((with_reducible refine gate_dst (N := 5) rfl ?_); refine bx_ 5 #[.int .i64 0, .slice none 0 0] 28 ?_; intro gb234 hg w6 hbox hb; replace HO233 := Qx (Kd.R_below (kR_ HO233) hb); have BK234 := Qx (hbox); have GW234 := Qx ((ge_ hg)); have GE234 := Qx ((ge_ hg)); replace HB := Qx (Qp hB_ hb); have NB229_234 := Qx ((ne_ hg BK229)); have NB234_229 := Qx ((nf_ hg BK229)); replace BK229 := Qx (Qb (kB_ BK229) hb); clear hb hbox hg; have hnb7 := NB234_229.out; have hnc7 := NB229_234.out; obtain ⟨hcz8_0, hcz8_1, hfz8_0, hfz8_1⟩ := cellsQ2_g1b (w := w6) BK234.out; obtain ⟨Ao9, co9, eo9⟩ := Kd.R_slice HO233.out; subst eo9))
  go_loopg [15] k (fun kq v15 w' => ∃ (x15_1 : Int) (x235001_1 : List Int) (u235001 : Value), v15 = .int .i64 x15_1 ∧ Aside0 (impl_fields.l0 kq a1 l0 (l0.length : Int) x15_1 t230 x235001_1 = some (r1, r2)) ∧ Aside0 (kq ≤ k) ∧ Aside0 (Kd.R (Kd.int .i64) 3 w' w.heap.size (fun _ => True) u235001 x235001_1) ∧ Aside0 (w'.heap[gb229]? = some (.cells #[.int .i64 0, (.slice none 0 0)] 28 (0, 0))) ∧ Aside0 (w'.heap[gb234]? = some (.cells #[.int .i64 t230, u235001] 28 (0, 0))) ∧ Aside0 (Below w.heap.size w w'))
  case atStart => exact ⟨(0), (t231), (.slice Ao9 t231.length co9), rg_, H', ⟨Nat.le_refl _⟩, ⟨by (with_reducible repeat (first | apply Qra | apply Qrn | apply Qrd)); exact Qrm (farsQ2_g1b (Kd.R_types HO233.out BK234.out (by decide)) (fun _ hk => hk.2) (.int .i64 t230) (.slice Ao9 t231.length co9)) (fun _ hk => trivial)⟩, ⟨by (with_reducible repeat (first | refine Qm ?_ _ | refine Qw ?_ | refine Qk ?_ _)); refine blk_far ?_ NB229_234.out _; (with_reducible repeat (first | refine Qm ?_ _ | refine Qw ?_ | refine Qk ?_ _)); refine blk_far ?_ NB229_234.out _; (with_reducible repeat (first | refine Qm ?_ _ | refine Qw ?_ | refine Qk ?_ _)); exact BK229.out⟩, ⟨by (with_reducible repeat (first | refine Qm ?_ _ | refine Qw ?_ | refine Qk ?_ _)); refine Qu (cs := #[.int .i64 t230, .slice none 0 0]) ?_ 1 _ rfl; (with_reducible repeat (first | refine Qm ?_ _ | refine Qw ?_ | refine Qk ?_ _)); refine Qu (cs := #[.int .i64 0, .slice none 0 0]) ?_ 0 _ rfl; (with_reducible repeat (first | refine Qm ?_ _ | refine Qw ?_ | refine Qk ?_ _)); exact BK234.out⟩, ⟨hB_⟩⟩
  case round =>
   clear H'
   try clear p2
   try clear c3
   try clear p6
   try clear c7
   try clear hcz8_0
   try clear hcz8_1
   try clear hfz8_0
   try clear hfz8_1
   obtain ⟨x15_1, x235001_1, u235001, rfl, HA, HK1, HO_235001, BK229, BK234, HB⟩ := hrel
   cases gk with
   | zero => exact absurd HA.out (by simp [impl_fields.l0])
   | succ k1 =>
    have H := HA.out; clear HA; simp only [impl_fields.l0] at H
    by_cases c10 : x15_1 < (l0.length : Int)
    ·rw [if_pos c10] at H
     have c10b0 : decide (x15_1 < (l0.length : Int)) = true := decide_eq_true c10
     clear c10
     by_cases c11 : 0 ≤ x15_1
     ·rw [if_pos c11] at H
      have c11b0 : decide (0 ≤ x15_1) = true := decide_eq_true c11
      clear c11
      by_cases c12 : x15_1 < (l0.length : Int)
      ·rw [if_pos c12] at H
       have c12b0 : decide (x15_1 < (l0.length : Int)) = true := decide_eq_true c12
       clear c12; replace H := Option.bind_eq_some_iff.mp H; obtain ⟨t236, A130, H⟩ := H
       have A13 := Qx A130; clear A130; have H' := Qx H; clear H
       have p235 : 0 ≤ (x15_1 : Int) := of_decide_eq_true as_
       have q235 : x15_1 < (l0.length : Int) := of_decide_eq_true as_
       obtain ⟨ad235, e235, hx235_0⟩ := Kd.at_int HR0.out x15_1 p235 q235
       cases e235
       replace hx235_0 := (HB.out.cell (World.block_lt_of_cell? w _ hx235_0)).trans hx235_0
       replace p235 := eq_true p235; replace q235 := eq_true q235; obtain ⟨Ao14, co14, eo14⟩ := Kd.R_slice HO_235001.out; subst eo14
       go_wp2_with (first | ((with_reducible refine gate_callee (f := 49) rfl ?_); refine gl_ 25 Try.func49 #[.pointer (some ⟨gb234, 0, none⟩), .int .i64 (wrap64 (x15_1 * a1)), .int .i64 a1, .int .i64 (rd l0 x15_1)] ?_; (with_reducible refine (impl_Bits_setField.calls k1 gb234 t230 (fun k_ => some k_ = (.slice Ao14 x235001_1.length co14 : Value).ownBlock) (.slice Ao14 x235001_1.length co14) x235001_1 (wrap64 (x15_1 * a1)) a1 (rd l0 x15_1) t236 w _ ?side1 ?side2 ?side3 A13.out).mono ?_); (case side1 => exact hB_); (case side2 => exact Kd.R_tight rfl HO_235001.out); (case side3 => exact (kB_ BK234)); rintro e w15 ⟨rfl, hy0, hb, hkp⟩; refine ⟨_, rfl, ?_⟩; replace BK229 := Qx (blk_kept (kB_ BK229) hkp (fun hs_ => (fun e_ => (Kd.R_ne HO_235001.out BK229.out (by decide)) e_) hs_)); replace BK234 := Qx (blk_kept (kB_ BK234) hkp (fun hs_ => (fun e_ => (Kd.R_ne HO_235001.out BK234.out (by decide)) e_) hs_)); replace HO_235001 := Qx (Kd.R_reok rfl hy0 (fun k_ e_ => HO_235001.out.1 k_ e_)); replace HB := Qx (hb); (try clear hb); (try clear hkp); (try clear hy0)))
       go_roundg k1
       case measure => have := HK1.out; omega
       case rel => exact ⟨(wrap64 (x15_1 + 1)), (t236), (.slice Ao14 x235001_1.length co14), rg_, H', ⟨by have := HK1.out; omega⟩, ⟨kR_ HO_235001⟩, ⟨kB_ BK229⟩, ⟨kB_ BK234⟩, ⟨hB_⟩⟩
      ·rw [if_neg c12] at H
       exact absurd H (by simp)
     ·rw [if_neg c11] at H
      exact absurd H (by simp)
    ·rw [if_neg c10] at H
     have c10b0 : decide (x15_1 < (l0.length : Int)) = false := decide_eq_false c10
     clear c10; simp only [Option.some.injEq, Prod.mk.injEq] at H; obtain ⟨rfl, rfl⟩ := H; have hnb16 := NB234_229.out; have hnc16 := NB229_234.out
     obtain ⟨hcz17_0, hcz17_1, hfz17_0, hfz17_1⟩ := cellsQ2_g1b (w := wr) BK234.out
     obtain ⟨hcz18_0, hcz18_1, hfz18_0, hfz18_1⟩ := cellsQ2_g1b (w := wr) BK229.out
     obtain ⟨Ao19, co19, eo19⟩ := Kd.R_slice HO_235001.out; subst eo19
     go_wp2
     refine bodyPost_ret (results_cell_row rfl _ _ gb229 28 #[.int .i64 t230, .slice Ao19 x235001_1.length co19] (0, 0) _ rfl (by (with_reducible repeat (first | refine Qm ?_ _ | refine Qw ?_ | refine Qk ?_ _)); refine Qu (cs := #[.int .i64 t230, .slice none 0 0]) ?_ 1 _ rfl; (with_reducible repeat (first | refine Qm ?_ _ | refine Qw ?_ | refine Qk ?_ _)); refine Qu (cs := #[.int .i64 0, .slice none 0 0]) ?_ 0 _ rfl; (with_reducible repeat (first | refine Qm ?_ _ | refine Qw ?_ | refine Qk ?_ _)); exact BK229.out) Try.underlying28 rfl (by kernel_rfl)) rfl ?_
     exact ⟨_, rf_, by (with_reducible repeat (first | apply Qra | apply Qrn | apply Qrd)); exact Qrm (farsQ2_g1b (Kd.R_types HO_235001.out BK229.out (by decide)) (fun _ hk => hk.2) (.int .i64 t230) (.slice Ao19 x235001_1.length co19)) (fun _ hk => trivial), hB_⟩
/-! ### impl_sparse: function 19 -/
def impl_sparse.l0 : Nat → List Int → Int → Int → List Int → List Int → Int → Int → Int → List Int → Option (Int × Int × Int × Int × List Int × Int × List Int)
  | 0, _, _, _, _, _, _, _, _, _ => none
  | k + 1, x0, x1, x5, x7, x28, x29, x30, x248000, x248001 => if x30 < x29 then (if 0 ≤ x30 then (if x30 < (x28.length : Int) then (if 0 ≤ x5 then (if x7.length < 17592186044416 then ((impl_Bits_set.f x248000 x248001 (wrap64 ((shr .i64 (rd x28 x30) x5) + x30)) true).bind fun t252 => (impl_sparse.l0 k x0 x1 x5 (x7 ++ [Go.bits .and .i64 (rd x28 x30) (wrap64 ((shl .i64 1 x5) - 1))]) x28 x29 (wrap64 (x30 + 1)) x248000 t252)) else (none)) else (none)) else (none)) else (none)) else ((impl_fields.f k x7 x5).bind fun bt253 => (some ((x0.length : Int), x1, x5, bt253.1, bt253.2, x248000, x248001)))
def impl_sparse.f (k : Nat) (l0 : List Int) (a1 : Int) : Option (Int × Int × Int × Int × List Int × Int × List Int) := (impl_WidthFor.f k (l0.length : Int) a1).bind fun bt238 => (if 0 ≤ bt238.1 then ((impl_blank.f (wrap64 ((wrap64 ((l0.length : Int) + (shr .i64 (wrap64 (a1 - 1)) bt238.1))) + 1))).bind fun bt243 => (impl_sparse.l0 k l0 a1 bt238.1 (([] : List Int)) l0 (l0.length : Int) 0 bt243.1 bt243.2)) else (none))
theorem impl_sparse.mono_l : ∀ k, (∀ y0 y1 y2 y3 y4 y5 y6 y7 y8, LeO (impl_sparse.l0 k y0 y1 y2 y3 y4 y5 y6 y7 y8) (impl_sparse.l0 (k + 1) y0 y1 y2 y3 y4 y5 y6 y7 y8))
  | 0 => fun _ _ _ _ _ _ _ _ _ r h => by simp [impl_sparse.l0] at h
  | k + 1 => by
    have ih0 := impl_sparse.mono_l k
    · intro y0 y1 y2 y3 y4 y5 y6 y7 y8
      unfold impl_sparse.l0
      repeat' first
      | (with_reducible exact ih0 _ _ _ _ _ _ _ _ _)
      | (with_reducible exact impl_WidthFor.mono _ _ _)
      | (with_reducible exact impl_fields.mono _ _ _)
      | (with_reducible exact LeO.refl _)
      | (with_reducible exact LeO.none _)
      | (with_reducible refine LeO.ite ?_ ?_)
      | (with_reducible refine LeO.bind ?_ (fun _ => ?_))
      | exact ih0 _ _ _ _ _ _ _ _ _
      | exact impl_WidthFor.mono _ _ _
      | exact impl_fields.mono _ _ _
      | exact LeO.none _
      | refine LeO.ite ?_ ?_
      | refine LeO.bind ?_ (fun _ => ?_)
theorem impl_sparse.mono : ∀ a0 a1 k, LeO (impl_sparse.f k a0 a1) (impl_sparse.f (k + 1) a0 a1) := by
  intro a0 a1 k
  have ih0 := impl_sparse.mono_l k
  unfold impl_sparse.f
  repeat' first
      | (with_reducible exact ih0 _ _ _ _ _ _ _ _ _)
      | (with_reducible exact impl_WidthFor.mono _ _ _)
      | (with_reducible exact impl_fields.mono _ _ _)
      | (with_reducible exact LeO.refl _)
      | (with_reducible exact LeO.none _)
      | (with_reducible refine LeO.ite ?_ ?_)
      | (with_reducible refine LeO.bind ?_ (fun _ => ?_))
      | exact ih0 _ _ _ _ _ _ _ _ _
      | exact impl_WidthFor.mono _ _ _
      | exact impl_fields.mono _ _ _
      | exact LeO.none _
      | refine LeO.ite ?_ ?_
      | refine LeO.bind ?_ (fun _ => ?_)
noncomputable def impl_sparse.L0 (y0 : List Int) (y1 : Int) (y2 : Int) (y3 : List Int) (y4 : List Int) (y5 : Int) (y6 : Int) (y7 : Int) (y8 : List Int) : Option (Int × Int × Int × Int × List Int × Int × List Int) := lim fun k => impl_sparse.l0 k y0 y1 y2 y3 y4 y5 y6 y7 y8
theorem impl_sparse.L0_sup (y0 : List Int) (y1 : Int) (y2 : Int) (y3 : List Int) (y4 : List Int) (y5 : Int) (y6 : Int) (y7 : Int) (y8 : List Int) : Sup (fun k => impl_sparse.l0 k y0 y1 y2 y3 y4 y5 y6 y7 y8) (impl_sparse.L0 y0 y1 y2 y3 y4 y5 y6 y7 y8) := Sup.of_mono fun k => impl_sparse.mono_l k y0 y1 y2 y3 y4 y5 y6 y7 y8
noncomputable def impl_sparse.F (l0 : List Int) (a1 : Int) : Option (Int × Int × Int × Int × List Int × Int × List Int) := lim fun k => impl_sparse.f k l0 a1
theorem impl_sparse.F_sup (l0 : List Int) (a1 : Int) : Sup (fun k => impl_sparse.f k l0 a1) (impl_sparse.F l0 a1) := Sup.of_mono fun k => impl_sparse.mono l0 a1 k
theorem impl_sparse.L0_eq (x0 : List Int) (x1 : Int) (x5 : Int) (x7 : List Int) (x28 : List Int) (x29 : Int) (x30 : Int) (x248000 : Int) (x248001 : List Int) : impl_sparse.L0 x0 x1 x5 x7 x28 x29 x30 x248000 x248001 = if x30 < x29 then (if 0 ≤ x30 then (if x30 < (x28.length : Int) then (if 0 ≤ x5 then (if x7.length < 17592186044416 then ((impl_Bits_set.f x248000 x248001 (wrap64 ((shr .i64 (rd x28 x30) x5) + x30)) true).bind fun t252 => (impl_sparse.L0 x0 x1 x5 (x7 ++ [Go.bits .and .i64 (rd x28 x30) (wrap64 ((shl .i64 1 x5) - 1))]) x28 x29 (wrap64 (x30 + 1)) x248000 t252)) else (none)) else (none)) else (none)) else (none)) else ((impl_fields.F x7 x5).bind fun bt253 => (some ((x0.length : Int), x1, x5, bt253.1, bt253.2, x248000, x248001))) := by
  refine Sup.unique (impl_sparse.L0_sup x0 x1 x5 x7 x28 x29 x30 x248000 x248001) (Sup.shift (fun k => impl_sparse.mono_l k x0 x1 x5 x7 x28 x29 x30 x248000 x248001) (Sup.congr (g' := fun k => if x30 < x29 then (if 0 ≤ x30 then (if x30 < (x28.length : Int) then (if 0 ≤ x5 then (if x7.length < 17592186044416 then ((impl_Bits_set.f x248000 x248001 (wrap64 ((shr .i64 (rd x28 x30) x5) + x30)) true).bind fun t252 => (impl_sparse.l0 k x0 x1 x5 (x7 ++ [Go.bits .and .i64 (rd x28 x30) (wrap64 ((shl .i64 1 x5) - 1))]) x28 x29 (wrap64 (x30 + 1)) x248000 t252)) else (none)) else (none)) else (none)) else (none)) else ((impl_fields.f k x7 x5).bind fun bt253 => (some ((x0.length : Int), x1, x5, bt253.1, bt253.2, x248000, x248001)))) (fun k => by first | rfl | simp only [impl_sparse.l0]) ?_))
  repeat' first
    | (with_reducible exact impl_sparse.L0_sup _ _ _ _ _ _ _ _ _)
    | (with_reducible exact impl_WidthFor.F_sup _ _)
    | (with_reducible exact impl_fields.F_sup _ _)
    | (with_reducible refine Sup.ite ?_ ?_)
    | (with_reducible refine Sup.bind ?_ (fun _ => ?_))
    | (with_reducible exact Sup.const _)
    | exact impl_sparse.L0_sup _ _ _ _ _ _ _ _ _
    | exact impl_WidthFor.F_sup _ _
    | exact impl_fields.F_sup _ _
    | exact Sup.const _
theorem impl_sparse.F_eq (l0 : List Int) (a1 : Int) : impl_sparse.F l0 a1 = (impl_WidthFor.F (l0.length : Int) a1).bind fun bt238 => (if 0 ≤ bt238.1 then ((impl_blank.f (wrap64 ((wrap64 ((l0.length : Int) + (shr .i64 (wrap64 (a1 - 1)) bt238.1))) + 1))).bind fun bt243 => (impl_sparse.L0 l0 a1 bt238.1 (([] : List Int)) l0 (l0.length : Int) 0 bt243.1 bt243.2)) else (none)) := by
  refine Sup.unique (impl_sparse.F_sup l0 a1) (Sup.congr (g' := fun k => (impl_WidthFor.f k (l0.length : Int) a1).bind fun bt238 => (if 0 ≤ bt238.1 then ((impl_blank.f (wrap64 ((wrap64 ((l0.length : Int) + (shr .i64 (wrap64 (a1 - 1)) bt238.1))) + 1))).bind fun bt243 => (impl_sparse.l0 k l0 a1 bt238.1 (([] : List Int)) l0 (l0.length : Int) 0 bt243.1 bt243.2)) else (none))) (fun k => by first | rfl | simp only [impl_sparse.f]) ?_)
  repeat' first
    | (with_reducible exact impl_sparse.L0_sup _ _ _ _ _ _ _ _ _)
    | (with_reducible exact impl_WidthFor.F_sup _ _)
    | (with_reducible exact impl_fields.F_sup _ _)
    | (with_reducible refine Sup.ite ?_ ?_)
    | (with_reducible refine Sup.bind ?_ (fun _ => ?_))
    | (with_reducible exact Sup.const _)
    | exact impl_sparse.L0_sup _ _ _ _ _ _ _ _ _
    | exact impl_WidthFor.F_sup _ _
    | exact impl_fields.F_sup _ _
    | exact Sup.const _
def impl_sparse.T9 : Bool × List (List Nat × List Nat) := (true, [([], []), ([0], [0]), ([], []), ([], []), ([], []), ([], []), ([4, 5], [4, 5]), ([], []), ([1, 2, 3, 6, 7], [1, 2, 3, 6, 7]), ([8, 6, 0, 1, 2, 3, 4, 5, 6, 7, 8], [8])])
def impl_sparse.B9 : List Nat := [0, 1, 0, 0, 0, 0, 48, 0, 255, 511]
theorem impl_sparse.tab9 : rtab .any (opsOf Try.f19 9) = impl_sparse.T9 := by kernel_rfl
theorem impl_sparse.bits9 : waitsOk impl_sparse.T9.2 impl_sparse.B9 = true := by kernel_rfl
set_option maxHeartbeats 8000000 in
set_option maxRecDepth 100000 in
theorem impl_sparse.calls (k : Nat) (A0 : Option Addr) (c0 : Nat) (l0 : List Int) (a1 : Int) (r1 : Int) (r2 : Int) (r3 : Int) (r4 : Int) (r5 : List Int) (r6 : Int) (r7 : List Int) (w : World) (hr0 : Kd.C (Kd.int .i64) w A0 l0.length l0) (hc0 : l0.length ≤ c0) (h : impl_sparse.f k l0 a1 = some (r1, r2, r3, r4, r5, r6, r7)) :
    Calls Try.prog 19 #[.slice A0 l0.length c0, .int .i64 a1] w fun e w' => ∃ v4_ v6_ : Value, e = .returned (.agg #[.int .i64 r1, .int .i64 r2, .int .i64 r3, .int .i64 r4, v4_, .int .i64 r6, v6_]) ∧ Kd.R (Kd.int .i64) 3 w' w.heap.size (fun k_ => some k_ ≠ (v6_ : Value).ownBlock) v4_ r5 ∧ Kd.R (Kd.int .i64) 3 w' w.heap.size (fun k_ => some k_ ≠ (v4_ : Value).ownBlock) v6_ r7 ∧ Below w.heap.size w w' := by
  have hu30 := Try.underlying30; have hu28 := Try.underlying28; have HR0 := Qx hr0; have HC0 := Qx hc0; clear hr0 hc0
  have HB := Qx (Below.refl w.heap.size w)
  have H : ((impl_WidthFor.f k (l0.length : Int) a1).bind fun bt238 => (if 0 ≤ bt238.1 then ((impl_blank.f (wrap64 ((wrap64 ((l0.length : Int) + (shr .i64 (wrap64 (a1 - 1)) bt238.1))) + 1))).bind fun bt243 => (impl_sparse.l0 k l0 a1 bt238.1 (([] : List Int)) l0 (l0.length : Int) 0 bt243.1 bt243.2)) else (none))) = some (r1, r2, r3, r4, r5, r6, r7) := h
  clear h; replace H := Option.bind_eq_some_iff.mp H; obtain ⟨⟨t238, t239⟩, A30, H⟩ := H
  have A3 := Qx A30; clear A30
  obtain ⟨y240, hy240⟩ : ∃ y_ : List Int, y_ = (([] : List Int)) := ⟨_, rfl⟩
  replace H : (if 0 ≤ t238 then ((impl_blank.f (wrap64 ((wrap64 ((l0.length : Int) + (shr .i64 (wrap64 (a1 - 1)) t238))) + 1))).bind fun bt243 => (impl_sparse.l0 k l0 a1 t238 y240 l0 (l0.length : Int) 0 bt243.1 bt243.2)) else (none)) = some (r1, r2, r3, r4, r5, r6, r7) := by first | (rw [hy240]; with_reducible exact H) | (have H2_ := (Option.bind_some _ _).symm.trans H; rw [hy240]; with_reducible exact H2_) | (have H2_ := (Option.bind_some _ _).symm.trans H; with_reducible exact H2_) | with_reducible exact H | (rw [hy240]; exact H) | exact H
  have Ny240 := Qx hy240; clear hy240
  by_cases c4 : 0 ≤ t238
  ·rw [if_pos c4] at H; have c4b0 := eq_true c4
   have c4b1 : decide (0 ≤ t238) = true := decide_eq_true c4
   clear c4
   obtain ⟨ji5, hji5⟩ : ∃ j_ : Int, (shr .i64 (wrap64 (a1 - 1)) t238) = j_ := ⟨_, rfl⟩
   replace H : ((impl_blank.f (wrap64 ((wrap64 ((l0.length : Int) + (ji5))) + 1))).bind fun bt243 => (impl_sparse.l0 k l0 a1 t238 y240 l0 (l0.length : Int) 0 bt243.1 bt243.2)) = some (r1, r2, r3, r4, r5, r6, r7) := by first | (rw [hji5] at H; exact H) | (simp only [hji5] at H ⊢; exact H)
   (try rw [hji5] at A3)
   have hji5_ : ((wrap64 (a1 - 1)) / 2 ^ min t238.toNat 64) = ji5 := hji5
   have hji5z : t238 ≤ 64 → ((wrap64 (a1 - 1)) / 2 ^ t238.toNat) = ji5 := shr_small hji5
   replace H := Option.bind_eq_some_iff.mp H; obtain ⟨⟨t243, t244⟩, A60, H⟩ := H
   have A6 := Qx A60; clear A60; have H' := Qx H; clear H
   go_enter Try.func19, Try.ntmps19
   go_wp2_with (first | ((with_reducible refine gate_dst (N := 4) rfl ?_); refine bx_ 4 #[.int .i64 0, .int .i64 0, .int .i64 0, .int .i64 0, .slice none 0 0, .int .i64 0, .slice none 0 0] 30 ?_; intro gb237 hg w7 hbox hb; have BK237 := Qx (hbox); have GW237 := Qx ((ge_ hg)); have GE237 := Qx ((ge_ hg)); replace HB := Qx (Qp hB_ hb); clear hb hbox hg) | ((with_reducible refine gate_callee (f := 33) rfl ?_); refine gl_ 15 Try.func33 #[.int .i64 (l0.length : Int), .int .i64 a1] ?_; (with_reducible refine (impl_WidthFor.calls k (l0.length : Int) a1 t238 t239 _ A3.out).mono ?_); rintro e w8 ⟨rfl, hb⟩; refine ⟨_, rfl, ?_⟩; replace BK237 := Qx (Qb (kB_ BK237) hb); replace HB := Qx (Qp hB_ hb); (try clear hb); (try clear hb2); (try clear hk); (try clear hi)) | ((with_reducible refine gate_dst (N := 18) rfl ?_); refine Kd.R_lit (Kd.int .i64) _ 3 ?hg (N := 18) ?hd (xs := ([] : List Int)) (inner := []) (ok := fun _ => True) (okp := fun _ => True) ?hr ?hp (fun _ hk => hk) trivial (Below.refl _ _) (Nat.le_refl _) (by simp) ?_; (case hd => rfl); (case hg => rfl); (case hr => first | (go_simp; done) | (go_simp; rfl)); (case hp => exact (Reps.none _ _)); intro v241 w9 ho10 hb hg_ hnew_; clear hg_ hnew_; (first | rw [← Ny240.out] at ho10 | (simp only [Int.reduceToNat] at ho10; rw [← Ny240.out] at ho10)); have HO242 := Qx (Kd.R_lower ho10 (Qz hB_)); replace BK237 := Qx (Qb (kB_ BK237) hb); replace HB := Qx (Qp hB_ hb); clear hb ho10) | ((with_reducible refine gate_callee (f := 34) rfl ?_); refine goesL_ (some 27) rfl rfl Try.func34 (by kernel_rfl) rfl #[.int .i64 (wrap64 ((wrap64 ((l0.length : Int) + (ji5))) + 1))] rfl (by (try simp only [List.map_toArray, List.map_cons, List.map_nil]); first | done | (simp only [hji5]; rfl) | rfl | (simp only [List.length_drop, List.length_take]; rfl)) ?_; (with_reducible refine (impl_blank.calls (wrap64 ((wrap64 ((l0.length : Int) + (ji5))) + 1)) t243 t244 _ A6.out).mono ?_); rintro e w11 ⟨v245, rfl, ho0, hb⟩; refine ⟨_, rfl, ?_⟩; have HO246 := Qx (Kd.R_lower (Kd.R_new' ho0 (Kd.R_lt (kR_ HO242))) (Qz hB_)); replace HO242 := Qx (Kd.R_elder' (kR_ HO242) (Kd.R_base ho0) hb); replace BK237 := Qx (Qb (kB_ BK237) hb); replace HB := Qx (Qp hB_ hb); (try clear hb); (try clear hb2); (try clear hk); (try clear hi); (try clear ho0)) | ((with_reducible refine gate_dst (N := 8) rfl ?_); refine bx_ 8 #[.int .i64 0, .slice none 0 0] 28 ?_; intro gb247 hg w12 hbox hb; replace HO242 := Qx (Kd.R_below (kR_ HO242) hb); replace HO246 := Qx (Kd.R_below (kR_ HO246) hb); have BK247 := Qx (hbox); have GW247 := Qx ((ge_ hg)); have GE247 := Qx ((ge_ hg)); replace HB := Qx (Qp hB_ hb); have NB237_247 := Qx ((ne_ hg BK237)); have NB247_237 := Qx ((nf_ hg BK237)); replace BK237 := Qx (Qb (kB_ BK237) hb); clear hb hbox hg; have hnb13 := NB247_237.out; have hnc13 := NB237_247.out; obtain ⟨hcz14_0, hcz14_1, hfz14_0, hfz14_1⟩ := cellsQ2_g1b (w := w12) BK247.out; obtain ⟨Ao15, co15, eo15⟩ := Kd.R_slice HO246.out; subst eo15))
   go_loopg [7, 30] k (fun kq v7 v30 w' => ∃ (x7_1 : List Int) (x30_1 : Int) (x248001_1 : List Int) (u248001 : Value), v30 = .int .i64 x30_1 ∧ Aside0 (impl_sparse.l0 kq l0 a1 t238 x7_1 l0 (l0.length : Int) x30_1 t243 x248001_1 = some (r1, r2, r3, r4, r5, r6, r7)) ∧ Aside0 (kq ≤ k) ∧ Aside0 (Kd.R (Kd.int .i64) 3 w' w.heap.size (fun k_ => some k_ ≠ (u248001 : Value).ownBlock) v7 x7_1) ∧ Aside0 (Kd.R (Kd.int .i64) 3 w' w.heap.size (fun k_ => some k_ ≠ (v7 : Value).ownBlock) u248001 x248001_1) ∧ Aside0 (w'.heap[gb237]? = some (.cells #[.int .i64 0, .int .i64 0, .int .i64 0, .int .i64 0, (.slice none 0 0), .int .i64 0, (.slice none 0 0)] 30 (0, 0))) ∧ Aside0 (w'.heap[gb247]? = some (.cells #[.int .i64 t243, u248001] 28 (0, 0))) ∧ Aside0 (Below w.heap.size w w'))
   case atStart => exact ⟨(y240), (0), (t244), (.slice Ao15 t244.length co15), rg_, H', ⟨Nat.le_refl _⟩, ⟨by (with_reducible repeat (first | apply Qra | apply Qrn | apply Qrd)); exact Qrm (farsQ2_g1b (Kd.R_types HO242.out BK247.out (by decide)) (fun _ hk => hk.2) (.int .i64 t243) (.slice Ao15 t244.length co15)) (fun _ hk => hk.1.2)⟩, ⟨by (with_reducible repeat (first | apply Qra | apply Qrn | apply Qrd)); exact Qrm (farsQ2_g1b (Kd.R_types HO246.out BK247.out (by decide)) (fun _ hk => hk.2) (.int .i64 t243) (.slice Ao15 t244.length co15)) (fun _ hk => hk.1.2)⟩, ⟨by (with_reducible repeat (first | refine Qm ?_ _ | refine Qw ?_ | refine Qk ?_ _)); refine blk_far ?_ NB237_247.out _; (with_reducible repeat (first | refine Qm ?_ _ | refine Qw ?_ | refine Qk ?_ _)); refine blk_far ?_ NB237_247.out _; (with_reducible repeat (first | refine Qm ?_ _ | refine Qw ?_ | refine Qk ?_ _)); exact BK237.out⟩, ⟨by (with_reducible repeat (first | refine Qm ?_ _ | refine Qw ?_ | refine Qk ?_ _)); refine Qu (cs := #[.int .i64 t243, .slice none 0 0]) ?_ 1 _ rfl; (with_reducible repeat (first | refine Qm ?_ _ | refine Qw ?_ | refine Qk ?_ _)); refine Qu (cs := #[.int .i64 0, .slice none 0 0]) ?_ 0 _ rfl; (with_reducible repeat (first | refine Qm ?_ _ | refine Qw ?_ | refine Qk ?_ _)); exact BK247.out⟩, ⟨hB_⟩⟩
   case round =>
    clear H'
    try clear c1
    try clear p2
    try clear c3
    try clear c4
    try clear c4b0
    try clear c4b1
    try clear p6
    try clear c13
    try clear hcz14_0
    try clear hcz14_1
    try clear hfz14_0
    try clear hfz14_1
    obtain ⟨x7_1, x30_1, x248001_1, u248001, rfl, HA, HK1, HO_7, HO_248001, BK237, BK247, HB⟩ := hrel
    cases gk with
    | zero => exact absurd HA.out (by simp [impl_sparse.l0])
    | succ k1 =>
     have H := HA.out; clear HA; simp only [impl_sparse.l0] at H
     by_cases c16 : x30_1 < (l0.length : Int)
     ·rw [if_pos c16] at H
      have c16b0 : decide (x30_1 < (l0.length : Int)) = true := decide_eq_true c16
      clear c16
      by_cases c17 : 0 ≤ x30_1
      ·rw [if_pos c17] at H
       have c17b0 : decide (0 ≤ x30_1) = true := decide_eq_true c17
       clear c17
       by_cases c18 : x30_1 < (l0.length : Int)
       ·rw [if_pos c18] at H
        have c18b0 : decide (x30_1 < (l0.length : Int)) = true := decide_eq_true c18
        clear c18
        by_cases c19 : 0 ≤ t238
        ·rw [if_pos c19] at H; have c19b0 := eq_true c19
         have c19b1 : decide (0 ≤ t238) = true := decide_eq_true c19
         clear c19
         obtain ⟨ji20, hji20⟩ : ∃ j_ : Int, (shl .i64 1 t238) = j_ := ⟨_, rfl⟩
         replace H : (if x7_1.length < 17592186044416 then ((impl_Bits_set.f t243 x248001_1 (wrap64 ((shr .i64 (rd l0 x30_1) t238) + x30_1)) true).bind fun t252 => (impl_sparse.l0 k1 l0 a1 t238 (x7_1 ++ [Go.bits .and .i64 (rd l0 x30_1) (wrap64 ((ji20) - 1))]) l0 (l0.length : Int) (wrap64 (x30_1 + 1)) t243 t252)) else (none)) = some (r1, r2, r3, r4, r5, r6, r7) := by first | (rw [hji20] at H; exact H) | (simp only [hji20] at H ⊢; exact H)
         have hji20_ : (IntKind.i64.wrap (1 * 2 ^ min t238.toNat 64)) = ji20 := hji20
         have hji20z : t238 ≤ 64 → (IntKind.i64.wrap (1 * 2 ^ t238.toNat)) = ji20 := shl_small hji20
         have hji20u : (IntKind.i64.wrap (2 ^ min t238.toNat 64)) = ji20 := by have h_ := hji20_; rw [Int.one_mul] at h_; exact h_
         have hji20v : t238 ≤ 64 → (IntKind.i64.wrap (2 ^ t238.toNat)) = ji20 := fun hle_ => by have h_ := hji20z hle_; rw [Int.one_mul] at h_; exact h_
         have hji20y : (wrap64 (1 * 2 ^ min t238.toNat 64)) = ji20 := (i64_w _).symm.trans hji20_
         have hji20x : t238 ≤ 64 → (wrap64 (1 * 2 ^ t238.toNat)) = ji20 := fun h_ => (i64_w _).symm.trans (hji20z h_)
         by_cases c21 : x7_1.length < 17592186044416
         ·rw [if_pos c21] at H; have LMc21 := Qx c21; clear c21
          obtain ⟨y249, hy249⟩ : ∃ y_ : List Int, y_ = (x7_1 ++ [Go.bits .and .i64 (rd l0 x30_1) (wrap64 ((ji20) - 1))]) := ⟨_, rfl⟩
          replace H : ((impl_Bits_set.f t243 x248001_1 (wrap64 ((shr .i64 (rd l0 x30_1) t238) + x30_1)) true).bind fun t252 => (impl_sparse.l0 k1 l0 a1 t238 y249 l0 (l0.length : Int) (wrap64 (x30_1 + 1)) t243 t252)) = some (r1, r2, r3, r4, r5, r6, r7) := by first | (rw [hy249]; with_reducible exact H) | (have H2_ := (Option.bind_some _ _).symm.trans H; rw [hy249]; with_reducible exact H2_) | (have H2_ := (Option.bind_some _ _).symm.trans H; with_reducible exact H2_) | with_reducible exact H | (rw [hy249]; exact H) | exact H
          have Ny249 := Qx hy249; clear hy249
          have c22b0 := eq_true (of_decide_eq_true as_ : 0 ≤ t238)
          obtain ⟨ji23, hji23⟩ : ∃ j_ : Int, (shr .i64 (rd l0 x30_1) t238) = j_ := ⟨_, rfl⟩
          replace H : ((impl_Bits_set.f t243 x248001_1 (wrap64 ((ji23) + x30_1)) true).bind fun t252 => (impl_sparse.l0 k1 l0 a1 t238 y249 l0 (l0.length : Int) (wrap64 (x30_1 + 1)) t243 t252)) = some (r1, r2, r3, r4, r5, r6, r7) := by first | (rw [hji23] at H; exact H) | (simp only [hji23] at H ⊢; exact H)
          have hji23_ : ((rd l0 x30_1) / 2 ^ min t238.toNat 64) = ji23 := hji23
          have hji23z : t238 ≤ 64 → ((rd l0 x30_1) / 2 ^ t238.toNat) = ji23 := shr_small hji23
          replace H := Option.bind_eq_some_iff.mp H; obtain ⟨t252, A240, H⟩ := H
          have A24 := Qx A240; clear A240; have H' := Qx H; clear H
          have p248 : 0 ≤ (x30_1 : Int) := of_decide_eq_true as_
          have q248 : x30_1 < (l0.length : Int) := of_decide_eq_true as_
          obtain ⟨ad248, e248, hx248_0⟩ := Kd.at_int HR0.out x30_1 p248 q248
          cases e248
          replace hx248_0 := (HB.out.cell (World.block_lt_of_cell? w _ hx248_0)).trans hx248_0
          replace p248 := eq_true p248; replace q248 := eq_true q248
          go_wp2_with (first | ((with_reducible refine gate_builtin (b := .append) (xs := #[.tmp 35, .tmp 41]) rfl ?_); at_builtin; refine Kd.R_append (Kd.int .i64) (w0 := w) w.heap.size rfl (.tmp 35) (.tmp 41) 24 3 (.int .i64 0) 8 rfl Try.underlying24 info3 rfl (by decide) (by omega) u7 x7_1 (Go.bits .and .i64 (rd l0 x30_1) (wrap64 ((ji20) - 1))) [.int .i64 (Go.bits .and .i64 (rd l0 x30_1) (wrap64 ((ji20) - 1)))] (fun k_ => some k_ ≠ (u248001 : Value).ownBlock) (fun _ => False) rfl rfl ?aP (fun _ hk => hk.elim) ?aF ?aO ?aB ?aS ?aL ?_; (case aP => exact rfl); (case aB => exact hB_); (case aF => exact (fun k_ hk => Kd.fresh' (Kd.R_lt (kR_ HO_248001)) k_ hk)); (case aO => exact (kR_ HO_7)); (case aS => exact (Qz hB_)); (case aL => have := LMc21.out; omega); intro v250 w25 ho hb hg hat; rw [← Ny249.out] at ho; have n0_ := Qx (Kd.R_after (ok := (fun _ => True)) (by (with_reducible repeat (first | apply Qra | apply Qrn | apply Qrd)); exact Qrm HO_248001.out (fun _ hk => ⟨trivial, hk⟩)) hg hat); have n1_ := Qx (blk_grown (kB_ BK237) hg (Kd.R_ne HO_7.out BK237.out (by decide))); have n2_ := Qx (blk_grown (kB_ BK247) hg (Kd.R_ne HO_7.out BK247.out (by decide))); have n3_ := Qx (hb); have n4_ := Qx (ho); clear HO_248001 BK237 BK247 HB HO_7; have HO_248001 := n0_; have BK237 := n1_; have BK247 := n2_; have HB := n3_; have HO251 := n4_; clear n0_ n1_ n2_ n3_ n4_ ho hb hg hat; obtain ⟨Ao26, co26, eo26⟩ := Kd.R_slice HO_248001.out; subst eo26) | ((with_reducible refine gate_callee (f := 35) rfl ?_); refine goesL_ (some 48) rfl rfl Try.func35 (by kernel_rfl) rfl #[.pointer (some ⟨gb247, 0, none⟩), .int .i64 (wrap64 ((ji23) + x30_1)), .bool true] rfl (by (try simp only [List.map_toArray, List.map_cons, List.map_nil]); first | done | (simp only [hji23]; rfl) | rfl | (simp only [List.length_drop, List.length_take]; rfl)) ?_; (with_reducible refine (impl_Bits_set.calls gb247 t243 (fun k_ => some k_ = (.slice Ao26 x248001_1.length co26 : Value).ownBlock) (.slice Ao26 x248001_1.length co26) x248001_1 (wrap64 ((ji23) + x30_1)) true t252 w _ ?side1 ?side2 ?side3 A24.out).mono ?_); (case side1 => exact hB_); (case side2 => exact Kd.R_tight rfl HO_248001.out); (case side3 => exact (kB_ BK247)); rintro e w27 ⟨rfl, hy0, hb, hkp⟩; refine ⟨_, rfl, ?_⟩; replace BK237 := Qx (blk_kept (kB_ BK237) hkp (fun hs_ => (fun e_ => (Kd.R_ne HO_248001.out BK237.out (by decide)) e_) hs_)); replace BK247 := Qx (blk_kept (kB_ BK247) hkp (fun hs_ => (fun e_ => (Kd.R_ne HO_248001.out BK247.out (by decide)) e_) hs_)); replace HO_248001 := Qx (Kd.R_reok rfl hy0 (fun k_ e_ => HO_248001.out.1 k_ e_)); replace HO251 := Qx (Qrm (ok' := fun k_ => some k_ ≠ (.slice Ao26 x248001_1.length co26 : Value).ownBlock) (Kd.R_keptB (HO251.out) hkp (fun k_ hk_ hs_ => (hk_) hs_)) (fun k_ hk_ => hk_.1)); replace HB := Qx (hb); (try clear hb); (try clear hkp); (try clear hy0)))
          go_roundg k1
          case measure => have := HK1.out; omega
          case rel => exact ⟨(y249), (wrap64 (x30_1 + 1)), (t252), (.slice Ao26 x248001_1.length co26), rg_, H', ⟨by have := HK1.out; omega⟩, ⟨kR_ HO251⟩, ⟨by (with_reducible repeat (first | apply Qra | apply Qrn | apply Qrd)); exact Qrm HO_248001.out (fun _ hk => hk.2)⟩, ⟨kB_ BK237⟩, ⟨kB_ BK247⟩, ⟨hB_⟩⟩
         ·rw [if_neg c21] at H
          exact absurd H (by simp)
        ·rw [if_neg c19] at H
         exact absurd H (by simp)
       ·rw [if_neg c18] at H
        exact absurd H (by simp)
      ·rw [if_neg c17] at H
       exact absurd H (by simp)
     ·rw [if_neg c16] at H
      have c16b0 : decide (x30_1 < (l0.length : Int)) = false := decide_eq_false c16
      clear c16; replace H := Option.bind_eq_some_iff.mp H; obtain ⟨⟨t253, t254⟩, A280, H⟩ := H
      have A28 := Qx A280; clear A280; simp only [Option.some.injEq, Prod.mk.injEq] at H; obtain ⟨rfl, rfl, rfl, rfl, rfl, rfl, rfl⟩ := H
      try go_wp2
      replace HO_7 := Qx (Qrd HO_7.out)
      replace HO_248001 := Qx (Qrd HO_248001.out)
      replace BK237 := Qx (Qw BK237.out)
      replace BK247 := Qx (Qw BK247.out)
      replace HB := Qx (below_drew1 HB.out)
      obtain ⟨Ao30, co30, eo30⟩ := Kd.R_slice HO_7.out
      (first | subst eo30 | (injection eo30 with f1_ f2_ f3_; have f4_ := f1_.symm; have f5_ := f3_.symm; clear f1_ f2_ f3_; subst f4_; subst f5_))
      refine start_ (n := 10) (S := fun w' => w'.cell? ⟨gb247, 0, none⟩ = some (.int .i64 t243) ∧ w'.cell? ⟨gb247, 1, none⟩ = some (u248001)) (ds := []) #[false, false, false, false, false, false, false, false, false, false] (by kernel_rfl) rfl rfl ⟨(Qc BK247.out 0).trans rfl, (Qc BK247.out 1).trans rfl⟩ (fun hHeld => ?_); refine with_tabW impl_sparse.tab9 impl_sparse.bits9 (fun HT_ HW_ => ?_)
      generalize wr.drew = w29 at HO_7 HO_248001 BK237 BK247 HB hHeld ⊢
      refine pr_ 0 50 10 1 ?_
      refine pr_ 1 51 10 3 ?_
      refine pr_ 2 52 10 7 ?_
      refine pr_ 3 53 10 15 ?_
      refine pr_ 4 54 10 31 ?_
      refine pr_ 5 55 10 63 ?_
      refine tq_ 7 57 10 191 HT_.out HW_.out (by kernel_rfl) hHeld ?_ rfl (by rintro w' ⟨s0, s1⟩; go_simp; with_reducible rfl)
      refine one_ (i := 6) (N := some 56) (bsA 10 255) rfl rfl (one_of HT_.out (by kernel_rfl)) (by decide) (fun K hK => ?_)
      refine goes_ Try.func36 (by kernel_rfl) rfl #[.slice Ao30 x7_1.length co30, .int .i64 t238] (by rfl) rfl rfl (by (try simp only [List.map_toArray, List.map_cons, List.map_nil]); first | done | rfl | (simp only [List.length_drop, List.length_take]; rfl)) ?_
      with_reducible refine (impl_fields.calls k1 _ _ x7_1 t238 t253 t254 _ ?side1 ?side2 A28.out).mono ?_
      (case side1 => exact kD_ HO_7)
      (case side2 => exact (Kd.R_reads' HO_7.out).2.1)
      rintro e w31 ⟨v255, rfl, ho0, hb⟩
      refine ⟨_, rfl, ?_⟩
      have HO256 := Qx (Kd.R_lower (Kd.R_new' (Kd.R_new' ho0 (Kd.R_lt (kR_ HO_7))) (Kd.R_lt (kR_ HO_248001))) (Qz hB_))
      replace HO_7 := Qx (Kd.R_elder' (kR_ HO_7) (Kd.R_base ho0) hb)
      replace HO_248001 := Qx (Kd.R_elder' (kR_ HO_248001) (Kd.R_base ho0) hb)
      replace BK237 := Qx (Qb (kB_ BK237) hb)
      replace BK247 := Qx (Qb (kB_ BK247) hb)
      replace HB := Qx (Qp hB_ hb)
      (try clear hb); (try clear hb2); (try clear hk); (try clear hi); (try clear ho0); obtain ⟨Ao32, co32, eo32⟩ := Kd.R_slice HO_248001.out
      (first | subst eo32 | (injection eo32 with f1_ f2_ f3_; have f4_ := f1_.symm; have f5_ := f3_.symm; clear f1_ f2_ f3_; subst f4_; subst f5_))
      obtain ⟨Ao33, co33, eo33⟩ := Kd.R_slice HO256.out
      (first | subst eo33 | (injection eo33 with f1_ f2_ f3_; have f4_ := f1_.symm; have f5_ := f3_.symm; clear f1_ f2_ f3_; subst f4_; subst f5_))
      refine hK.out _ _ ⟨(Qc BK247.out 0).trans rfl, (Qc BK247.out 1).trans rfl⟩ (fun hHeld => ?_)
      clear hK K
      refine norm_ (a' := ?_) ?_ ?_
      rotate_left
      ·show Act.put _ (some 56) _ = _
       simp only [Act.put, List.setIfInBounds_toArray, List.set_cons_zero, List.set_cons_succ, i64_w]
       rfl
      refine pr_ 8 58 10 511 ?_
      refine one_ (i := 9) (N := none) (bsA 10 1023) rfl rfl (one_of HT_.out (by kernel_rfl)) (by decide) (fun K hK => ?_)
      have hs34 : w31.cell? ⟨gb237, 0, none⟩ = some (.int .i64 0) := (Qc BK237.out 0).trans rfl
      have hfs34 := blk_frozen BK237.out 0; have hns34_1 := NB247_237.out; have hms34_1 := NB237_247.out
      have hs35 : w31.cell? ⟨gb237, 1, none⟩ = some (.int .i64 0) := (Qc BK237.out 1).trans rfl
      have hfs35 := blk_frozen BK237.out 1; have hns35_1 := NB247_237.out; have hms35_1 := NB237_247.out
      have hs36 : w31.cell? ⟨gb237, 2, none⟩ = some (.int .i64 0) := (Qc BK237.out 2).trans rfl
      have hfs36 := blk_frozen BK237.out 2; have hns36_1 := NB247_237.out; have hms36_1 := NB237_247.out
      have hs37 : w31.cell? ⟨gb237, 3, none⟩ = some (.int .i64 0) := (Qc BK237.out 3).trans rfl
      have hfs37 := blk_frozen BK237.out 3; have hns37_1 := NB247_237.out; have hms37_1 := NB237_247.out
      have hs38 : w31.cell? ⟨gb237, 4, none⟩ = some (.slice none 0 0) := (Qc BK237.out 4).trans rfl
      have hfs38 := blk_frozen BK237.out 4; have hns38_1 := NB247_237.out; have hms38_1 := NB237_247.out
      have hs39 : w31.cell? ⟨gb237, 5, none⟩ = some (.int .i64 0) := (Qc BK237.out 5).trans rfl
      have hfs39 := blk_frozen BK237.out 5; have hns39_1 := NB247_237.out; have hms39_1 := NB237_247.out
      have hs40 : w31.cell? ⟨gb237, 6, none⟩ = some (.slice none 0 0) := (Qc BK237.out 6).trans rfl
      have hfs40 := blk_frozen BK237.out 6; have hns40_1 := NB247_237.out; have hms40_1 := NB237_247.out
      refine skip_ (w1 := ?_) (by rfl) rfl ?_ ?_
      rotate_left
      ·go_simp
       rfl
      refine hK.out _ _ ⟨((cell_far (p := ⟨gb237, _, none⟩) NB247_237.out _).trans (((cell_far (p := ⟨gb237, _, none⟩) NB247_237.out _).trans (((cell_far (p := ⟨gb237, _, none⟩) NB247_237.out _).trans (((cell_far (p := ⟨gb237, _, none⟩) NB247_237.out _).trans (((cell_far (p := ⟨gb237, _, none⟩) NB247_237.out _).trans (((cell_far (p := ⟨gb237, _, none⟩) NB247_237.out _).trans (((cell_far (p := ⟨gb237, _, none⟩) NB247_237.out _).trans (hHeld.1)))))))))))))), ((cell_far (p := ⟨gb237, _, none⟩) NB247_237.out _).trans (((cell_far (p := ⟨gb237, _, none⟩) NB247_237.out _).trans (((cell_far (p := ⟨gb237, _, none⟩) NB247_237.out _).trans (((cell_far (p := ⟨gb237, _, none⟩) NB247_237.out _).trans (((cell_far (p := ⟨gb237, _, none⟩) NB247_237.out _).trans (((cell_far (p := ⟨gb237, _, none⟩) NB247_237.out _).trans (((cell_far (p := ⟨gb237, _, none⟩) NB247_237.out _).trans (hHeld.2))))))))))))))⟩ (fun hHeld => ?_)
      clear hK K
      refine done_ (done_of HT_.out (by kernel_rfl)) ?_
      try go_wp2
      refine bodyPost_ret (results_cell_row rfl _ _ gb237 30 #[.int .i64 (l0.length : Int), .int .i64 a1, .int .i64 t238, .int .i64 t253, .slice Ao33 t254.length co33, .int .i64 t243, .slice Ao32 x248001_1.length co32] (0, 0) _ rfl (by (with_reducible repeat (first | refine Qm ?_ _ | refine Qw ?_ | refine Qk ?_ _)); refine Qu (cs := #[.int .i64 (l0.length : Int), .int .i64 a1, .int .i64 t238, .int .i64 t253, .slice Ao33 t254.length co33, .int .i64 t243, .slice none 0 0]) ?_ 6 _ rfl; (with_reducible repeat (first | refine Qm ?_ _ | refine Qw ?_ | refine Qk ?_ _)); refine Qu (cs := #[.int .i64 (l0.length : Int), .int .i64 a1, .int .i64 t238, .int .i64 t253, .slice Ao33 t254.length co33, .int .i64 0, .slice none 0 0]) ?_ 5 _ rfl; (with_reducible repeat (first | refine Qm ?_ _ | refine Qw ?_ | refine Qk ?_ _)); refine Qu (cs := #[.int .i64 (l0.length : Int), .int .i64 a1, .int .i64 t238, .int .i64 t253, .slice none 0 0, .int .i64 0, .slice none 0 0]) ?_ 4 _ rfl; (with_reducible repeat (first | refine Qm ?_ _ | refine Qw ?_ | refine Qk ?_ _)); refine Qu (cs := #[.int .i64 (l0.length : Int), .int .i64 a1, .int .i64 t238, .int .i64 0, .slice none 0 0, .int .i64 0, .slice none 0 0]) ?_ 3 _ rfl; (with_reducible repeat (first | refine Qm ?_ _ | refine Qw ?_ | refine Qk ?_ _)); refine Qu (cs := #[.int .i64 (l0.length : Int), .int .i64 a1, .int .i64 0, .int .i64 0, .slice none 0 0, .int .i64 0, .slice none 0 0]) ?_ 2 _ rfl; (with_reducible repeat (first | refine Qm ?_ _ | refine Qw ?_ | refine Qk ?_ _)); refine Qu (cs := #[.int .i64 (l0.length : Int), .int .i64 0, .int .i64 0, .int .i64 0, .slice none 0 0, .int .i64 0, .slice none 0 0]) ?_ 1 _ rfl; (with_reducible repeat (first | refine Qm ?_ _ | refine Qw ?_ | refine Qk ?_ _)); refine Qu (cs := #[.int .i64 0, .int .i64 0, .int .i64 0, .int .i64 0, .slice none 0 0, .int .i64 0, .slice none 0 0]) ?_ 0 _ rfl; (with_reducible repeat (first | refine Qm ?_ _ | refine Qw ?_ | refine Qk ?_ _)); exact BK237.out) Try.underlying30 rfl (by kernel_rfl)) rfl ?_
      exact ⟨_, _, by first | rfl | (simp [errW_none, errW_some] <;> rfl) | (simp only [← hji5]; first | rfl | (simp [errW_none, errW_some] <;> rfl)) | (simp [*, errW_none, errW_some] <;> rfl), by (with_reducible repeat (first | apply Qra | apply Qrn | apply Qrd)); exact Qrm (farsQ7_g1b (Kd.R_types HO256.out BK237.out (by decide)) (fun _ hk => hk.2) (.int .i64 (l0.length : Int)) (.int .i64 a1) (.int .i64 t238) (.int .i64 t253) (.slice Ao33 t254.length co33) (.int .i64 t243) (.slice Ao32 x248001_1.length co32)) (fun _ hk => hk.1.2), by (with_reducible repeat (first | apply Qra | apply Qrn | apply Qrd)); exact Qrm (farsQ7_g1b (Kd.R_types HO_248001.out BK237.out (by decide)) (fun _ hk => hk.2) (.int .i64 (l0.length : Int)) (.int .i64 a1) (.int .i64 t238) (.int .i64 t253) (.slice Ao33 t254.length co33) (.int .i64 t243) (.slice Ao32 x248001_1.length co32)) (fun _ hk => hk.1.2), hB_⟩
  ·rw [if_neg c4] at H
   exact absurd H (by simp)
/-! ### impl_BuildSparse: function 6 -/
def impl_BuildSparse.f (k : Nat) (l0 : List Int) (a1 : Int) : Option (Int × Int × Int × Int × List Int × Int × List Int × Bool) := (impl_sortedOk.f k l0 a1).bind fun t258 => (if t258 = true then ((impl_sparse.f k l0 a1).bind fun bt259 => (some (bt259.1, bt259.2.1, bt259.2.2.1, bt259.2.2.2.1, bt259.2.2.2.2.1, bt259.2.2.2.2.2.1, bt259.2.2.2.2.2.2, true))) else (some (0, 0, 0, 0, ([] : List Int), 0, ([] : List Int), false)))
theorem impl_BuildSparse.mono : ∀ a0 a1 k, LeO (impl_BuildSparse.f k a0 a1) (impl_BuildSparse.f (k + 1) a0 a1) := by
  intro a0 a1 k
  unfold impl_BuildSparse.f
  repeat' first
      | (with_reducible exact impl_sortedOk.mono _ _ _)
      | (with_reducible exact impl_sparse.mono _ _ _)
      | (with_reducible exact LeO.refl _)
      | (with_reducible exact LeO.none _)
      | (with_reducible refine LeO.ite ?_ ?_)
      | (with_reducible refine LeO.bind ?_ (fun _ => ?_))
      | exact impl_sortedOk.mono _ _ _
      | exact impl_sparse.mono _ _ _
      | exact LeO.none _
      | refine LeO.ite ?_ ?_
      | refine LeO.bind ?_ (fun _ => ?_)
noncomputable def impl_BuildSparse.F (l0 : List Int) (a1 : Int) : Option (Int × Int × Int × Int × List Int × Int × List Int × Bool) := lim fun k => impl_BuildSparse.f k l0 a1
theorem impl_BuildSparse.F_sup (l0 : List Int) (a1 : Int) : Sup (fun k => impl_BuildSparse.f k l0 a1) (impl_BuildSparse.F l0 a1) := Sup.of_mono fun k => impl_BuildSparse.mono l0 a1 k
theorem impl_BuildSparse.F_eq (l0 : List Int) (a1 : Int) : impl_BuildSparse.F l0 a1 = (impl_sortedOk.F l0 a1).bind fun t258 => (if t258 = true then ((impl_sparse.F l0 a1).bind fun bt259 => (some (bt259.1, bt259.2.1, bt259.2.2.1, bt259.2.2.2.1, bt259.2.2.2.2.1, bt259.2.2.2.2.2.1, bt259.2.2.2.2.2.2, true))) else (some (0, 0, 0, 0, ([] : List Int), 0, ([] : List Int), false))) := by
  refine Sup.unique (impl_BuildSparse.F_sup l0 a1) (Sup.congr (g' := fun k => (impl_sortedOk.f k l0 a1).bind fun t258 => (if t258 = true then ((impl_sparse.f k l0 a1).bind fun bt259 => (some (bt259.1, bt259.2.1, bt259.2.2.1, bt259.2.2.2.1, bt259.2.2.2.2.1, bt259.2.2.2.2.2.1, bt259.2.2.2.2.2.2, true))) else (some (0, 0, 0, 0, ([] : List Int), 0, ([] : List Int), false)))) (fun k => by first | rfl | simp only [impl_BuildSparse.f]) ?_)
  repeat' first
    | (with_reducible exact impl_sortedOk.F_sup _ _)
    | (with_reducible exact impl_sparse.F_sup _ _)
    | (with_reducible refine Sup.ite ?_ ?_)
    | (with_reducible refine Sup.bind ?_ (fun _ => ?_))
    | (with_reducible exact Sup.const _)
    | exact impl_sortedOk.F_sup _ _
    | exact impl_sparse.F_sup _ _
    | exact Sup.const _
set_option maxHeartbeats 8000000 in
set_option maxRecDepth 100000 in
theorem impl_BuildSparse.calls (k : Nat) (A0 : Option Addr) (c0 : Nat) (l0 : List Int) (a1 : Int) (r1 : Int) (r2 : Int) (r3 : Int) (r4 : Int) (r5 : List Int) (r6 : Int) (r7 : List Int) (r8 : Bool) (w : World) (hr0 : Kd.C (Kd.int .i64) w A0 l0.length l0) (hc0 : l0.length ≤ c0) (h : impl_BuildSparse.f k l0 a1 = some (r1, r2, r3, r4, r5, r6, r7, r8)) :
    Calls Try.prog 6 #[.slice A0 l0.length c0, .int .i64 a1] w fun e w' => ∃ v4_ v6_ : Value, e = .returned (.tuple #[.agg #[.int .i64 r1, .int .i64 r2, .int .i64 r3, .int .i64 r4, v4_, .int .i64 r6, v6_], .bool r8]) ∧ Kd.R (Kd.int .i64) 3 w' w.heap.size (fun k_ => some k_ ≠ (v6_ : Value).ownBlock) v4_ r5 ∧ Kd.R (Kd.int .i64) 3 w' w.heap.size (fun k_ => some k_ ≠ (v4_ : Value).ownBlock) v6_ r7 ∧ Below w.heap.size w w' := by
  have hu30 := Try.underlying30; have HR0 := Qx hr0; have HC0 := Qx hc0; clear hr0 hc0
  have HB := Qx (Below.refl w.heap.size w)
  have H : ((impl_sortedOk.f k l0 a1).bind fun t258 => (if t258 = true then ((impl_sparse.f k l0 a1).bind fun bt259 => (some (bt259.1, bt259.2.1, bt259.2.2.1, bt259.2.2.2.1, bt259.2.2.2.2.1, bt259.2.2.2.2.2.1, bt259.2.2.2.2.2.2, true))) else (some (0, 0, 0, 0, ([] : List Int), 0, ([] : List Int), false)))) = some (r1, r2, r3, r4, r5, r6, r7, r8) := h
  clear h; replace H := Option.bind_eq_some_iff.mp H; obtain ⟨t258, A30, H⟩ := H
  have A3 := Qx A30; clear A30
  by_cases c4 : t258 = true
  ·subst c4
   have H1 : ((impl_sparse.f k l0 a1).bind fun bt259 => (some (bt259.1, bt259.2.1, bt259.2.2.1, bt259.2.2.2.1, bt259.2.2.2.2.1, bt259.2.2.2.2.2.1, bt259.2.2.2.2.2.2, true))) = some (r1, r2, r3, r4, r5, r6, r7, r8) := by rw [if_pos rfl] at H; exact H
   clear H; have H := H1; clear H1; replace H := Option.bind_eq_some_iff.mp H; obtain ⟨⟨t259, t260, t261, t262, t263, t266, t267⟩, A50, H⟩ := H
   have A5 := Qx A50; clear A50; simp only [Option.some.injEq, Prod.mk.injEq] at H; obtain ⟨rfl, rfl, rfl, rfl, rfl, rfl, rfl, rfl⟩ := H
   go_enter Try.func6, Try.ntmps6
   go_wp2_with (first | ((with_reducible refine gate_dst (N := 4) rfl ?_); refine bx_ 4 #[.int .i64 0, .int .i64 0, .int .i64 0, .int .i64 0, .slice none 0 0, .int .i64 0, .slice none 0 0] 30 ?_; intro gb257 hg w6 hbox hb; have BK257 := Qx (hbox); have GW257 := Qx ((ge_ hg)); have GE257 := Qx ((ge_ hg)); replace HB := Qx (Qp hB_ hb); clear hb hbox hg) | ((with_reducible refine gate_callee (f := 18) rfl ?_); refine gl_ 8 Try.func18 #[.slice A0 l0.length c0, .int .i64 a1] ?_; (with_reducible refine (impl_sortedOk.calls k _ _ l0 a1 true _ ?side1 ?side2 A3.out).mono ?_); (case side1 => exact kC_ HR0); (case side2 => exact HC0.out); rintro e w' ⟨rfl, ⟨nd, rfl⟩⟩; refine ⟨_, rfl, ?_⟩; (try (rw [drewN_self w6]; generalize hq_ : World.drewN w6 _ = w6; have n0_ : Aside0 (w6.heap[gb257]? = some (.cells #[.int .i64 0, .int .i64 0, .int .i64 0, .int .i64 0, .slice none 0 0, .int .i64 0, .slice none 0 0] 30 (0, 0))) := ⟨by rw [← hq_]; exact (kB_ BK257)⟩; have n1_ : Aside0 (Below w.heap.size w w6) := ⟨by rw [← hq_]; exact hB_⟩; clear BK257 HB hq_; have BK257 := n0_; have HB := n1_; clear n0_ n1_))) | ((with_reducible refine gate_callee (f := 19) rfl ?_); refine gl_ 13 Try.func19 #[.slice A0 l0.length c0, .int .i64 a1] ?_; (with_reducible refine (impl_sparse.calls k _ _ l0 a1 t259 t260 t261 t262 t263 t266 t267 _ ?side1 ?side2 A5.out).mono ?_); (case side1 => exact kC_ HR0); (case side2 => exact HC0.out); rintro e w7 ⟨v264, v268, rfl, ho0, ho1, hb⟩; refine ⟨_, rfl, ?_⟩; have HO265 := Qx (Kd.R_lower ho0 (Qz hB_)); have HO269 := Qx (Kd.R_lower ho1 (Qz hB_)); replace BK257 := Qx (Qb (kB_ BK257) hb); replace HB := Qx (Qp hB_ hb); (try clear hb); (try clear hb2); (try clear hk); (try clear hi); (try clear ho0); (try clear ho1); obtain ⟨hcz8_0, hcz8_1, hcz8_2, hcz8_3, hcz8_4, hcz8_5, hcz8_6, hfz8_0, hfz8_1, hfz8_2, hfz8_3, hfz8_4, hfz8_5, hfz8_6⟩ := cellsQ7_g1b (w := w7) BK257.out; obtain ⟨Ao9, co9, eo9⟩ := Kd.R_slice HO265.out; subst eo9; obtain ⟨Ao10, co10, eo10⟩ := Kd.R_slice HO269.out; subst eo10))
   refine bodyPost_ret (results_ct rfl _ _ gb257 30 #[.int .i64 t259, .int .i64 t260, .int .i64 t261, .int .i64 t262, .slice Ao9 t263.length co9, .int .i64 t266, .slice Ao10 t267.length co10] (0, 0) _ rfl (by (with_reducible repeat (first | refine Qm ?_ _ | refine Qw ?_ | refine Qk ?_ _)); refine Qu (cs := #[.int .i64 t259, .int .i64 t260, .int .i64 t261, .int .i64 t262, .slice Ao9 t263.length co9, .int .i64 t266, .slice none 0 0]) ?_ 6 _ rfl; (with_reducible repeat (first | refine Qm ?_ _ | refine Qw ?_ | refine Qk ?_ _)); refine Qu (cs := #[.int .i64 t259, .int .i64 t260, .int .i64 t261, .int .i64 t262, .slice Ao9 t263.length co9, .int .i64 0, .slice none 0 0]) ?_ 5 _ rfl; (with_reducible repeat (first | refine Qm ?_ _ | refine Qw ?_ | refine Qk ?_ _)); refine Qu (cs := #[.int .i64 t259, .int .i64 t260, .int .i64 t261, .int .i64 t262, .slice none 0 0, .int .i64 0, .slice none 0 0]) ?_ 4 _ rfl; (with_reducible repeat (first | refine Qm ?_ _ | refine Qw ?_ | refine Qk ?_ _)); refine Qu (cs := #[.int .i64 t259, .int .i64 t260, .int .i64 t261, .int .i64 0, .slice none 0 0, .int .i64 0, .slice none 0 0]) ?_ 3 _ rfl; (with_reducible repeat (first | refine Qm ?_ _ | refine Qw ?_ | refine Qk ?_ _)); refine Qu (cs := #[.int .i64 t259, .int .i64 t260, .int .i64 0, .int .i64 0, .slice none 0 0, .int .i64 0, .slice none 0 0]) ?_ 2 _ rfl; (with_reducible repeat (first | refine Qm ?_ _ | refine Qw ?_ | refine Qk ?_ _)); refine Qu (cs := #[.int .i64 t259, .int .i64 0, .int .i64 0, .int .i64 0, .slice none 0 0, .int .i64 0, .slice none 0 0]) ?_ 1 _ rfl; (with_reducible repeat (first | refine Qm ?_ _ | refine Qw ?_ | refine Qk ?_ _)); refine Qu (cs := #[.int .i64 0, .int .i64 0, .int .i64 0, .int .i64 0, .slice none 0 0, .int .i64 0, .slice none 0 0]) ?_ 0 _ rfl; (with_reducible repeat (first | refine Qm ?_ _ | refine Qw ?_ | refine Qk ?_ _)); exact BK257.out) Try.underlying30 rfl (by kernel_rfl)) rfl ?_
   exact ⟨_, _, rf_, by (with_reducible repeat (first | apply Qra | apply Qrn | apply Qrd)); exact Qrm (farsQ7_g1b (Kd.R_types HO265.out BK257.out (by decide)) (fun _ hk => hk.2) (.int .i64 t259) (.int .i64 t260) (.int .i64 t261) (.int .i64 t262) (.slice Ao9 t263.length co9) (.int .i64 t266) (.slice Ao10 t267.length co10)) (fun _ hk => hk.1), by (with_reducible repeat (first | apply Qra | apply Qrn | apply Qrd)); exact Qrm (farsQ7_g1b (Kd.R_types HO269.out BK257.out (by decide)) (fun _ hk => hk.2) (.int .i64 t259) (.int .i64 t260) (.int .i64 t261) (.int .i64 t262) (.slice Ao9 t263.length co9) (.int .i64 t266) (.slice Ao10 t267.length co10)) (fun _ hk => hk.1), hB_⟩
  ·replace c4 := Bool.eq_false_iff.mpr c4; subst c4
   have H1 : (some (0, 0, 0, 0, ([] : List Int), 0, ([] : List Int), false)) = some (r1, r2, r3, r4, r5, r6, r7, r8) := by rw [if_neg (show ¬ (false = true) by decide)] at H; exact H
   clear H; have H := H1; clear H1; simp only [Option.some.injEq, Prod.mk.injEq] at H; obtain ⟨rfl, rfl, rfl, rfl, rfl, rfl, rfl, rfl⟩ := H
   go_enter Try.func6, Try.ntmps6
   go_wp2_with (first | ((with_reducible refine gate_dst (N := 4) rfl ?_); refine bx_ 4 #[.int .i64 0, .int .i64 0, .int .i64 0, .int .i64 0, .slice none 0 0, .int .i64 0, .slice none 0 0] 30 ?_; intro gb257 hg w11 hbox hb; have BK257 := Qx (hbox); have GW257 := Qx ((ge_ hg)); have GE257 := Qx ((ge_ hg)); replace HB := Qx (Qp hB_ hb); clear hb hbox hg) | ((with_reducible refine gate_callee (f := 18) rfl ?_); refine gl_ 8 Try.func18 #[.slice A0 l0.length c0, .int .i64 a1] ?_; (with_reducible refine (impl_sortedOk.calls k _ _ l0 a1 false _ ?side1 ?side2 A3.out).mono ?_); (case side1 => exact kC_ HR0); (case side2 => exact HC0.out); rintro e w' ⟨rfl, ⟨nd, rfl⟩⟩; refine ⟨_, rfl, ?_⟩; (try (rw [drewN_self w11]; generalize hq_ : World.drewN w11 _ = w11; have n0_ : Aside0 (w11.heap[gb257]? = some (.cells #[.int .i64 0, .int .i64 0, .int .i64 0, .int .i64 0, .slice none 0 0, .int .i64 0, .slice none 0 0] 30 (0, 0))) := ⟨by rw [← hq_]; exact (kB_ BK257)⟩; have n1_ : Aside0 (Below w.heap.size w w11) := ⟨by rw [← hq_]; exact hB_⟩; clear BK257 HB hq_; have BK257 := n0_; have HB := n1_; clear n0_ n1_)); obtain ⟨hcz12_0, hcz12_1, hcz12_2, hcz12_3, hcz12_4, hcz12_5, hcz12_6, hfz12_0, hfz12_1, hfz12_2, hfz12_3, hfz12_4, hfz12_5, hfz12_6⟩ := cellsQ7_g1b (w := w11) BK257.out))
   refine bodyPost_ret (results_ct rfl _ _ gb257 30 #[.int .i64 0, .int .i64 0, .int .i64 0, .int .i64 0, .slice none 0 0, .int .i64 0, .slice none 0 0] (0, 0) _ rfl (by (with_reducible repeat (first | refine Qm ?_ _ | refine Qw ?_ | refine Qk ?_ _)); refine Qu (cs := #[.int .i64 0, .int .i64 0, .int .i64 0, .int .i64 0, .slice none 0 0, .int .i64 0, .slice none 0 0]) ?_ 6 _ rfl; (with_reducible repeat (first | refine Qm ?_ _ | refine Qw ?_ | refine Qk ?_ _)); refine Qu (cs := #[.int .i64 0, .int .i64 0, .int .i64 0, .int .i64 0, .slice none 0 0, .int .i64 0, .slice none 0 0]) ?_ 5 _ rfl; (with_reducible repeat (first | refine Qm ?_ _ | refine Qw ?_ | refine Qk ?_ _)); refine Qu (cs := #[.int .i64 0, .int .i64 0, .int .i64 0, .int .i64 0, .slice none 0 0, .int .i64 0, .slice none 0 0]) ?_ 4 _ rfl; (with_reducible repeat (first | refine Qm ?_ _ | refine Qw ?_ | refine Qk ?_ _)); refine Qu (cs := #[.int .i64 0, .int .i64 0, .int .i64 0, .int .i64 0, .slice none 0 0, .int .i64 0, .slice none 0 0]) ?_ 3 _ rfl; (with_reducible repeat (first | refine Qm ?_ _ | refine Qw ?_ | refine Qk ?_ _)); refine Qu (cs := #[.int .i64 0, .int .i64 0, .int .i64 0, .int .i64 0, .slice none 0 0, .int .i64 0, .slice none 0 0]) ?_ 2 _ rfl; (with_reducible repeat (first | refine Qm ?_ _ | refine Qw ?_ | refine Qk ?_ _)); refine Qu (cs := #[.int .i64 0, .int .i64 0, .int .i64 0, .int .i64 0, .slice none 0 0, .int .i64 0, .slice none 0 0]) ?_ 1 _ rfl; (with_reducible repeat (first | refine Qm ?_ _ | refine Qw ?_ | refine Qk ?_ _)); refine Qu (cs := #[.int .i64 0, .int .i64 0, .int .i64 0, .int .i64 0, .slice none 0 0, .int .i64 0, .slice none 0 0]) ?_ 0 _ rfl; (with_reducible repeat (first | refine Qm ?_ _ | refine Qw ?_ | refine Qk ?_ _)); exact BK257.out) Try.underlying30 rfl (by kernel_rfl)) rfl ?_
   exact ⟨_, _, rf_, by first | exact Kd.R_nil _ _ _ _ _ | exact Kd.N_nil _ _ _ _ _ | exact Kd.V_nil _ _ _ _ _ | exact Kd.Q_nil _ _ _ _ _ | exact Kd.S_nil _ _ _ _ _, by first | exact Kd.R_nil _ _ _ _ _ | exact Kd.N_nil _ _ _ _ _ | exact Kd.V_nil _ _ _ _ _ | exact Kd.Q_nil _ _ _ _ _ | exact Kd.S_nil _ _ _ _ _, hB_⟩
/-! ### spec_l1In: function 37 -/
def spec_l1In.f (a0 : Int) (a1 : Int) (a2 : Int) : Option (Bool) := if a0 ≥ a1 then (some (decide (a0 ≤ a2))) else (some false)
set_option maxHeartbeats 8000000 in
set_option maxRecDepth 100000 in
theorem spec_l1In.calls (a0 : Int) (a1 : Int) (a2 : Int) (r : Bool) (w : World) (h : spec_l1In.f a0 a1 a2 = some r) :
    Calls Try.prog 37 #[.int .i64 a0, .int .i64 a1, .int .i64 a2] w fun e w' => e = .returned (.bool r) ∧ Drawn0 w w' := by
  have H : (if a0 ≥ a1 then (some (decide (a0 ≤ a2))) else (some false)) = some r := h
  clear h
  by_cases c4 : a0 ≥ a1
  ·rw [if_pos c4] at H
   have c4b0 : decide (a1 ≤ a0) = true := decide_eq_true c4
   clear c4; obtain rfl := Option.some.inj H
   go_enter Try.func37, Try.ntmps37
   go_wp2
   go_ret
   exact ⟨rg_, by repeat (first | exact Drawn0.refl _ | apply Drawn0.step)⟩
  ·rw [if_neg c4] at H
   have c4b0 : decide (a1 ≤ a0) = false := decide_eq_false c4
   clear c4; obtain rfl := Option.some.inj H
   go_enter Try.func37, Try.ntmps37
   go_wp2
   go_ret
   exact ⟨rg_, by repeat (first | exact Drawn0.refl _ | apply Drawn0.step)⟩
/-! ### spec_spLimit: function 38 -/
def spec_spLimit.f (a0 : Int) : Option (Bool) := (spec_l1In.f a0 1 100000).bind fun t270 => (some t270)
set_option maxHeartbeats 8000000 in
set_option maxRecDepth 100000 in
theorem spec_spLimit.calls (a0 : Int) (r : Bool) (w : World) (h : spec_spLimit.f a0 = some r) :
    Calls Try.prog 38 #[.int .i64 a0] w fun e w' => e = .returned (.bool r) ∧ Drawn0 w w' := by
  have H : ((spec_l1In.f a0 1 100000).bind fun t270 => (some t270)) = some r := h
  clear h; replace H := Option.bind_eq_some_iff.mp H; obtain ⟨t270, A20, H⟩ := H
  have A2 := Qx A20; clear A20; obtain rfl := Option.some.inj H
  go_enter Try.func38, Try.ntmps38
  go_wp2_with (first | ((with_reducible refine gate_callee (f := 37) rfl ?_); refine gl_ 4 Try.func37 #[.int .i64 a0, .int .i64 1, .int .i64 100000] ?_; (with_reducible refine (spec_l1In.calls a0 1 100000 t270 _ A2.out).mono ?_); rintro e w' ⟨rfl, ⟨nd, rfl⟩⟩; refine ⟨_, rfl, ?_⟩))
  go_ret
  exact ⟨rg_, by repeat (first | exact Drawn0.refl _ | apply Drawn0.step)⟩
/-! ### spec_spSorted: function 20 -/
def spec_spSorted.l0 : Nat → List Int → Int → List Int → Int → Int → Option (Bool)
  | 0, _, _, _, _, _ => none
  | k + 1, x0, x1, x7, x8, x9 => if x9 < x8 then (if 0 ≤ x9 then (if x9 < (x7.length : Int) then ((spec_l1In.f (rd x7 x9) 0 (wrap64 (x1 - 1))).bind fun t272 => (if t272 = true then (if x9 > 0 then (if 0 ≤ (wrap64 (x9 - 1)) then (if (wrap64 (x9 - 1)) < (x0.length : Int) then (if (rd x0 (wrap64 (x9 - 1))) > (rd x7 x9) then (some false) else (spec_spSorted.l0 k x0 x1 x7 x8 (wrap64 (x9 + 1)))) else (none)) else (none)) else (spec_spSorted.l0 k x0 x1 x7 x8 (wrap64 (x9 + 1)))) else (some false))) else (none)) else (none)) else (if (x0.length : Int) ≤ 60 then ((spec_spLimit.f x1).bind fun t274 => (some t274)) else (some false))
def spec_spSorted.f (k : Nat) (l0 : List Int) (a1 : Int) : Option (Bool) := spec_spSorted.l0 k l0 a1 l0 (l0.length : Int) 0
theorem spec_spSorted.mono_l : ∀ k, (∀ y0 y1 y2 y3 y4, LeO (spec_spSorted.l0 k y0 y1 y2 y3 y4) (spec_spSorted.l0 (k + 1) y0 y1 y2 y3 y4))
  | 0 => fun _ _ _ _ _ r h => by simp [spec_spSorted.l0] at h
  | k + 1 => by
    have ih0 := spec_spSorted.mono_l k
    · intro y0 y1 y2 y3 y4
      unfold spec_spSorted.l0
      repeat' first
      | (with_reducible exact ih0 _ _ _ _ _)
      | (with_reducible exact LeO.refl _)
      | (with_reducible exact LeO.none _)
      | (with_reducible refine LeO.ite ?_ ?_)
      | (with_reducible refine LeO.bind ?_ (fun _ => ?_))
      | exact ih0 _ _ _ _ _
      | exact LeO.none _
      | refine LeO.ite ?_ ?_
      | refine LeO.bind ?_ (fun _ => ?_)
theorem spec_spSorted.mono : ∀ a0 a1 k, LeO (spec_spSorted.f k a0 a1) (spec_spSorted.f (k + 1) a0 a1) := by
  intro a0 a1 k
  have ih0 := spec_spSorted.mono_l k
  unfold spec_spSorted.f
  repeat' first
      | (with_reducible exact ih0 _ _ _ _ _)
      | (with_reducible exact LeO.refl _)
      | (with_reducible exact LeO.none _)
      | (with_reducible refine LeO.ite ?_ ?_)
      | (with_reducible refine LeO.bind ?_ (fun _ => ?_))
      | exact ih0 _ _ _ _ _
      | exact LeO.none _
      | refine LeO.ite ?_ ?_
      | refine LeO.bind ?_ (fun _ => ?_)
noncomputable def spec_spSorted.L0 (y0 : List Int) (y1 : Int) (y2 : List Int) (y3 : Int) (y4 : Int) : Option (Bool) := lim fun k => spec_spSorted.l0 k y0 y1 y2 y3 y4
theorem spec_spSorted.L0_sup (y0 : List Int) (y1 : Int) (y2 : List Int) (y3 : Int) (y4 : Int) : Sup (fun k => spec_spSorted.l0 k y0 y1 y2 y3 y4) (spec_spSorted.L0 y0 y1 y2 y3 y4) := Sup.of_mono fun k => spec_spSorted.mono_l k y0 y1 y2 y3 y4
noncomputable def spec_spSorted.F (l0 : List Int) (a1 : Int) : Option (Bool) := lim fun k => spec_spSorted.f k l0 a1
theorem spec_spSorted.F_sup (l0 : List Int) (a1 : Int) : Sup (fun k => spec_spSorted.f k l0 a1) (spec_spSorted.F l0 a1) := Sup.of_mono fun k => spec_spSorted.mono l0 a1 k
theorem spec_spSorted.L0_eq (x0 : List Int) (x1 : Int) (x7 : List Int) (x8 : Int) (x9 : Int) : spec_spSorted.L0 x0 x1 x7 x8 x9 = if x9 < x8 then (if 0 ≤ x9 then (if x9 < (x7.length : Int) then ((spec_l1In.f (rd x7 x9) 0 (wrap64 (x1 - 1))).bind fun t272 => (if t272 = true then (if x9 > 0 then (if 0 ≤ (wrap64 (x9 - 1)) then (if (wrap64 (x9 - 1)) < (x0.length : Int) then (if (rd x0 (wrap64 (x9 - 1))) > (rd x7 x9) then (some false) else (spec_spSorted.L0 x0 x1 x7 x8 (wrap64 (x9 + 1)))) else (none)) else (none)) else (spec_spSorted.L0 x0 x1 x7 x8 (wrap64 (x9 + 1)))) else (some false))) else (none)) else (none)) else (if (x0.length : Int) ≤ 60 then ((spec_spLimit.f x1).bind fun t274 => (some t274)) else (some false)) := by
  refine Sup.unique (spec_spSorted.L0_sup x0 x1 x7 x8 x9) (Sup.shift (fun k => spec_spSorted.mono_l k x0 x1 x7 x8 x9) (Sup.congr (g' := fun k => if x9 < x8 then (if 0 ≤ x9 then (if x9 < (x7.length : Int) then ((spec_l1In.f (rd x7 x9) 0 (wrap64 (x1 - 1))).bind fun t272 => (if t272 = true then (if x9 > 0 then (if 0 ≤ (wrap64 (x9 - 1)) then (if (wrap64 (x9 - 1)) < (x0.length : Int) then (if (rd x0 (wrap64 (x9 - 1))) > (rd x7 x9) then (some false) else (spec_spSorted.l0 k x0 x1 x7 x8 (wrap64 (x9 + 1)))) else (none)) else (none)) else (spec_spSorted.l0 k x0 x1 x7 x8 (wrap64 (x9 + 1)))) else (some false))) else (none)) else (none)) else (if (x0.length : Int) ≤ 60 then ((spec_spLimit.f x1).bind fun t274 => (some t274)) else (some false))) (fun k => by first | rfl | simp only [spec_spSorted.l0]) ?_))
  repeat' first
    | (with_reducible exact spec_spSorted.L0_sup _ _ _ _ _)
    | (with_reducible refine Sup.ite ?_ ?_)
    | (with_reducible refine Sup.bind ?_ (fun _ => ?_))
    | (with_reducible exact Sup.const _)
    | exact spec_spSorted.L0_sup _ _ _ _ _
    | exact Sup.const _
theorem spec_spSorted.F_eq (l0 : List Int) (a1 : Int) : spec_spSorted.F l0 a1 = spec_spSorted.L0 l0 a1 l0 (l0.length : Int) 0 := by
  refine Sup.unique (spec_spSorted.F_sup l0 a1) (Sup.congr (g' := fun k => spec_spSorted.l0 k l0 a1 l0 (l0.length : Int) 0) (fun k => by first | rfl | simp only [spec_spSorted.f]) ?_)
  repeat' first
    | (with_reducible exact spec_spSorted.L0_sup _ _ _ _ _)
    | (with_reducible refine Sup.ite ?_ ?_)
    | (with_reducible refine Sup.bind ?_ (fun _ => ?_))
    | (with_reducible exact Sup.const _)
    | exact spec_spSorted.L0_sup _ _ _ _ _
    | exact Sup.const _
set_option maxHeartbeats 8000000 in
set_option maxRecDepth 100000 in
theorem spec_spSorted.calls (k : Nat) (A0 : Option Addr) (c0 : Nat) (l0 : List Int) (a1 : Int) (r : Bool) (w : World) (hr0 : Kd.C (Kd.int .i64) w A0 l0.length l0) (hc0 : l0.length ≤ c0) (h : spec_spSorted.f k l0 a1 = some r) :
    Calls Try.prog 20 #[.slice A0 l0.length c0, .int .i64 a1] w fun e w' => e = .returned (.bool r) ∧ Drawn0 w w' := by
  have HR0 := Qx hr0; have HC0 := Qx hc0; clear hr0 hc0
  have H : (spec_spSorted.l0 k l0 a1 l0 (l0.length : Int) 0) = some r := h
  clear h; have H' := Qx H; clear H
  go_enter Try.func20, Try.ntmps20
  go_wp2
  go_loopg [9] k (fun kq v9 w' => ∃ (x9_1 : Int), v9 = .int .i64 x9_1 ∧ Aside0 (spec_spSorted.l0 kq l0 a1 l0 (l0.length : Int) x9_1 = some r) ∧ Aside0 (kq ≤ k) ∧ Drawn0 w w')
  case atStart => exact ⟨(0), rg_, H', ⟨Nat.le_refl _⟩, by repeat (first | exact Drawn0.refl _ | apply Drawn0.step)⟩
  case round =>
   clear H'
   try clear c2
   try clear p2
   obtain ⟨x9_1, rfl, HA, HK1, ⟨m1, rfl⟩⟩ := hrel
   cases gk with
   | zero => exact absurd HA.out (by simp [spec_spSorted.l0])
   | succ k1 =>
    have H := HA.out; clear HA; simp only [spec_spSorted.l0] at H
    by_cases c3 : x9_1 < (l0.length : Int)
    ·rw [if_pos c3] at H
     have c3b0 : decide (x9_1 < (l0.length : Int)) = true := decide_eq_true c3
     clear c3
     by_cases c4 : 0 ≤ x9_1
     ·rw [if_pos c4] at H
      have c4b0 : decide (0 ≤ x9_1) = true := decide_eq_true c4
      clear c4
      by_cases c5 : x9_1 < (l0.length : Int)
      ·rw [if_pos c5] at H
       have c5b0 : decide (x9_1 < (l0.length : Int)) = true := decide_eq_true c5
       clear c5; replace H := Option.bind_eq_some_iff.mp H; obtain ⟨t272, A60, H⟩ := H
       have A6 := Qx A60; clear A60
       by_cases c7 : t272 = true
       ·subst c7
        have H1 : (if x9_1 > 0 then (if 0 ≤ (wrap64 (x9_1 - 1)) then (if (wrap64 (x9_1 - 1)) < (l0.length : Int) then (if (rd l0 (wrap64 (x9_1 - 1))) > (rd l0 x9_1) then (some false) else (spec_spSorted.l0 k1 l0 a1 l0 (l0.length : Int) (wrap64 (x9_1 + 1)))) else (none)) else (none)) else (spec_spSorted.l0 k1 l0 a1 l0 (l0.length : Int) (wrap64 (x9_1 + 1)))) = some r := by rw [if_pos rfl] at H; exact H
        clear H; have H := H1; clear H1
        by_cases c8 : x9_1 > 0
        ·rw [if_pos c8] at H
         have c8b0 : decide (0 < x9_1) = true := decide_eq_true c8
         clear c8
         obtain ⟨ji9, hji9⟩ : ∃ j_ : Int, (wrap64 (x9_1 - 1)) = j_ := ⟨_, rfl⟩
         replace H : (if 0 ≤ (ji9) then (if (ji9) < (l0.length : Int) then (if (rd l0 (ji9)) > (rd l0 x9_1) then (some false) else (spec_spSorted.l0 k1 l0 a1 l0 (l0.length : Int) (wrap64 (x9_1 + 1)))) else (none)) else (none)) = some r := by first | (rw [hji9] at H; exact H) | (simp only [hji9] at H ⊢; exact H)
         (try rw [hji9] at A6)
         have hji9w : (IntKind.i64.wrap (x9_1 - 1)) = ji9 := (i64_w _).trans hji9
         by_cases c10 : 0 ≤ (ji9)
         ·rw [if_pos c10] at H
          have c10b0 : decide (0 ≤ (ji9)) = true := decide_eq_true c10
          clear c10
          by_cases c11 : (ji9) < (l0.length : Int)
          ·rw [if_pos c11] at H
           have c11b0 : decide ((ji9) < (l0.length : Int)) = true := decide_eq_true c11
           clear c11
           by_cases c12 : (rd l0 (ji9)) > (rd l0 x9_1)
           ·rw [if_pos c12] at H
            have c12b0 : decide ((rd l0 x9_1) < (rd l0 (ji9))) = true := decide_eq_true c12
            clear c12; obtain rfl := Option.some.inj H
            have p271 : 0 ≤ (x9_1 : Int) := of_decide_eq_true as_
            have q271 : x9_1 < (l0.length : Int) := of_decide_eq_true as_
            obtain ⟨ad271, e271, hx271_0⟩ := Kd.at_int HR0.out x9_1 p271 q271
            cases e271
            replace p271 := eq_true p271; replace q271 := eq_true q271
            go_wp2_with (first | ((with_reducible refine gate_callee (f := 37) rfl ?_); refine gl_ 17 Try.func37 #[.int .i64 (rd l0 x9_1), .int .i64 0, .int .i64 (wrap64 (a1 - 1))] ?_; (with_reducible refine (spec_l1In.calls (rd l0 x9_1) 0 (wrap64 (a1 - 1)) true _ A6.out).mono ?_); rintro e w' ⟨rfl, ⟨nd, rfl⟩⟩; refine ⟨_, rfl, ?_⟩; have p273 : 0 ≤ ((ji9) : Int) := of_decide_eq_true as_; have q273 : (ji9) < (l0.length : Int) := of_decide_eq_true as_; obtain ⟨ad273, e273, hx273_0⟩ := Kd.at_int HR0.out (ji9) p273 q273; obtain rfl : ad271 = ad273 := (by injection e273); replace p273 := eq_true p273; replace q273 := eq_true q273))
            go_ret
            exact ⟨by first | rfl | (simp; done) | (simp only [← hji9] <;> (first | rfl | simp)) | (simp [*]; done), by repeat (first | exact Drawn0.refl _ | apply Drawn0.step)⟩
           ·rw [if_neg c12] at H
            have c12b0 : decide ((rd l0 x9_1) < (rd l0 (ji9))) = false := decide_eq_false c12
            clear c12; have H' := Qx H; clear H
            have p271 : 0 ≤ (x9_1 : Int) := of_decide_eq_true as_
            have q271 : x9_1 < (l0.length : Int) := of_decide_eq_true as_
            obtain ⟨ad271, e271, hx271_0⟩ := Kd.at_int HR0.out x9_1 p271 q271
            cases e271
            replace p271 := eq_true p271; replace q271 := eq_true q271
            go_wp2_with (first | ((with_reducible refine gate_callee (f := 37) rfl ?_); refine gl_ 17 Try.func37 #[.int .i64 (rd l0 x9_1), .int .i64 0, .int .i64 (wrap64 (a1 - 1))] ?_; (with_reducible refine (spec_l1In.calls (rd l0 x9_1) 0 (wrap64 (a1 - 1)) true _ A6.out).mono ?_); rintro e w' ⟨rfl, ⟨nd, rfl⟩⟩; refine ⟨_, rfl, ?_⟩; have p273 : 0 ≤ ((ji9) : Int) := of_decide_eq_true as_; have q273 : (ji9) < (l0.length : Int) := of_decide_eq_true as_; obtain ⟨ad273, e273, hx273_0⟩ := Kd.at_int HR0.out (ji9) p273 q273; obtain rfl : ad271 = ad273 := (by injection e273); replace p273 := eq_true p273; replace q273 := eq_true q273))
            go_roundg k1
            case measure => have := HK1.out; omega
            case rel => exact ⟨(wrap64 (x9_1 + 1)), rg_, H', ⟨by have := HK1.out; omega⟩, by repeat (first | exact Drawn0.refl _ | apply Drawn0.step)⟩
          ·rw [if_neg c11] at H
           exact absurd H (by simp)
         ·rw [if_neg c10] at H
          exact absurd H (by simp)
        ·rw [if_neg c8] at H
         have c8b0 : decide (0 < x9_1) = false := decide_eq_false c8
         clear c8; have H' := Qx H; clear H
         have p271 : 0 ≤ (x9_1 : Int) := of_decide_eq_true as_
         have q271 : x9_1 < (l0.length : Int) := of_decide_eq_true as_
         obtain ⟨ad271, e271, hx271_0⟩ := Kd.at_int HR0.out x9_1 p271 q271
         cases e271
         replace p271 := eq_true p271; replace q271 := eq_true q271
         go_wp2_with (first | ((with_reducible refine gate_callee (f := 37) rfl ?_); refine gl_ 17 Try.func37 #[.int .i64 (rd l0 x9_1), .int .i64 0, .int .i64 (wrap64 (a1 - 1))] ?_; (with_reducible refine (spec_l1In.calls (rd l0 x9_1) 0 (wrap64 (a1 - 1)) true _ A6.out).mono ?_); rintro e w' ⟨rfl, ⟨nd, rfl⟩⟩; refine ⟨_, rfl, ?_⟩))
         go_roundg k1
         case measure => have := HK1.out; omega
         case rel => exact ⟨(wrap64 (x9_1 + 1)), rg_, H', ⟨by have := HK1.out; omega⟩, by repeat (first | exact Drawn0.refl _ | apply Drawn0.step)⟩
       ·replace c7 := Bool.eq_false_iff.mpr c7; subst c7
        have H1 : (some false) = some r := by rw [if_neg (show ¬ (false = true) by decide)] at H; exact H
        clear H; have H := H1; clear H1; obtain rfl := Option.some.inj H
        have p271 : 0 ≤ (x9_1 : Int) := of_decide_eq_true as_
        have q271 : x9_1 < (l0.length : Int) := of_decide_eq_true as_
        obtain ⟨ad271, e271, hx271_0⟩ := Kd.at_int HR0.out x9_1 p271 q271
        cases e271
        replace p271 := eq_true p271; replace q271 := eq_true q271
        go_wp2_with (first | ((with_reducible refine gate_callee (f := 37) rfl ?_); refine gl_ 17 Try.func37 #[.int .i64 (rd l0 x9_1), .int .i64 0, .int .i64 (wrap64 (a1 - 1))] ?_; (with_reducible refine (spec_l1In.calls (rd l0 x9_1) 0 (wrap64 (a1 - 1)) false _ A6.out).mono ?_); rintro e w' ⟨rfl, ⟨nd, rfl⟩⟩; refine ⟨_, rfl, ?_⟩))
        go_ret
        exact ⟨rg_, by repeat (first | exact Drawn0.refl _ | apply Drawn0.step)⟩
      ·rw [if_neg c5] at H
       exact absurd H (by simp)
     ·rw [if_neg c4] at H
      exact absurd H (by simp)
    ·rw [if_neg c3] at H
     have c3b0 : decide (x9_1 < (l0.length : Int)) = false := decide_eq_false c3
     clear c3
     by_cases c13 : (l0.length : Int) ≤ 60
     ·rw [if_pos c13] at H
      have c13b0 : decide ((l0.length : Int) ≤ 60) = true := decide_eq_true c13
      have c13b1 : decide (l0.length ≤ 60) = true := decide_eq_true (by omega)
      clear c13; replace H := Option.bind_eq_some_iff.mp H; obtain ⟨t274, A140, H⟩ := H
      have A14 := Qx A140; clear A140; obtain rfl := Option.some.inj H
      go_wp2_with (first | (go_at_call 38; (with_reducible refine (spec_spLimit.calls a1 t274 _ A14.out).mono ?_); rintro e w' ⟨rfl, ⟨nd, rfl⟩⟩))
      go_ret
      exact ⟨rg_, by repeat (first | exact Drawn0.refl _ | apply Drawn0.step)⟩
     ·rw [if_neg c13] at H
      have c13b0 : decide ((l0.length : Int) ≤ 60) = false := decide_eq_false c13
      have c13b1 : decide (l0.length ≤ 60) = false := decide_eq_false (by omega)
      clear c13; obtain rfl := Option.some.inj H
      go_wp2
      go_ret
      exact ⟨rg_, by repeat (first | exact Drawn0.refl _ | apply Drawn0.step)⟩
/-! ### spec_spWidth: function 39 -/
def spec_spWidth.l0 : Nat → Int → Int → Int → Option (Int)
  | 0, _, _, _ => none
  | k + 1, x0, x1, x5 => (spec_l1Most.f x0 1).bind fun t275 => (if 0 ≤ (wrap64 (x5 + 1)) then (if (shl .i64 t275 (wrap64 (x5 + 1))) ≤ x1 then (spec_spWidth.l0 k x0 x1 (wrap64 (x5 + 1))) else (some x5)) else (none))
def spec_spWidth.f (k : Nat) (a0 : Int) (a1 : Int) : Option (Int) := spec_spWidth.l0 k a0 a1 0
theorem spec_spWidth.mono_l : ∀ k, (∀ y0 y1 y2, LeO (spec_spWidth.l0 k y0 y1 y2) (spec_spWidth.l0 (k + 1) y0 y1 y2))
  | 0 => fun _ _ _ r h => by simp [spec_spWidth.l0] at h
  | k + 1 => by
    have ih0 := spec_spWidth.mono_l k
    · intro y0 y1 y2
      unfold spec_spWidth.l0
      repeat' first
      | (with_reducible exact ih0 _ _ _)
      | (with_reducible exact LeO.refl _)
      | (with_reducible exact LeO.none _)
      | (with_reducible refine LeO.ite ?_ ?_)
      | (with_reducible refine LeO.bind ?_ (fun _ => ?_))
      | exact ih0 _ _ _
      | exact LeO.none _
      | refine LeO.ite ?_ ?_
      | refine LeO.bind ?_ (fun _ => ?_)
theorem spec_spWidth.mono : ∀ a0 a1 k, LeO (spec_spWidth.f k a0 a1) (spec_spWidth.f (k + 1) a0 a1) := by
  intro a0 a1 k
  have ih0 := spec_spWidth.mono_l k
  unfold spec_spWidth.f
  repeat' first
      | (with_reducible exact ih0 _ _ _)
      | (with_reducible exact LeO.refl _)
      | (with_reducible exact LeO.none _)
      | (with_reducible refine LeO.ite ?_ ?_)
      | (with_reducible refine LeO.bind ?_ (fun _ => ?_))
      | exact ih0 _ _ _
      | exact LeO.none _
      | refine LeO.ite ?_ ?_
      | refine LeO.bind ?_ (fun _ => ?_)
noncomputable def spec_spWidth.L0 (y0 : Int) (y1 : Int) (y2 : Int) : Option (Int) := lim fun k => spec_spWidth.l0 k y0 y1 y2
theorem spec_spWidth.L0_sup (y0 : Int) (y1 : Int) (y2 : Int) : Sup (fun k => spec_spWidth.l0 k y0 y1 y2) (spec_spWidth.L0 y0 y1 y2) := Sup.of_mono fun k => spec_spWidth.mono_l k y0 y1 y2
noncomputable def spec_spWidth.F (a0 : Int) (a1 : Int) : Option (Int) := lim fun k => spec_spWidth.f k a0 a1
theorem spec_spWidth.F_sup (a0 : Int) (a1 : Int) : Sup (fun k => spec_spWidth.f k a0 a1) (spec_spWidth.F a0 a1) := Sup.of_mono fun k => spec_spWidth.mono a0 a1 k
theorem spec_spWidth.L0_eq (x0 : Int) (x1 : Int) (x5 : Int) : spec_spWidth.L0 x0 x1 x5 = (spec_l1Most.f x0 1).bind fun t275 => (if 0 ≤ (wrap64 (x5 + 1)) then (if (shl .i64 t275 (wrap64 (x5 + 1))) ≤ x1 then (spec_spWidth.L0 x0 x1 (wrap64 (x5 + 1))) else (some x5)) else (none)) := by
  refine Sup.unique (spec_spWidth.L0_sup x0 x1 x5) (Sup.shift (fun k => spec_spWidth.mono_l k x0 x1 x5) (Sup.congr (g' := fun k => (spec_l1Most.f x0 1).bind fun t275 => (if 0 ≤ (wrap64 (x5 + 1)) then (if (shl .i64 t275 (wrap64 (x5 + 1))) ≤ x1 then (spec_spWidth.l0 k x0 x1 (wrap64 (x5 + 1))) else (some x5)) else (none))) (fun k => by first | rfl | simp only [spec_spWidth.l0]) ?_))
  repeat' first
    | (with_reducible exact spec_spWidth.L0_sup _ _ _)
    | (with_reducible refine Sup.ite ?_ ?_)
    | (with_reducible refine Sup.bind ?_ (fun _ => ?_))
    | (with_reducible exact Sup.const _)
    | exact spec_spWidth.L0_sup _ _ _
    | exact Sup.const _
theorem spec_spWidth.F_eq (a0 : Int) (a1 : Int) : spec_spWidth.F a0 a1 = spec_spWidth.L0 a0 a1 0 := by
  refine Sup.unique (spec_spWidth.F_sup a0 a1) (Sup.congr (g' := fun k => spec_spWidth.l0 k a0 a1 0) (fun k => by first | rfl | simp only [spec_spWidth.f]) ?_)
  repeat' first
    | (with_reducible exact spec_spWidth.L0_sup _ _ _)
    | (with_reducible refine Sup.ite ?_ ?_)
    | (with_reducible refine Sup.bind ?_ (fun _ => ?_))
    | (with_reducible exact Sup.const _)
    | exact spec_spWidth.L0_sup _ _ _
    | exact Sup.const _
set_option maxHeartbeats 8000000 in
set_option maxRecDepth 100000 in
theorem spec_spWidth.calls (k : Nat) (a0 : Int) (a1 : Int) (r : Int) (w : World) (h : spec_spWidth.f k a0 a1 = some r) :
    Calls Try.prog 39 #[.int .i64 a0, .int .i64 a1] w fun e w' => e = .returned (.int .i64 r) ∧ Drawn0 w w' := by
  have H : (spec_spWidth.l0 k a0 a1 0) = some r := h
  clear h; have H' := Qx H; clear H
  go_enter Try.func39, Try.ntmps39
  go_wp2
  go_loopg [5] k (fun kq v5 w' => ∃ (x5_1 : Int), v5 = .int .i64 x5_1 ∧ Aside0 (spec_spWidth.l0 kq a0 a1 x5_1 = some r) ∧ Aside0 (kq ≤ k) ∧ Drawn0 w w')
  case atStart => exact ⟨(0), rg_, H', ⟨Nat.le_refl _⟩, by repeat (first | exact Drawn0.refl _ | apply Drawn0.step)⟩
  case round =>
   clear H'
   try clear p2
   obtain ⟨x5_1, rfl, HA, HK1, ⟨m1, rfl⟩⟩ := hrel
   cases gk with
   | zero => exact absurd HA.out (by simp [spec_spWidth.l0])
   | succ k1 =>
    have H := HA.out; clear HA; simp only [spec_spWidth.l0] at H; replace H := Option.bind_eq_some_iff.mp H; obtain ⟨t275, A30, H⟩ := H
    have A3 := Qx A30; clear A30
    obtain ⟨ji4, hji4⟩ : ∃ j_ : Int, (wrap64 (x5_1 + 1)) = j_ := ⟨_, rfl⟩
    replace H : (if 0 ≤ (ji4) then (if (shl .i64 t275 (ji4)) ≤ a1 then (spec_spWidth.l0 k1 a0 a1 ji4) else (some x5_1)) else (none)) = some r := by first | (rw [hji4] at H; exact H) | (simp only [hji4] at H ⊢; exact H)
    (try rw [hji4] at A3)
    have hji4w : (IntKind.i64.wrap (x5_1 + 1)) = ji4 := (i64_w _).trans hji4
    by_cases c5 : 0 ≤ (ji4)
    ·rw [if_pos c5] at H; have c5b0 := eq_true c5
     have c5b1 : decide (0 ≤ (ji4)) = true := decide_eq_true c5
     clear c5
     obtain ⟨ji6, hji6⟩ : ∃ j_ : Int, (shl .i64 t275 (ji4)) = j_ := ⟨_, rfl⟩
     replace H : (if (ji6) ≤ a1 then (spec_spWidth.l0 k1 a0 a1 ji4) else (some x5_1)) = some r := by first | (rw [hji6] at H; exact H) | (simp only [hji6] at H ⊢; exact H)
     (try rw [hji6] at A3)
     have hji6_ : (IntKind.i64.wrap (t275 * 2 ^ min (ji4).toNat 64)) = ji6 := hji6
     have hji6z : (ji4) ≤ 64 → (IntKind.i64.wrap (t275 * 2 ^ (ji4).toNat)) = ji6 := shl_small hji6
     have hji6y : (wrap64 (t275 * 2 ^ min (ji4).toNat 64)) = ji6 := (i64_w _).symm.trans hji6_
     have hji6x : (ji4) ≤ 64 → (wrap64 (t275 * 2 ^ (ji4).toNat)) = ji6 := fun h_ => (i64_w _).symm.trans (hji6z h_)
     by_cases c7 : (ji6) ≤ a1
     ·rw [if_pos c7] at H
      have c7b0 : decide ((ji6) ≤ a1) = true := decide_eq_true c7
      clear c7; have H' := Qx H; clear H
      go_wp2_with (first | ((with_reducible refine gate_callee (f := 30) rfl ?_); refine gl_ 7 Try.func30 #[.int .i64 a0, .int .i64 1] ?_; (with_reducible refine (spec_l1Most.calls a0 1 t275 _ A3.out).mono ?_); rintro e w' ⟨rfl, ⟨nd, rfl⟩⟩; refine ⟨_, rfl, ?_⟩))
      go_roundg k1
      case measure => have := HK1.out; omega
      case rel => exact ⟨(ji4), (by first | rfl | (simp; done) | (simp only [← hji4] <;> (first | rfl | simp)) | (simp [*]; done)), H', ⟨by have := HK1.out; omega⟩, by repeat (first | exact Drawn0.refl _ | apply Drawn0.step)⟩
     ·rw [if_neg c7] at H
      have c7b0 : decide ((ji6) ≤ a1) = false := decide_eq_false c7
      clear c7; obtain rfl := Option.some.inj H
      go_wp2_with (first | ((with_reducible refine gate_callee (f := 30) rfl ?_); refine gl_ 7 Try.func30 #[.int .i64 a0, .int .i64 1] ?_; (with_reducible refine (spec_l1Most.calls a0 1 t275 _ A3.out).mono ?_); rintro e w' ⟨rfl, ⟨nd, rfl⟩⟩; refine ⟨_, rfl, ?_⟩))
      go_ret
      exact ⟨by first | rfl | (simp; done) | (simp only [← hji4, ← hji6] <;> (first | rfl | simp)) | (simp [*]; done), by repeat (first | exact Drawn0.refl _ | apply Drawn0.step)⟩
    ·rw [if_neg c5] at H
     exact absurd H (by simp)
/-! ### spec_biPut: function 40 -/
def spec_biPut.l0 : Nat → List Bool → Int → Int → Int → Int → Option (List Bool)
  | 0, _, _, _, _, _ => none
  | k + 1, x0, x1, x2, x3, x8 => if x8 < x2 then (if 0 ≤ x8 then (if 0 ≤ (wrap64 (x1 + x8)) then (if (wrap64 (x1 + x8)) < (x0.length : Int) then (spec_biPut.l0 k (x0.set ((wrap64 (x1 + x8)) : Int).toNat ((Go.bits .and .i64 (shr .i64 x3 x8) 1) == 1)) x1 x2 x3 (wrap64 (x8 + 1))) else (none)) else (none)) else (none)) else (some x0)
def spec_biPut.f (k : Nat) (l0 : List Bool) (a1 : Int) (a2 : Int) (a3 : Int) : Option (List Bool) := spec_biPut.l0 k l0 a1 a2 a3 0
theorem spec_biPut.mono_l : ∀ k, (∀ y0 y1 y2 y3 y4, LeO (spec_biPut.l0 k y0 y1 y2 y3 y4) (spec_biPut.l0 (k + 1) y0 y1 y2 y3 y4))
  | 0 => fun _ _ _ _ _ r h => by simp [spec_biPut.l0] at h
  | k + 1 => by
    have ih0 := spec_biPut.mono_l k
    · intro y0 y1 y2 y3 y4
      unfold spec_biPut.l0
      repeat' first
      | (with_reducible exact ih0 _ _ _ _ _)
      | (with_reducible exact LeO.refl _)
      | (with_reducible exact LeO.none _)
      | (with_reducible refine LeO.ite ?_ ?_)
      | (with_reducible refine LeO.bind ?_ (fun _ => ?_))
      | exact ih0 _ _ _ _ _
      | exact LeO.none _
      | refine LeO.ite ?_ ?_
      | refine LeO.bind ?_ (fun _ => ?_)
theorem spec_biPut.mono : ∀ a0 a1 a2 a3 k, LeO (spec_biPut.f k a0 a1 a2 a3) (spec_biPut.f (k + 1) a0 a1 a2 a3) := by
  intro a0 a1 a2 a3 k
  have ih0 := spec_biPut.mono_l k
  unfold spec_biPut.f
  repeat' first
      | (with_reducible exact ih0 _ _ _ _ _)
      | (with_reducible exact LeO.refl _)
      | (with_reducible exact LeO.none _)
      | (with_reducible refine LeO.ite ?_ ?_)
      | (with_reducible refine LeO.bind ?_ (fun _ => ?_))
      | exact ih0 _ _ _ _ _
      | exact LeO.none _
      | refine LeO.ite ?_ ?_
      | refine LeO.bind ?_ (fun _ => ?_)
noncomputable def spec_biPut.L0 (y0 : List Bool) (y1 : Int) (y2 : Int) (y3 : Int) (y4 : Int) : Option (List Bool) := lim fun k => spec_biPut.l0 k y0 y1 y2 y3 y4
theorem spec_biPut.L0_sup (y0 : List Bool) (y1 : Int) (y2 : Int) (y3 : Int) (y4 : Int) : Sup (fun k => spec_biPut.l0 k y0 y1 y2 y3 y4) (spec_biPut.L0 y0 y1 y2 y3 y4) := Sup.of_mono fun k => spec_biPut.mono_l k y0 y1 y2 y3 y4
noncomputable def spec_biPut.F (l0 : List Bool) (a1 : Int) (a2 : Int) (a3 : Int) : Option (List Bool) := lim fun k => spec_biPut.f k l0 a1 a2 a3
theorem spec_biPut.F_sup (l0 : List Bool) (a1 : Int) (a2 : Int) (a3 : Int) : Sup (fun k => spec_biPut.f k l0 a1 a2 a3) (spec_biPut.F l0 a1 a2 a3) := Sup.of_mono fun k => spec_biPut.mono l0 a1 a2 a3 k
theorem spec_biPut.L0_eq (x0 : List Bool) (x1 : Int) (x2 : Int) (x3 : Int) (x8 : Int) : spec_biPut.L0 x0 x1 x2 x3 x8 = if x8 < x2 then (if 0 ≤ x8 then (if 0 ≤ (wrap64 (x1 + x8)) then (if (wrap64 (x1 + x8)) < (x0.length : Int) then (spec_biPut.L0 (x0.set ((wrap64 (x1 + x8)) : Int).toNat ((Go.bits .and .i64 (shr .i64 x3 x8) 1) == 1)) x1 x2 x3 (wrap64 (x8 + 1))) else (none)) else (none)) else (none)) else (some x0) := by
  refine Sup.unique (spec_biPut.L0_sup x0 x1 x2 x3 x8) (Sup.shift (fun k => spec_biPut.mono_l k x0 x1 x2 x3 x8) (Sup.congr (g' := fun k => if x8 < x2 then (if 0 ≤ x8 then (if 0 ≤ (wrap64 (x1 + x8)) then (if (wrap64 (x1 + x8)) < (x0.length : Int) then (spec_biPut.l0 k (x0.set ((wrap64 (x1 + x8)) : Int).toNat ((Go.bits .and .i64 (shr .i64 x3 x8) 1) == 1)) x1 x2 x3 (wrap64 (x8 + 1))) else (none)) else (none)) else (none)) else (some x0)) (fun k => by first | rfl | simp only [spec_biPut.l0]) ?_))
  repeat' first
    | (with_reducible exact spec_biPut.L0_sup _ _ _ _ _)
    | (with_reducible refine Sup.ite ?_ ?_)
    | (with_reducible refine Sup.bind ?_ (fun _ => ?_))
    | (with_reducible exact Sup.const _)
    | exact spec_biPut.L0_sup _ _ _ _ _
    | exact Sup.const _
theorem spec_biPut.F_eq (l0 : List Bool) (a1 : Int) (a2 : Int) (a3 : Int) : spec_biPut.F l0 a1 a2 a3 = spec_biPut.L0 l0 a1 a2 a3 0 := by
  refine Sup.unique (spec_biPut.F_sup l0 a1 a2 a3) (Sup.congr (g' := fun k => spec_biPut.l0 k l0 a1 a2 a3 0) (fun k => by first | rfl | simp only [spec_biPut.f]) ?_)
  repeat' first
    | (with_reducible exact spec_biPut.L0_sup _ _ _ _ _)
    | (with_reducible refine Sup.ite ?_ ?_)
    | (with_reducible refine Sup.bind ?_ (fun _ => ?_))
    | (with_reducible exact Sup.const _)
    | exact spec_biPut.L0_sup _ _ _ _ _
    | exact Sup.const _
set_option maxHeartbeats 8000000 in
set_option maxRecDepth 100000 in
theorem spec_biPut.calls (k : Nat) (P0_ : Nat → Prop) (u9000_ : Value) (l0 : List Bool) (a1 : Int) (a2 : Int) (a3 : Int) (r : List Bool) (w0 w : World) (hB : Below w0.heap.size w0 w) (ho0 : Kd.R Kd.bool 4 w w0.heap.size P0_ u9000_ l0) (h : spec_biPut.f k l0 a1 a2 a3 = some r) :
    Calls Try.prog 40 #[u9000_, .int .i64 a1, .int .i64 a2, .int .i64 a3] w fun e w' => e = .returned (.tuple #[]) ∧ Kd.R Kd.bool 4 w' w0.heap.size (fun k_ => (P0_ k_ ∨ w.heap.size ≤ k_)) u9000_ r ∧ Below w0.heap.size w0 w' ∧ Kept w w' (fun k_ => P0_ k_) := by
  have HO0 := Qx (show Kd.R Kd.bool 4 w w0.heap.size (fun k_ => (P0_ k_ ∨ w.heap.size ≤ k_)) u9000_ l0 from Qrm ho0 (fun k_ hk => (.inl hk)))
  have HK := Qx (Kept.refl w (fun k_ => P0_ k_))
  have HW0 := Qx hB.size; have HB := Qx hB; clear hB
  have H : (spec_biPut.l0 k l0 a1 a2 a3 0) = some r := h
  clear h; have H' := Qx H; clear H
  go_enter Try.func40, Try.ntmps40
  go_wp2
  go_loopg [8] k (fun kq v8 w' => ∃ (x0_1 : List Bool) (x8_1 : Int), v8 = .int .i64 x8_1 ∧ Aside0 (spec_biPut.l0 kq x0_1 a1 a2 a3 x8_1 = some r) ∧ Aside0 (kq ≤ k) ∧ Aside0 (Kd.R Kd.bool 4 w' w0.heap.size (fun k_ => (P0_ k_ ∨ w.heap.size ≤ k_)) u9000_ x0_1) ∧ Aside0 (Kept w w' (fun k_ => P0_ k_)) ∧ Aside0 (Below w0.heap.size w0 w'))
  case atStart => exact ⟨(l0), (0), rg_, H', ⟨Nat.le_refl _⟩, ⟨kR_ HO0⟩, ⟨by repeat (first | (with_reducible first | exact HK.out | apply Kept.alloc | apply Kept.drewN | apply Kept.drew) | exact HK.out)⟩, ⟨hB_⟩⟩
  case round =>
   clear H'
   try clear p2
   try clear c4
   obtain ⟨x0_1, x8_1, rfl, HA, HK1, HO_0, HK, HB⟩ := hrel
   cases gk with
   | zero => exact absurd HA.out (by simp [spec_biPut.l0])
   | succ k1 =>
    have H := HA.out; clear HA; simp only [spec_biPut.l0] at H
    by_cases c5 : x8_1 < a2
    ·rw [if_pos c5] at H
     have c5b0 : decide (x8_1 < a2) = true := decide_eq_true c5
     clear c5
     by_cases c6 : 0 ≤ x8_1
     ·rw [if_pos c6] at H; have c6b0 := eq_true c6
      have c6b1 : decide (0 ≤ x8_1) = true := decide_eq_true c6
      clear c6
      obtain ⟨ji7, hji7⟩ : ∃ j_ : Int, (shr .i64 a3 x8_1) = j_ := ⟨_, rfl⟩
      replace H : (if 0 ≤ (wrap64 (a1 + x8_1)) then (if (wrap64 (a1 + x8_1)) < (x0_1.length : Int) then (spec_biPut.l0 k1 (x0_1.set ((wrap64 (a1 + x8_1)) : Int).toNat ((Go.bits .and .i64 (ji7) 1) == 1)) a1 a2 a3 (wrap64 (x8_1 + 1))) else (none)) else (none)) = some r := by first | (rw [hji7] at H; exact H) | (simp only [hji7] at H ⊢; exact H)
      have hji7_ : (a3 / 2 ^ min x8_1.toNat 64) = ji7 := hji7
      have hji7z : x8_1 ≤ 64 → (a3 / 2 ^ x8_1.toNat) = ji7 := shr_small hji7
      obtain ⟨ji8, hji8⟩ : ∃ j_ : Int, (wrap64 (a1 + x8_1)) = j_ := ⟨_, rfl⟩
      replace H : (if 0 ≤ (ji8) then (if (ji8) < (x0_1.length : Int) then (spec_biPut.l0 k1 (x0_1.set ((ji8) : Int).toNat ((Go.bits .and .i64 (ji7) 1) == 1)) a1 a2 a3 (wrap64 (x8_1 + 1))) else (none)) else (none)) = some r := by first | (rw [hji8] at H; exact H) | (simp only [hji8] at H ⊢; exact H)
      have hji8w : (IntKind.i64.wrap (a1 + x8_1)) = ji8 := (i64_w _).trans hji8
      by_cases c9 : 0 ≤ (ji8)
      ·rw [if_pos c9] at H
       have c9b0 : decide (0 ≤ (ji8)) = true := decide_eq_true c9
       clear c9
       by_cases c10 : (ji8) < (x0_1.length : Int)
       ·rw [if_pos c10] at H
        have c10b0 : decide ((ji8) < (x0_1.length : Int)) = true := decide_eq_true c10
        clear c10
        obtain ⟨y276, hy276⟩ : ∃ y_ : List Bool, y_ = (x0_1.set ((ji8) : Int).toNat ((Go.bits .and .i64 (ji7) 1) == 1)) := ⟨_, rfl⟩
        replace H : (spec_biPut.l0 k1 y276 a1 a2 a3 (wrap64 (x8_1 + 1))) = some r := by first | (rw [hy276]; with_reducible exact H) | (have H2_ := (Option.bind_some _ _).symm.trans H; rw [hy276]; with_reducible exact H2_) | (have H2_ := (Option.bind_some _ _).symm.trans H; with_reducible exact H2_) | with_reducible exact H | (rw [hy276]; exact H) | exact H
        have Ny276 := Qx hy276; clear hy276; have H' := Qx H; clear H
        have p11 : 0 ≤ ((ji8) : Int) := of_decide_eq_true as_
        have q11 : ((ji8) : Int) < ((x0_1.length : Int) : Int) := of_decide_eq_true as_
        obtain ⟨go11, co11, eo11, gb11, gl11, cl11, HG11⟩ := Kd.R_form HO_0.out (by omega)
        (first | cases eo11 | (injection eo11 with ea_ en_ ec_; (first | subst ea_ | (injection ea_ with ea_; subst ea_)); subst ec_; clear en_))
        have GB11 := Qx gb11; have GG11 := Qx HG11; clear gb11 gl11 HG11
        have HMgo11 := Qx (show (P0_ go11 ∨ w.heap.size ≤ go11) from (HO_0.out.1 _ rfl))
        obtain ⟨hx11_0, hf11_0⟩ := Kd.R_celln false HO_0.out ((ji8) : Int) p11 q11
        replace p11 := eq_true p11; replace q11 := eq_true q11
        have HP12 := Kd.R_putg HO_0.out ((ji8) : Int) ((Go.bits .and .i64 (ji7) 1) == 1)
        go_wp2_with (first | ((with_reducible refine gate_store (t := 4) (p := 23) rfl ?_); refine store_event (t := 4) (p := 23) (v := ?vo_w13) (w1 := (wr.setCell ⟨go11, ((ji8) : Int).toNat, none⟩ (.bool ((Go.bits .and .i64 (ji7) 1) == 1)))) ?hg ?ho ?hn ?hr ?_; (case ho => rfl); (case hg => rfl); (case hn => rfl); (case hr => first | (go_simp; done) | (go_simp; rfl)); intro w13 hw; have hg : wr.grownBy w13 (some go11) := (by rw [hw]; exact HP12.2); have hp_ : Kd.R Kd.bool 4 w13 w0.heap.size (fun k_ => (P0_ k_ ∨ w.heap.size ≤ k_)) (.slice (some ⟨go11, 0, none⟩) x0_1.length co11) y276 := (by rw [hw, Ny276.out]; exact HP12.1); clear HP12; replace HB := Qx ((by rw [hw]; exact below_set (HB.out) GB11.out : Below w0.heap.size w0 w13)); replace HK := Qx (Kept.of_grown (S := (fun k_ => P0_ k_)) hg (by repeat (first | (with_reducible first | exact HK.out | apply Kept.alloc | apply Kept.drewN | apply Kept.drew) | exact HK.out)) (fun k_ e_ => (HO_0.out.1 k_ e_))); replace HO_0 := Qx (hp_); clear hg hw hp_))
        go_roundg k1
        case measure => have := HK1.out; omega
        case rel => exact ⟨(y276), (wrap64 (x8_1 + 1)), rg_, H', ⟨by have := HK1.out; omega⟩, ⟨kR_ HO_0⟩, ⟨by repeat (first | (with_reducible first | exact HK.out | apply Kept.alloc | apply Kept.drewN | apply Kept.drew) | exact HK.out)⟩, ⟨hB_⟩⟩
       ·rw [if_neg c10] at H
        exact absurd H (by simp)
      ·rw [if_neg c9] at H
       exact absurd H (by simp)
     ·rw [if_neg c6] at H
      exact absurd H (by simp)
    ·rw [if_neg c5] at H
     have c5b0 : decide (x8_1 < a2) = false := decide_eq_false c5
     clear c5; obtain rfl := Option.some.inj H
     go_wp2
     first | go_end0 | ((try simp only [Exit.inBlock, Exit.then]); refine bodyPost_ret (results_none rfl _ _ _) rfl ?_)
     exact ⟨rf_, kR_ HO_0, hB_, by repeat (first | (with_reducible first | exact HK.out | apply Kept.alloc | apply Kept.drewN | apply Kept.drew) | exact HK.out)⟩
/-! ### spec_biNew: function 50 -/
def spec_biNew.f (a0 : Int) : Option (Int × List Int) := if 0 ≤ (wrap64 (Int.tdiv (wrap64 (a0 + 15)) 16)) then (if (wrap64 (Int.tdiv (wrap64 (a0 + 15)) 16) : Int).toNat ≤ 35184372088832 then (some (a0, (List.replicate (wrap64 (Int.tdiv (wrap64 (a0 + 15)) 16) : Int).toNat 0))) else (none)) else (none)
set_option maxHeartbeats 8000000 in
set_option maxRecDepth 100000 in
theorem spec_biNew.calls (a0 : Int) (r1 : Int) (r2 : List Int) (w : World) (h : spec_biNew.f a0 = some (r1, r2)) :
    Calls Try.prog 50 #[.int .i64 a0] w fun e w' => ∃ v1_ : Value, e = .returned (.agg #[.int .i64 r1, v1_]) ∧ Kd.R (Kd.int .i64) 3 w' w.heap.size (fun _ => True) v1_ r2 ∧ Below w.heap.size w w' := by
  have hu28 := Try.underlying28
  have HB := Qx (Below.refl w.heap.size w)
  have H : (if 0 ≤ (wrap64 (Int.tdiv (wrap64 (a0 + 15)) 16)) then (if (wrap64 (Int.tdiv (wrap64 (a0 + 15)) 16) : Int).toNat ≤ 35184372088832 then (some (a0, (List.replicate (wrap64 (Int.tdiv (wrap64 (a0 + 15)) 16) : Int).toNat 0))) else (none)) else (none)) = some (r1, r2) := h
  clear h
  obtain ⟨ji2, hji2⟩ : ∃ j_ : Int, (wrap64 (Int.tdiv (wrap64 (a0 + 15)) 16)) = j_ := ⟨_, rfl⟩
  replace H : (if 0 ≤ (ji2) then (if (ji2 : Int).toNat ≤ 35184372088832 then (some (a0, (List.replicate (ji2 : Int).toNat 0))) else (none)) else (none)) = some (r1, r2) := by first | (rw [hji2] at H; exact H) | (simp only [hji2] at H ⊢; exact H)
  have hji2w : (IntKind.i64.wrap (Int.tdiv (wrap64 (a0 + 15)) 16)) = ji2 := (i64_w _).trans hji2
  by_cases c3 : 0 ≤ (ji2)
  ·rw [if_pos c3] at H; have c3b0 := eq_true c3
   have c3b1 : decide (0 ≤ (ji2)) = true := decide_eq_true c3
   clear c3
   by_cases c4 : (ji2 : Int).toNat ≤ 35184372088832
   ·rw [if_pos c4] at H; have c4b0 := eq_true c4
    have c4b1 : decide ((ji2 : Int).toNat ≤ 35184372088832) = true := decide_eq_true c4
    clear c4
    obtain ⟨y278, hy278⟩ : ∃ y_ : List Int, y_ = (List.replicate (ji2 : Int).toNat 0) := ⟨_, rfl⟩
    replace H : (some (a0, y278)) = some (r1, r2) := by first | (rw [hy278]; with_reducible exact H) | (have H2_ := (Option.bind_some _ _).symm.trans H; rw [hy278]; with_reducible exact H2_) | (have H2_ := (Option.bind_some _ _).symm.trans H; with_reducible exact H2_) | with_reducible exact H | (rw [hy278]; exact H) | exact H
    have Ny278 := Qx hy278; clear hy278; simp only [Option.some.injEq, Prod.mk.injEq] at H; obtain ⟨rfl, rfl⟩ := H
    go_enter Try.func50, Try.ntmps50
    go_wp2_with (first | ((with_reducible refine gate_dst (N := 2) rfl ?_); refine bx_ 2 #[.int .i64 0, .slice none 0 0] 28 ?_; intro gb277 hg w5 hbox hb; have BK277 := Qx (hbox); have GW277 := Qx ((ge_ hg)); have GE277 := Qx ((ge_ hg)); replace HB := Qx (Qp hB_ hb); clear hb hbox hg) | ((with_reducible refine gate_dst (N := 7) rfl ?_); refine Kd.R_make (Kd.int .i64) _ 3 rfl (N := 7) rfl 24 _ _ rfl ji2 rfl rfl Try.underlying24 (.int .i64 0) 8 info3 rfl (by decide) (by omega) 0 (ok := fun _ => True) (okp := fun _ => True) rfl (fun _ hk => hk) trivial (of_decide_eq_true as_) (Nat.le_trans (Nat.mul_le_mul_right _ (of_decide_eq_true as_ : ji2.toNat ≤ 35184372088832)) (by omega)) (Below.refl _ _) (Nat.le_refl _) ?_; intro v279 w6 ho7 hb hg_ hnew_; clear hg_ hnew_; (first | rw [← Ny278.out] at ho7 | (simp only [Int.reduceToNat] at ho7; rw [← Ny278.out] at ho7)); have HO280 := Qx (Kd.R_lower ho7 (Qz hB_)); replace BK277 := Qx (Qb (kB_ BK277) hb); replace HB := Qx (Qp hB_ hb); clear hb ho7; obtain ⟨Ao8, co8, eo8⟩ := Kd.R_slice HO280.out; subst eo8; obtain ⟨hcz9_0, hcz9_1, hfz9_0, hfz9_1⟩ := cellsQ2_g1b (w := w6) BK277.out))
    refine bodyPost_ret (results_cell_row rfl _ _ gb277 28 #[.int .i64 a0, .slice Ao8 y278.length co8] (0, 0) _ rfl (by (with_reducible repeat (first | refine Qm ?_ _ | refine Qw ?_ | refine Qk ?_ _)); refine Qu (cs := #[.int .i64 a0, .slice none 0 0]) ?_ 1 _ rfl; (with_reducible repeat (first | refine Qm ?_ _ | refine Qw ?_ | refine Qk ?_ _)); refine Qu (cs := #[.int .i64 0, .slice none 0 0]) ?_ 0 _ rfl; (with_reducible repeat (first | refine Qm ?_ _ | refine Qw ?_ | refine Qk ?_ _)); exact BK277.out) Try.underlying28 rfl (by kernel_rfl)) rfl ?_
    exact ⟨_, by first | rfl | (simp [errW_none, errW_some] <;> rfl) | (simp only [← hji2]; first | rfl | (simp [errW_none, errW_some] <;> rfl)) | (simp [*, errW_none, errW_some] <;> rfl), by (with_reducible repeat (first | apply Qra | apply Qrn | apply Qrd)); exact Qrm (farsQ2_g1b (Kd.R_types HO280.out BK277.out (by decide)) (fun _ hk => hk.2) (.int .i64 a0) (.slice Ao8 y278.length co8)) (fun _ hk => trivial), hB_⟩
   ·rw [if_neg c4] at H
    exact absurd H (by simp)
  ·rw [if_neg c3] at H
   exact absurd H (by simp)
/-! ### spec_biSet: function 51 -/
def spec_biSet.f (a0_0 : Int) (l0_1 : List Int) (a1 : Int) : Option (List Int) := if 0 ≤ (wrap64 (Int.tdiv a1 16)) then (if (wrap64 (Int.tdiv a1 16)) < (l0_1.length : Int) then (if 0 ≤ (Int.tmod a1 16) then (some (l0_1.set ((wrap64 (Int.tdiv a1 16)) : Int).toNat (Go.bits .or .i64 (rd l0_1 (wrap64 (Int.tdiv a1 16))) (shl .i64 1 (Int.tmod a1 16))))) else (none)) else (none)) else (none)
def spec_biSet.T1 : Bool × List (List Nat × List Nat) := (true, [([], []), ([0], [0]), ([], []), ([2], [2]), ([1, 3], [1, 3]), ([4], [4]), ([], []), ([6], [6]), ([7], [7]), ([5, 8], [5, 8]), ([1, 3, 0, 1, 2, 3, 4, 5, 6, 7, 8, 9], [1, 3]), ([10, 9, 0, 1, 2, 3, 4, 5, 6, 7, 8, 9], [9, 10])])
def spec_biSet.B1 : List Nat := [0, 1, 0, 4, 15, 31, 0, 64, 192, 511, 1023, 2047]
theorem spec_biSet.tab1 : rtab .any (opsOf Try.f51 1) = spec_biSet.T1 := by kernel_rfl
theorem spec_biSet.bits1 : waitsOk spec_biSet.T1.2 spec_biSet.B1 = true := by kernel_rfl
set_option maxHeartbeats 8000000 in
set_option maxRecDepth 100000 in
theorem spec_biSet.calls (a0_0 : Int) (P0_1_ : Nat → Prop) (u9000_ : Value) (l0_1 : List Int) (a1 : Int) (r : List Int) (w0 w : World) (hB : Below w0.heap.size w0 w) (ho0_1 : Kd.R (Kd.int .i64) 3 w w0.heap.size P0_1_ u9000_ l0_1) (h : spec_biSet.f a0_0 l0_1 a1 = some r) :
    Calls Try.prog 51 #[.agg #[.int .i64 a0_0, u9000_], .int .i64 a1] w fun e w' => e = .returned (.tuple #[]) ∧ Kd.R (Kd.int .i64) 3 w' w0.heap.size (fun k_ => (P0_1_ k_ ∨ w.heap.size ≤ k_)) u9000_ r ∧ Below w0.heap.size w0 w' ∧ Kept w w' (fun k_ => P0_1_ k_) := by
  have hu28 := Try.underlying28; have hu24 := Try.underlying24
  have HO0_1 := Qx (show Kd.R (Kd.int .i64) 3 w w0.heap.size (fun k_ => (P0_1_ k_ ∨ w.heap.size ≤ k_)) u9000_ l0_1 from Qrm ho0_1 (fun k_ hk => (.inl hk)))
  have HK := Qx (Kept.refl w (fun k_ => P0_1_ k_))
  have HW0 := Qx hB.size; have HB := Qx hB; clear hB
  have H : (if 0 ≤ (wrap64 (Int.tdiv a1 16)) then (if (wrap64 (Int.tdiv a1 16)) < (l0_1.length : Int) then (if 0 ≤ (Int.tmod a1 16) then (some (l0_1.set ((wrap64 (Int.tdiv a1 16)) : Int).toNat (Go.bits .or .i64 (rd l0_1 (wrap64 (Int.tdiv a1 16))) (shl .i64 1 (Int.tmod a1 16))))) else (none)) else (none)) else (none)) = some r := h
  clear h
  obtain ⟨ji3, hji3⟩ : ∃ j_ : Int, (wrap64 (Int.tdiv a1 16)) = j_ := ⟨_, rfl⟩
  replace H : (if 0 ≤ (ji3) then (if (ji3) < (l0_1.length : Int) then (if 0 ≤ (Int.tmod a1 16) then (some (l0_1.set ((ji3) : Int).toNat (Go.bits .or .i64 (rd l0_1 (ji3)) (shl .i64 1 (Int.tmod a1 16))))) else (none)) else (none)) else (none)) = some r := by first | (rw [hji3] at H; exact H) | (simp only [hji3] at H ⊢; exact H)
  have hji3w : (IntKind.i64.wrap (Int.tdiv a1 16)) = ji3 := (i64_w _).trans hji3
  by_cases c4 : 0 ≤ (ji3)
  ·rw [if_pos c4] at H
   have c4b0 : decide (0 ≤ (ji3)) = true := decide_eq_true c4
   clear c4
   by_cases c5 : (ji3) < (l0_1.length : Int)
   ·rw [if_pos c5] at H
    have c5b0 : decide ((ji3) < (l0_1.length : Int)) = true := decide_eq_true c5
    clear c5
    obtain ⟨ji6, hji6⟩ : ∃ j_ : Int, (Int.tmod a1 16) = j_ := ⟨_, rfl⟩
    replace H : (if 0 ≤ (ji6) then (some (l0_1.set ((ji3) : Int).toNat (Go.bits .or .i64 (rd l0_1 (ji3)) (shl .i64 1 (ji6))))) else (none)) = some r := by first | (rw [hji6] at H; exact H) | (simp only [hji6] at H ⊢; exact H)
    by_cases c7 : 0 ≤ (ji6)
    ·rw [if_pos c7] at H; have c7b0 := eq_true c7
     have c7b1 : decide (0 ≤ (ji6)) = true := decide_eq_true c7
     clear c7
     obtain ⟨ji8, hji8⟩ : ∃ j_ : Int, (shl .i64 1 (ji6)) = j_ := ⟨_, rfl⟩
     replace H : (some (l0_1.set ((ji3) : Int).toNat (Go.bits .or .i64 (rd l0_1 (ji3)) (ji8)))) = some r := by first | (rw [hji8] at H; exact H) | (simp only [hji8] at H ⊢; exact H)
     have hji8_ : (IntKind.i64.wrap (1 * 2 ^ min (ji6).toNat 64)) = ji8 := hji8
     have hji8z : (ji6) ≤ 64 → (IntKind.i64.wrap (1 * 2 ^ (ji6).toNat)) = ji8 := shl_small hji8
     have hji8u : (IntKind.i64.wrap (2 ^ min (ji6).toNat 64)) = ji8 := by have h_ := hji8_; rw [Int.one_mul] at h_; exact h_
     have hji8v : (ji6) ≤ 64 → (IntKind.i64.wrap (2 ^ (ji6).toNat)) = ji8 := fun hle_ => by have h_ := hji8z hle_; rw [Int.one_mul] at h_; exact h_
     have hji8y : (wrap64 (1 * 2 ^ min (ji6).toNat 64)) = ji8 := (i64_w _).symm.trans hji8_
     have hji8x : (ji6) ≤ 64 → (wrap64 (1 * 2 ^ (ji6).toNat)) = ji8 := fun h_ => (i64_w _).symm.trans (hji8z h_)
     obtain ⟨y283, hy283⟩ : ∃ y_ : List Int, y_ = (l0_1.set ((ji3) : Int).toNat (Go.bits .or .i64 (rd l0_1 (ji3)) (ji8))) := ⟨_, rfl⟩
     replace H : (some y283) = some r := by first | (rw [hy283]; with_reducible exact H) | (have H2_ := (Option.bind_some _ _).symm.trans H; rw [hy283]; with_reducible exact H2_) | (have H2_ := (Option.bind_some _ _).symm.trans H; with_reducible exact H2_) | with_reducible exact H | (rw [hy283]; exact H) | exact H
     have Ny283 := Qx hy283; clear hy283; obtain rfl := Option.some.inj H; obtain ⟨Ao10, co10, eo10⟩ := Kd.R_slice HO0_1.out; subst eo10
     go_enter Try.func51, Try.ntmps51
     try go_wp2_with (first | ((with_reducible refine gate_dst (N := 2) rfl ?_); refine bx_ 2 #[.int .i64 a0_0, .slice Ao10 l0_1.length co10] 28 ?_; intro gb281 hg w11 hbox hb; replace HO0_1 := Qx (Kd.R_below (kR_ HO0_1) hb); have BK281 := Qx (hbox); have GW281 := Qx ((by rw [hg]; exact (by first | exact HK.out.1 | exact (show Kept w _ (fun k_ => P0_1_ k_) from by repeat (first | (with_reducible first | exact HK.out | apply Kept.alloc | apply Kept.drewN | apply Kept.drew) | exact HK.out)).1) : w.heap.size ≤ gb281)); replace HK := Qx (Kept.below (S := (fun k_ => P0_1_ k_)) (by repeat (first | (with_reducible first | exact HK.out | apply Kept.alloc | apply Kept.drewN | apply Kept.drew) | exact HK.out)) hb); have GE281 := Qx ((by rw [hg]; exact (Qz hB_) : w0.heap.size ≤ gb281)); replace HB := Qx (Qp hB_ hb); clear hb hbox hg))
     replace HO0_1 := Qx (Qrd HO0_1.out)
     replace BK281 := Qx (Qw BK281.out)
     replace HK := Qx (Kept.drew HK.out)
     replace HB := Qx (below_drew1 HB.out)
     have p282 : 0 ≤ ((ji3) : Int) := of_decide_eq_true as_
     have q282 : (ji3) < (l0_1.length : Int) := of_decide_eq_true as_
     obtain ⟨ad282, e282, hx282_0⟩ := Kd.at_int (Kd.R_reads' HO0_1.out).2.2 (ji3) p282 q282
     cases e282
     replace p282 := eq_true p282; replace q282 := eq_true q282
     have p9 : 0 ≤ ((ji3) : Int) := of_decide_eq_true as_
     have q9 : ((ji3) : Int) < ((l0_1.length : Int) : Int) := of_decide_eq_true as_
     obtain ⟨go9, co9, eo9, gb9, gl9, cl9, HG9⟩ := Kd.R_form HO0_1.out (by omega)
     (first | cases eo9 | (injection eo9 with ea_ en_ ec_; (first | subst ea_ | (injection ea_ with ea_; subst ea_)); subst ec_; clear en_))
     have GB9 := Qx gb9; have GG9 := Qx HG9; clear gb9 gl9 HG9
     have HMgo9 := Qx (show (P0_1_ go9 ∨ w.heap.size ≤ go9) from (HO0_1.out.1 _ rfl))
     (first | simp only [add_plain] at hx282_0 | skip)
     obtain ⟨hx9_0, hf9_0⟩ := Kd.R_celln 0 HO0_1.out ((ji3) : Int) p9 q9
     replace p9 := eq_true p9; replace q9 := eq_true q9
     have HP13 := Kd.R_putn HO0_1.out ((ji3) : Int) (Go.bits .or .i64 (rd l0_1 (ji3)) (ji8))
     rw [← Ny283.out] at HP13; have HQ13 := Qx HP13; clear HP13
     refine start_ (n := 12) (S := fun w' => w'.cell? ⟨gb281, 0, none⟩ = some (.int .i64 a0_0) ∧ w'.cell? ⟨gb281, 1, none⟩ = some (.slice (some ⟨go9, 0, none⟩) l0_1.length co10) ∧ w'.cell? ⟨go9, ((ji3)).toNat, none⟩ = some (.int .i64 (rd l0_1 (ji3)))) (ds := [11]) #[false, false, false, false, false, false, false, false, false, false, false, false] (by kernel_rfl) rfl rfl ⟨(Qc BK281.out 0).trans rfl, (Qc BK281.out 1).trans rfl, hx282_0⟩ (fun hHeld => ?_); refine with_tabW spec_biSet.tab1 spec_biSet.bits1 (fun HT_ HW_ => ?_)
     generalize w11.drew = w12 at HO0_1 BK281 HK HB GG9 HQ13 hf9_0 hx282_0 hx9_0 hHeld ⊢
     refine pr_ 0 4 12 1 ?_
     refine pr_ 2 6 12 5 ?_
     refine pr_ 3 7 12 13 ?_
     refine pr_ 6 10 12 77 ?_
     refine pr_ 7 11 12 205 ?_
     refine pr_ 8 12 12 461 ?_
     refine tq_ 1 5 12 463 HT_.out HW_.out (by kernel_rfl) hHeld ?_ rfl (by rintro w' ⟨s0, s1, s2⟩; go_simp; with_reducible rfl)
     refine pr_ 4 8 12 479 ?_
     refine tq_ 5 9 12 511 HT_.out HW_.out (by kernel_rfl) hHeld ?_ rfl (by rintro w' ⟨s0, s1, s2⟩; go_simp; with_reducible rfl)
     refine pr_ 9 13 12 1023 ?_
     refine pr_ 10 14 12 2047 ?_
     refine last_ (i := 11) (N := none) (bsA 12 4095) rfl rfl (one_of HT_.out (by kernel_rfl)) (by decide) (fun K hK => ?_)
     refine skip_ (w1 := ?_) (by rfl) rfl ?_ ?_
     rotate_left
     ·go_simp
      rfl
     refine hK.out _ _ ?_
     clear hK K
     refine done_ (done_of HT_.out (by kernel_rfl)) ?_
     try go_wp2
     first | go_end0 | ((try simp only [Exit.inBlock, Exit.then]); refine bodyPost_ret (results_none rfl _ _ _) rfl ?_)
     exact ⟨by first | rfl | (simp [errW_none, errW_some] <;> rfl) | (simp only [← hji3, ← hji6, ← hji8]; first | rfl | (simp [errW_none, errW_some] <;> rfl)) | (simp [*, errW_none, errW_some] <;> rfl), kR_ HQ13, hB_, by repeat (first | (with_reducible first | exact HK.out | apply Kept.alloc | apply Kept.drewN | apply Kept.drew | refine Kept.setCell ?_ HMgo9.out _ | refine Kept.setCell ?_ (.inr GW281.out) _) | exact HK.out)⟩
    ·rw [if_neg c7] at H
     exact absurd H (by simp)
   ·rw [if_neg c5] at H
    exact absurd H (by simp)
  ·rw [if_neg c4] at H
   exact absurd H (by simp)
/-! ### spec_biSome: function 41 -/
def spec_biSome.l0 : Nat → List Bool → Int → Int → Int → List Int → Option (Int × List Int)
  | 0, _, _, _, _, _ => none
  | k + 1, x9, x10, x11, x290000, x290001 => if x11 < x10 then (if 0 ≤ x11 then (if x11 < (x9.length : Int) then (if rdOf false x9 x11 = true then ((spec_biSet.f x290000 x290001 x11).bind fun t291 => (spec_biSome.l0 k x9 x10 (wrap64 (x11 + 1)) x290000 t291)) else (spec_biSome.l0 k x9 x10 (wrap64 (x11 + 1)) x290000 x290001)) else (none)) else (none)) else (some (x290000, x290001))
def spec_biSome.f (k : Nat) (l0 : List Bool) : Option (Int × List Int) := (spec_biNew.f (l0.length : Int)).bind fun bt285 => (spec_biSome.l0 k l0 (l0.length : Int) 0 bt285.1 bt285.2)
theorem spec_biSome.mono_l : ∀ k, (∀ y0 y1 y2 y3 y4, LeO (spec_biSome.l0 k y0 y1 y2 y3 y4) (spec_biSome.l0 (k + 1) y0 y1 y2 y3 y4))
  | 0 => fun _ _ _ _ _ r h => by simp [spec_biSome.l0] at h
  | k + 1 => by
    have ih0 := spec_biSome.mono_l k
    · intro y0 y1 y2 y3 y4
      unfold spec_biSome.l0
      repeat' first
      | (with_reducible exact ih0 _ _ _ _ _)
      | (with_reducible exact LeO.refl _)
      | (with_reducible exact LeO.none _)
      | (with_reducible refine LeO.ite ?_ ?_)
      | (with_reducible refine LeO.bind ?_ (fun _ => ?_))
      | exact ih0 _ _ _ _ _
      | exact LeO.none _
      | refine LeO.ite ?_ ?_
      | refine LeO.bind ?_ (fun _ => ?_)
theorem spec_biSome.mono : ∀ a0 k, LeO (spec_biSome.f k a0) (spec_biSome.f (k + 1) a0) := by
  intro a0 k
  have ih0 := spec_biSome.mono_l k
  unfold spec_biSome.f
  repeat' first
      | (with_reducible exact ih0 _ _ _ _ _)
      | (with_reducible exact LeO.refl _)
      | (with_reducible exact LeO.none _)
      | (with_reducible refine LeO.ite ?_ ?_)
      | (with_reducible refine LeO.bind ?_ (fun _ => ?_))
      | exact ih0 _ _ _ _ _
      | exact LeO.none _
      | refine LeO.ite ?_ ?_
      | refine LeO.bind ?_ (fun _ => ?_)
noncomputable def spec_biSome.L0 (y0 : List Bool) (y1 : Int) (y2 : Int) (y3 : Int) (y4 : List Int) : Option (Int × List Int) := lim fun k => spec_biSome.l0 k y0 y1 y2 y3 y4
theorem spec_biSome.L0_sup (y0 : List Bool) (y1 : Int) (y2 : Int) (y3 : Int) (y4 : List Int) : Sup (fun k => spec_biSome.l0 k y0 y1 y2 y3 y4) (spec_biSome.L0 y0 y1 y2 y3 y4) := Sup.of_mono fun k => spec_biSome.mono_l k y0 y1 y2 y3 y4
noncomputable def spec_biSome.F (l0 : List Bool) : Option (Int × List Int) := lim fun k => spec_biSome.f k l0
theorem spec_biSome.F_sup (l0 : List Bool) : Sup (fun k => spec_biSome.f k l0) (spec_biSome.F l0) := Sup.of_mono fun k => spec_biSome.mono l0 k
theorem spec_biSome.L0_eq (x9 : List Bool) (x10 : Int) (x11 : Int) (x290000 : Int) (x290001 : List Int) : spec_biSome.L0 x9 x10 x11 x290000 x290001 = if x11 < x10 then (if 0 ≤ x11 then (if x11 < (x9.length : Int) then (if rdOf false x9 x11 = true then ((spec_biSet.f x290000 x290001 x11).bind fun t291 => (spec_biSome.L0 x9 x10 (wrap64 (x11 + 1)) x290000 t291)) else (spec_biSome.L0 x9 x10 (wrap64 (x11 + 1)) x290000 x290001)) else (none)) else (none)) else (some (x290000, x290001)) := by
  refine Sup.unique (spec_biSome.L0_sup x9 x10 x11 x290000 x290001) (Sup.shift (fun k => spec_biSome.mono_l k x9 x10 x11 x290000 x290001) (Sup.congr (g' := fun k => if x11 < x10 then (if 0 ≤ x11 then (if x11 < (x9.length : Int) then (if rdOf false x9 x11 = true then ((spec_biSet.f x290000 x290001 x11).bind fun t291 => (spec_biSome.l0 k x9 x10 (wrap64 (x11 + 1)) x290000 t291)) else (spec_biSome.l0 k x9 x10 (wrap64 (x11 + 1)) x290000 x290001)) else (none)) else (none)) else (some (x290000, x290001))) (fun k => by first | rfl | simp only [spec_biSome.l0]) ?_))
  repeat' first
    | (with_reducible exact spec_biSome.L0_sup _ _ _ _ _)
    | (with_reducible refine Sup.ite ?_ ?_)
    | (with_reducible refine Sup.bind ?_ (fun _ => ?_))
    | (with_reducible exact Sup.const _)
    | exact spec_biSome.L0_sup _ _ _ _ _
    | exact Sup.const _
theorem spec_biSome.F_eq (l0 : List Bool) : spec_biSome.F l0 = (spec_biNew.f (l0.length : Int)).bind fun bt285 => (spec_biSome.L0 l0 (l0.length : Int) 0 bt285.1 bt285.2) := by
  refine Sup.unique (spec_biSome.F_sup l0) (Sup.congr (g' := fun k => (spec_biNew.f (l0.length : Int)).bind fun bt285 => (spec_biSome.l0 k l0 (l0.length : Int) 0 bt285.1 bt285.2)) (fun k => by first | rfl | simp only [spec_biSome.f]) ?_)
  repeat' first
    | (with_reducible exact spec_biSome.L0_sup _ _ _ _ _)
    | (with_reducible refine Sup.ite ?_ ?_)
    | (with_reducible refine Sup.bind ?_ (fun _ => ?_))
    | (with_reducible exact Sup.const _)
    | exact spec_biSome.L0_sup _ _ _ _ _
    | exact Sup.const _
set_option maxHeartbeats 8000000 in
set_option maxRecDepth 100000 in
theorem spec_biSome.calls (k : Nat) (A0 : Option Addr) (c0 : Nat) (l0 : List Bool) (r1 : Int) (r2 : List Int) (w : World) (hr0 : Kd.C Kd.bool w A0 l0.length l0) (hc0 : l0.length ≤ c0) (h : spec_biSome.f k l0 = some (r1, r2)) :
    Calls Try.prog 41 #[.slice A0 l0.length c0] w fun e w' => ∃ v1_ : Value, e = .returned (.agg #[.int .i64 r1, v1_]) ∧ Kd.R (Kd.int .i64) 3 w' w.heap.size (fun _ => True) v1_ r2 ∧ Below w.heap.size w w' := by
  have hu28 := Try.underlying28; have HR0 := Qx hr0; have HC0 := Qx hc0; clear hr0 hc0
  have HB := Qx (Below.refl w.heap.size w)
  have H : ((spec_biNew.f (l0.length : Int)).bind fun bt285 => (spec_biSome.l0 k l0 (l0.length : Int) 0 bt285.1 bt285.2)) = some (r1, r2) := h
  clear h; replace H := Option.bind_eq_some_iff.mp H; obtain ⟨⟨t285, t286⟩, A20, H⟩ := H
  have A2 := Qx A20; clear A20; have H' := Qx H; clear H
  go_enter Try.func41, Try.ntmps41
  go_wp2_with (first | ((with_reducible refine gate_dst (N := 2) rfl ?_); refine bx_ 2 #[.int .i64 0, .slice none 0 0] 28 ?_; intro gb284 hg w3 hbox hb; have BK284 := Qx (hbox); have GW284 := Qx ((ge_ hg)); have GE284 := Qx ((ge_ hg)); replace HB := Qx (Qp hB_ hb); clear hb hbox hg) | ((with_reducible refine gate_callee (f := 50) rfl ?_); refine gl_ 8 Try.func50 #[.int .i64 (l0.length : Int)] ?_; (with_reducible refine (spec_biNew.calls (l0.length : Int) t285 t286 _ A2.out).mono ?_); rintro e w4 ⟨v287, rfl, ho0, hb⟩; refine ⟨_, rfl, ?_⟩; have HO288 := Qx (Kd.R_lower ho0 (Qz hB_)); replace BK284 := Qx (Qb (kB_ BK284) hb); replace HB := Qx (Qp hB_ hb); (try clear hb); (try clear hb2); (try clear hk); (try clear hi); (try clear ho0)) | ((with_reducible refine gate_dst (N := 3) rfl ?_); refine bx_ 3 #[.int .i64 0, .slice none 0 0] 28 ?_; intro gb289 hg w5 hbox hb; replace HO288 := Qx (Kd.R_below (kR_ HO288) hb); have BK289 := Qx (hbox); have GW289 := Qx ((ge_ hg)); have GE289 := Qx ((ge_ hg)); replace HB := Qx (Qp hB_ hb); have NB284_289 := Qx ((ne_ hg BK284)); have NB289_284 := Qx ((nf_ hg BK284)); replace BK284 := Qx (Qb (kB_ BK284) hb); clear hb hbox hg; have hnb6 := NB289_284.out; have hnc6 := NB284_289.out; obtain ⟨hcz7_0, hcz7_1, hfz7_0, hfz7_1⟩ := cellsQ2_g1b (w := w5) BK289.out; obtain ⟨Ao8, co8, eo8⟩ := Kd.R_slice HO288.out; subst eo8))
  go_loopg [11] k (fun kq v11 w' => ∃ (x11_1 : Int) (x290001_1 : List Int) (u290001 : Value), v11 = .int .i64 x11_1 ∧ Aside0 (spec_biSome.l0 kq l0 (l0.length : Int) x11_1 t285 x290001_1 = some (r1, r2)) ∧ Aside0 (kq ≤ k) ∧ Aside0 (Kd.R (Kd.int .i64) 3 w' w.heap.size (fun _ => True) u290001 x290001_1) ∧ Aside0 (w'.heap[gb284]? = some (.cells #[.int .i64 0, (.slice none 0 0)] 28 (0, 0))) ∧ Aside0 (w'.heap[gb289]? = some (.cells #[.int .i64 t285, u290001] 28 (0, 0))) ∧ Aside0 (Below w.heap.size w w'))
  case atStart => exact ⟨(0), (t286), (.slice Ao8 t286.length co8), rg_, H', ⟨Nat.le_refl _⟩, ⟨by (with_reducible repeat (first | apply Qra | apply Qrn | apply Qrd)); exact Qrm (farsQ2_g1b (Kd.R_types HO288.out BK289.out (by decide)) (fun _ hk => hk.2) (.int .i64 t285) (.slice Ao8 t286.length co8)) (fun _ hk => trivial)⟩, ⟨by (with_reducible repeat (first | refine Qm ?_ _ | refine Qw ?_ | refine Qk ?_ _)); refine blk_far ?_ NB284_289.out _; (with_reducible repeat (first | refine Qm ?_ _ | refine Qw ?_ | refine Qk ?_ _)); refine blk_far ?_ NB284_289.out _; (with_reducible repeat (first | refine Qm ?_ _ | refine Qw ?_ | refine Qk ?_ _)); exact BK284.out⟩, ⟨by (with_reducible repeat (first | refine Qm ?_ _ | refine Qw ?_ | refine Qk ?_ _)); refine Qu (cs := #[.int .i64 t285, .slice none 0 0]) ?_ 1 _ rfl; (with_reducible repeat (first | refine Qm ?_ _ | refine Qw ?_ | refine Qk ?_ _)); refine Qu (cs := #[.int .i64 0, .slice none 0 0]) ?_ 0 _ rfl; (with_reducible repeat (first | refine Qm ?_ _ | refine Qw ?_ | refine Qk ?_ _)); exact BK289.out⟩, ⟨hB_⟩⟩
  case round =>
   clear H'
   try clear p2
   try clear c4
   try clear c5
   try clear c6
   try clear hcz7_0
   try clear hcz7_1
   try clear hfz7_0
   try clear hfz7_1
   obtain ⟨x11_1, x290001_1, u290001, rfl, HA, HK1, HO_290001, BK284, BK289, HB⟩ := hrel
   cases gk with
   | zero => exact absurd HA.out (by simp [spec_biSome.l0])
   | succ k1 =>
    have H := HA.out; clear HA; simp only [spec_biSome.l0] at H
    by_cases c9 : x11_1 < (l0.length : Int)
    ·rw [if_pos c9] at H
     have c9b0 : decide (x11_1 < (l0.length : Int)) = true := decide_eq_true c9
     clear c9
     by_cases c10 : 0 ≤ x11_1
     ·rw [if_pos c10] at H
      have c10b0 : decide (0 ≤ x11_1) = true := decide_eq_true c10
      clear c10
      by_cases c11 : x11_1 < (l0.length : Int)
      ·rw [if_pos c11] at H
       have c11b0 : decide (x11_1 < (l0.length : Int)) = true := decide_eq_true c11
       clear c11
       obtain ⟨bq12, hbq12⟩ : ∃ b_ : Bool, b_ = (rdOf false l0 x11_1) := ⟨_, rfl⟩
       replace H : (if bq12 = true then ((spec_biSet.f t285 x290001_1 x11_1).bind fun t291 => (spec_biSome.l0 k1 l0 (l0.length : Int) (wrap64 (x11_1 + 1)) t285 t291)) else (spec_biSome.l0 k1 l0 (l0.length : Int) (wrap64 (x11_1 + 1)) t285 x290001_1)) = some (r1, r2) := by rw [← hbq12] at H; exact H
       have Nbq12 := Qx hbq12; clear hbq12
       by_cases c13 : bq12 = true
       ·subst c13
        have H1 : ((spec_biSet.f t285 x290001_1 x11_1).bind fun t291 => (spec_biSome.l0 k1 l0 (l0.length : Int) (wrap64 (x11_1 + 1)) t285 t291)) = some (r1, r2) := by rw [if_pos rfl] at H; exact H
        clear H; have H := H1; clear H1; replace H := Option.bind_eq_some_iff.mp H; obtain ⟨t291, A140, H⟩ := H
        have A14 := Qx A140; clear A140; have H' := Qx H; clear H
        have p290 : 0 ≤ (x11_1 : Int) := of_decide_eq_true as_
        have q290 : x11_1 < (l0.length : Int) := of_decide_eq_true as_
        obtain ⟨ad290, e290, hx290_0⟩ := Kd.at_bool HR0.out x11_1 p290 q290
        (try rw [← Nbq12.out] at hx290_0)
        cases e290
        replace hx290_0 := (HB.out.cell (World.block_lt_of_cell? w _ hx290_0)).trans hx290_0
        replace p290 := eq_true p290; replace q290 := eq_true q290; have hnb15 := NB289_284.out; have hnc15 := NB284_289.out
        obtain ⟨hcz16_0, hcz16_1, hfz16_0, hfz16_1⟩ := cellsQ2_g1b (w := wr) BK289.out
        obtain ⟨Ao17, co17, eo17⟩ := Kd.R_slice HO_290001.out; subst eo17
        go_wp2_with (first | ((with_reducible refine gate_callee (f := 51) rfl ?_); refine gl_ 19 Try.func51 #[.agg #[.int .i64 t285, .slice Ao17 x290001_1.length co17], .int .i64 x11_1] ?_; (with_reducible refine (spec_biSet.calls t285 (fun k_ => some k_ = (.slice Ao17 x290001_1.length co17 : Value).ownBlock) (.slice Ao17 x290001_1.length co17) x290001_1 x11_1 t291 w _ ?side1 ?side2 A14.out).mono ?_); (case side1 => exact hB_); (case side2 => exact Kd.R_tight rfl HO_290001.out); rintro e w18 ⟨rfl, hy0, hb, hkp⟩; refine ⟨_, rfl, ?_⟩; replace BK284 := Qx (blk_kept (kB_ BK284) hkp (fun hs_ => (fun e_ => (Kd.R_ne HO_290001.out BK284.out (by decide)) e_) hs_)); replace BK289 := Qx (blk_kept (kB_ BK289) hkp (fun hs_ => (fun e_ => (Kd.R_ne HO_290001.out BK289.out (by decide)) e_) hs_)); replace HO_290001 := Qx (Kd.R_reok rfl hy0 (fun k_ e_ => HO_290001.out.1 k_ e_)); replace HB := Qx (hb); (try clear hb); (try clear hkp); (try clear hy0)))
        go_roundg k1
        case measure => have := HK1.out; omega
        case rel => exact ⟨(wrap64 (x11_1 + 1)), (t291), (.slice Ao17 x290001_1.length co17), rg_, H', ⟨by have := HK1.out; omega⟩, ⟨kR_ HO_290001⟩, ⟨kB_ BK284⟩, ⟨kB_ BK289⟩, ⟨hB_⟩⟩
       ·replace c13 := Bool.eq_false_iff.mpr c13; subst c13
        have H1 : (spec_biSome.l0 k1 l0 (l0.length : Int) (wrap64 (x11_1 + 1)) t285 x290001_1) = some (r1, r2) := by rw [if_neg (show ¬ (false = true) by decide)] at H; exact H
        clear H; have H := H1; clear H1; have H' := Qx H; clear H
        have p290 : 0 ≤ (x11_1 : Int) := of_decide_eq_true as_
        have q290 : x11_1 < (l0.length : Int) := of_decide_eq_true as_
        obtain ⟨ad290, e290, hx290_0⟩ := Kd.at_bool HR0.out x11_1 p290 q290
        (try rw [← Nbq12.out] at hx290_0)
        cases e290
        replace hx290_0 := (HB.out.cell (World.block_lt_of_cell? w _ hx290_0)).trans hx290_0
        replace p290 := eq_true p290; replace q290 := eq_true q290
        go_wp2
        go_roundg k1
        case measure => have := HK1.out; omega
        case rel => exact ⟨(wrap64 (x11_1 + 1)), (x290001_1), (u290001), rg_, H', ⟨by have := HK1.out; omega⟩, ⟨kR_ HO_290001⟩, ⟨kB_ BK284⟩, ⟨kB_ BK289⟩, ⟨hB_⟩⟩
      ·rw [if_neg c11] at H
       exact absurd H (by simp)
     ·rw [if_neg c10] at H
      exact absurd H (by simp)
    ·rw [if_neg c9] at H
     have c9b0 : decide (x11_1 < (l0.length : Int)) = false := decide_eq_false c9
     clear c9; simp only [Option.some.injEq, Prod.mk.injEq] at H; obtain ⟨rfl, rfl⟩ := H; have hnb19 := NB289_284.out; have hnc19 := NB284_289.out
     obtain ⟨hcz20_0, hcz20_1, hfz20_0, hfz20_1⟩ := cellsQ2_g1b (w := wr) BK289.out
     obtain ⟨hcz21_0, hcz21_1, hfz21_0, hfz21_1⟩ := cellsQ2_g1b (w := wr) BK284.out
     obtain ⟨Ao22, co22, eo22⟩ := Kd.R_slice HO_290001.out; subst eo22
     go_wp2
     refine bodyPost_ret (results_cell_row rfl _ _ gb284 28 #[.int .i64 t285, .slice Ao22 x290001_1.length co22] (0, 0) _ rfl (by (with_reducible repeat (first | refine Qm ?_ _ | refine Qw ?_ | refine Qk ?_ _)); refine Qu (cs := #[.int .i64 t285, .slice none 0 0]) ?_ 1 _ rfl; (with_reducible repeat (first | refine Qm ?_ _ | refine Qw ?_ | refine Qk ?_ _)); refine Qu (cs := #[.int .i64 0, .slice none 0 0]) ?_ 0 _ rfl; (with_reducible repeat (first | refine Qm ?_ _ | refine Qw ?_ | refine Qk ?_ _)); exact BK284.out) Try.underlying28 rfl (by kernel_rfl)) rfl ?_
     exact ⟨_, rf_, by (with_reducible repeat (first | apply Qra | apply Qrn | apply Qrd)); exact Qrm (farsQ2_g1b (Kd.R_types HO_290001.out BK284.out (by decide)) (fun _ hk => hk.2) (.int .i64 t285) (.slice Ao22 x290001_1.length co22)) (fun _ hk => trivial), hB_⟩
end Go.Proofs.Ytcgakiihochafaa.X
