/- Written by a program of this session: what functions of the given program compute, and that their calls do so. -/
import Derived.Test.YtcgakiihochafaaXx0
import Derived.Test.YtcgakiihochafaaXg1a
import Derived.Test.YtcgakiihochafaaXg1d
import Derived.Test.YtcgakiihochafaaXs
namespace Go.Proofs.Ytcgakiihochafaa.X
open Go.RowKit Go.Proofs.YtcgakiihochafaaW.PrintWords Go.Proofs.YtcgakiihochafaaW.PrintLast Go.Proofs.YtcgakiihochafaaW.PrintMore
theorem cellsQ7_g1e {w : World} {g : Nat} {t : TypeId} {a0 a1 a2 a3 a4 a5 a6 : Value} (k : w.heap[g]? = some (.cells #[a0, a1, a2, a3, a4, a5, a6] t (0, 0))) : w.cell? ⟨g, 0, none⟩ = some a0 ∧ w.cell? ⟨g, 1, none⟩ = some a1 ∧ w.cell? ⟨g, 2, none⟩ = some a2 ∧ w.cell? ⟨g, 3, none⟩ = some a3 ∧ w.cell? ⟨g, 4, none⟩ = some a4 ∧ w.cell? ⟨g, 5, none⟩ = some a5 ∧ w.cell? ⟨g, 6, none⟩ = some a6 ∧ w.frozen? ⟨g, 0, none⟩ = false ∧ w.frozen? ⟨g, 1, none⟩ = false ∧ w.frozen? ⟨g, 2, none⟩ = false ∧ w.frozen? ⟨g, 3, none⟩ = false ∧ w.frozen? ⟨g, 4, none⟩ = false ∧ w.frozen? ⟨g, 5, none⟩ = false ∧ w.frozen? ⟨g, 6, none⟩ = false := ⟨(blk_cell k 0).trans rfl, (blk_cell k 1).trans rfl, (blk_cell k 2).trans rfl, (blk_cell k 3).trans rfl, (blk_cell k 4).trans rfl, (blk_cell k 5).trans rfl, (blk_cell k 6).trans rfl, blk_frozen k 0, blk_frozen k 1, blk_frozen k 2, blk_frozen k 3, blk_frozen k 4, blk_frozen k 5, blk_frozen k 6⟩
open Go.Proofs.YtcgakiihochafaaW.PrintWords renaming below_size → Qz, below_step → Qp, blk_below → Qb
open Go.Proofs.YtcgakiihochafaaW.PrintWords.Aside0 renaming mk → Qx
attribute [local go_sem] max2_int min2_int max_two min_two max_three min_three max_four min_four   -- for this text's walks alone
set_option linter.unusedVariables false
set_option linter.unusedSimpArgs false
/-! ### slices_BinarySearch_int_int: function 46 -/
def slices_BinarySearch_int_int.l0 : Nat → List Int → Int → Int → Int → Int → Option (Int × Bool)
  | 0, _, _, _, _, _ => none
  | k + 1, x0, x1, x6, x7, x8 => if x7 < x8 then (if 0 ≤ (wrap64 ((IntKind.u64.wrap (wrap64 (x7 + x8))) / 2)) then (if (wrap64 ((IntKind.u64.wrap (wrap64 (x7 + x8))) / 2)) < (x0.length : Int) then ((cmp_Less_int.f (rd x0 (wrap64 ((IntKind.u64.wrap (wrap64 (x7 + x8))) / 2))) x1).bind fun t396 => (if t396 = true then (slices_BinarySearch_int_int.l0 k x0 x1 x6 (wrap64 ((wrap64 ((IntKind.u64.wrap (wrap64 (x7 + x8))) / 2)) + 1)) x8) else (slices_BinarySearch_int_int.l0 k x0 x1 x6 x7 (wrap64 ((IntKind.u64.wrap (wrap64 (x7 + x8))) / 2))))) else (none)) else (none)) else (if x7 < x6 then (if 0 ≤ x7 then (if x7 < (x0.length : Int) then (if (rd x0 x7) = x1 then (some (x7, true)) else ((slices_isNaN_int.f (rd x0 x7)).bind fun t399 => (if t399 = true then ((slices_isNaN_int.f x1).bind fun t400 => (some (x7, t400))) else (some (x7, false))))) else (none)) else (none)) else (some (x7, false)))
def slices_BinarySearch_int_int.f (k : Nat) (l0 : List Int) (a1 : Int) : Option (Int × Bool) := slices_BinarySearch_int_int.l0 k l0 a1 (l0.length : Int) 0 (l0.length : Int)
theorem slices_BinarySearch_int_int.mono_l : ∀ k, (∀ y0 y1 y2 y3 y4, LeO (slices_BinarySearch_int_int.l0 k y0 y1 y2 y3 y4) (slices_BinarySearch_int_int.l0 (k + 1) y0 y1 y2 y3 y4))
  | 0 => fun _ _ _ _ _ r h => by simp [slices_BinarySearch_int_int.l0] at h
  | k + 1 => by
    have ih0 := slices_BinarySearch_int_int.mono_l k
    · intro y0 y1 y2 y3 y4
      unfold slices_BinarySearch_int_int.l0
      repeat' first
      | (with_reducible exact ih0 _ _ _ _ _)
      | (with_reducible exact LeO.refl _)
      | (with_reducible exact LeO.none _)
      | (with_reducible refine LeO.ite ?_ ?_)
      | (with_reducible refine LeO.bind ?_ (fun _ => ?_))
      | exact ih0 _ _ _ _ _
      | exact LeO.none _
      | refine LeO.ite ?_ ?_
      | refine LeO.bind ?_ (fun _ => ?_)
theorem slices_BinarySearch_int_int.mono : ∀ a0 a1 k, LeO (slices_BinarySearch_int_int.f k a0 a1) (slices_BinarySearch_int_int.f (k + 1) a0 a1) := by
  intro a0 a1 k
  have ih0 := slices_BinarySearch_int_int.mono_l k
  unfold slices_BinarySearch_int_int.f
  repeat' first
      | (with_reducible exact ih0 _ _ _ _ _)
      | (with_reducible exact LeO.refl _)
      | (with_reducible exact LeO.none _)
      | (with_reducible refine LeO.ite ?_ ?_)
      | (with_reducible refine LeO.bind ?_ (fun _ => ?_))
      | exact ih0 _ _ _ _ _
      | exact LeO.none _
      | refine LeO.ite ?_ ?_
      | refine LeO.bind ?_ (fun _ => ?_)
noncomputable def slices_BinarySearch_int_int.L0 (y0 : List Int) (y1 : Int) (y2 : Int) (y3 : Int) (y4 : Int) : Option (Int × Bool) := lim fun k => slices_BinarySearch_int_int.l0 k y0 y1 y2 y3 y4
theorem slices_BinarySearch_int_int.L0_sup (y0 : List Int) (y1 : Int) (y2 : Int) (y3 : Int) (y4 : Int) : Sup (fun k => slices_BinarySearch_int_int.l0 k y0 y1 y2 y3 y4) (slices_BinarySearch_int_int.L0 y0 y1 y2 y3 y4) := Sup.of_mono fun k => slices_BinarySearch_int_int.mono_l k y0 y1 y2 y3 y4
noncomputable def slices_BinarySearch_int_int.F (l0 : List Int) (a1 : Int) : Option (Int × Bool) := lim fun k => slices_BinarySearch_int_int.f k l0 a1
theorem slices_BinarySearch_int_int.F_sup (l0 : List Int) (a1 : Int) : Sup (fun k => slices_BinarySearch_int_int.f k l0 a1) (slices_BinarySearch_int_int.F l0 a1) := Sup.of_mono fun k => slices_BinarySearch_int_int.mono l0 a1 k
theorem slices_BinarySearch_int_int.L0_eq (x0 : List Int) (x1 : Int) (x6 : Int) (x7 : Int) (x8 : Int) : slices_BinarySearch_int_int.L0 x0 x1 x6 x7 x8 = if x7 < x8 then (if 0 ≤ (wrap64 ((IntKind.u64.wrap (wrap64 (x7 + x8))) / 2)) then (if (wrap64 ((IntKind.u64.wrap (wrap64 (x7 + x8))) / 2)) < (x0.length : Int) then ((cmp_Less_int.f (rd x0 (wrap64 ((IntKind.u64.wrap (wrap64 (x7 + x8))) / 2))) x1).bind fun t396 => (if t396 = true then (slices_BinarySearch_int_int.L0 x0 x1 x6 (wrap64 ((wrap64 ((IntKind.u64.wrap (wrap64 (x7 + x8))) / 2)) + 1)) x8) else (slices_BinarySearch_int_int.L0 x0 x1 x6 x7 (wrap64 ((IntKind.u64.wrap (wrap64 (x7 + x8))) / 2))))) else (none)) else (none)) else (if x7 < x6 then (if 0 ≤ x7 then (if x7 < (x0.length : Int) then (if (rd x0 x7) = x1 then (some (x7, true)) else ((slices_isNaN_int.f (rd x0 x7)).bind fun t399 => (if t399 = true then ((slices_isNaN_int.f x1).bind fun t400 => (some (x7, t400))) else (some (x7, false))))) else (none)) else (none)) else (some (x7, false))) := by
  refine Sup.unique (slices_BinarySearch_int_int.L0_sup x0 x1 x6 x7 x8) (Sup.shift (fun k => slices_BinarySearch_int_int.mono_l k x0 x1 x6 x7 x8) (Sup.congr (g' := fun k => if x7 < x8 then (if 0 ≤ (wrap64 ((IntKind.u64.wrap (wrap64 (x7 + x8))) / 2)) then (if (wrap64 ((IntKind.u64.wrap (wrap64 (x7 + x8))) / 2)) < (x0.length : Int) then ((cmp_Less_int.f (rd x0 (wrap64 ((IntKind.u64.wrap (wrap64 (x7 + x8))) / 2))) x1).bind fun t396 => (if t396 = true then (slices_BinarySearch_int_int.l0 k x0 x1 x6 (wrap64 ((wrap64 ((IntKind.u64.wrap (wrap64 (x7 + x8))) / 2)) + 1)) x8) else (slices_BinarySearch_int_int.l0 k x0 x1 x6 x7 (wrap64 ((IntKind.u64.wrap (wrap64 (x7 + x8))) / 2))))) else (none)) else (none)) else (if x7 < x6 then (if 0 ≤ x7 then (if x7 < (x0.length : Int) then (if (rd x0 x7) = x1 then (some (x7, true)) else ((slices_isNaN_int.f (rd x0 x7)).bind fun t399 => (if t399 = true then ((slices_isNaN_int.f x1).bind fun t400 => (some (x7, t400))) else (some (x7, false))))) else (none)) else (none)) else (some (x7, false)))) (fun k => by first | rfl | simp only [slices_BinarySearch_int_int.l0]) ?_))
  repeat' first
    | (with_reducible exact slices_BinarySearch_int_int.L0_sup _ _ _ _ _)
    | (with_reducible refine Sup.ite ?_ ?_)
    | (with_reducible refine Sup.bind ?_ (fun _ => ?_))
    | (with_reducible exact Sup.const _)
    | exact slices_BinarySearch_int_int.L0_sup _ _ _ _ _
    | exact Sup.const _
theorem slices_BinarySearch_int_int.F_eq (l0 : List Int) (a1 : Int) : slices_BinarySearch_int_int.F l0 a1 = slices_BinarySearch_int_int.L0 l0 a1 (l0.length : Int) 0 (l0.length : Int) := by
  refine Sup.unique (slices_BinarySearch_int_int.F_sup l0 a1) (Sup.congr (g' := fun k => slices_BinarySearch_int_int.l0 k l0 a1 (l0.length : Int) 0 (l0.length : Int)) (fun k => by first | rfl | simp only [slices_BinarySearch_int_int.f]) ?_)
  repeat' first
    | (with_reducible exact slices_BinarySearch_int_int.L0_sup _ _ _ _ _)
    | (with_reducible refine Sup.ite ?_ ?_)
    | (with_reducible refine Sup.bind ?_ (fun _ => ?_))
    | (with_reducible exact Sup.const _)
    | exact slices_BinarySearch_int_int.L0_sup _ _ _ _ _
    | exact Sup.const _
set_option maxHeartbeats 8000000 in
set_option maxRecDepth 100000 in
theorem slices_BinarySearch_int_int.calls (k : Nat) (A0 : Option Addr) (c0 : Nat) (l0 : List Int) (a1 : Int) (r1 : Int) (r2 : Bool) (w : World) (hr0 : Kd.C (Kd.int .i64) w A0 l0.length l0) (hc0 : l0.length ≤ c0) (h : slices_BinarySearch_int_int.f k l0 a1 = some (r1, r2)) :
    Calls Try.prog 46 #[.slice A0 l0.length c0, .int .i64 a1] w fun e w' => e = .returned (.tuple #[.int .i64 r1, .bool r2]) ∧ Drawn0 w w' := by
  have HR0 := Qx hr0; have HC0 := Qx hc0; clear hr0 hc0
  have H : (slices_BinarySearch_int_int.l0 k l0 a1 (l0.length : Int) 0 (l0.length : Int)) = some (r1, r2) := h
  clear h; have H' := Qx H; clear H
  go_enter Try.func46, Try.ntmps46
  go_wp2
  go_loopg [7, 8] k (fun kq v7 v8 w' => ∃ (x7_1 : Int) (x8_1 : Int), v7 = .int .i64 x7_1 ∧ v8 = .int .i64 x8_1 ∧ Aside0 (slices_BinarySearch_int_int.l0 kq l0 a1 (l0.length : Int) x7_1 x8_1 = some (r1, r2)) ∧ Aside0 (kq ≤ k) ∧ Drawn0 w w')
  case atStart => exact ⟨(0), ((l0.length : Int)), rg_, rg_, H', ⟨Nat.le_refl _⟩, by repeat (first | exact Drawn0.refl _ | apply Drawn0.step)⟩
  case round =>
   clear H'
   try clear p2
   obtain ⟨x7_1, x8_1, rfl, rfl, HA, HK1, ⟨m1, rfl⟩⟩ := hrel
   cases gk with
   | zero => exact absurd HA.out (by simp [slices_BinarySearch_int_int.l0])
   | succ k1 =>
    have H := HA.out; clear HA; simp only [slices_BinarySearch_int_int.l0] at H
    by_cases c3 : x7_1 < x8_1
    ·rw [if_pos c3] at H
     have c3b0 : decide (x7_1 < x8_1) = true := decide_eq_true c3
     clear c3
     obtain ⟨ji4, hji4⟩ : ∃ j_ : Int, (wrap64 ((IntKind.u64.wrap (wrap64 (x7_1 + x8_1))) / 2)) = j_ := ⟨_, rfl⟩
     replace H : (if 0 ≤ (ji4) then (if (ji4) < (l0.length : Int) then ((cmp_Less_int.f (rd l0 (ji4)) a1).bind fun t396 => (if t396 = true then (slices_BinarySearch_int_int.l0 k1 l0 a1 (l0.length : Int) (wrap64 ((ji4) + 1)) x8_1) else (slices_BinarySearch_int_int.l0 k1 l0 a1 (l0.length : Int) x7_1 ji4))) else (none)) else (none)) = some (r1, r2) := by first | (rw [hji4] at H; exact H) | (simp only [hji4] at H ⊢; exact H)
     have hji4w : (IntKind.i64.wrap ((IntKind.u64.wrap (wrap64 (x7_1 + x8_1))) / 2)) = ji4 := (i64_w _).trans hji4
     by_cases c5 : 0 ≤ (ji4)
     ·rw [if_pos c5] at H
      have c5b0 : decide (0 ≤ (ji4)) = true := decide_eq_true c5
      clear c5
      by_cases c6 : (ji4) < (l0.length : Int)
      ·rw [if_pos c6] at H
       have c6b0 : decide ((ji4) < (l0.length : Int)) = true := decide_eq_true c6
       clear c6; replace H := Option.bind_eq_some_iff.mp H; obtain ⟨t396, A70, H⟩ := H
       have A7 := Qx A70; clear A70
       by_cases c8 : t396 = true
       ·subst c8
        have H1 : (slices_BinarySearch_int_int.l0 k1 l0 a1 (l0.length : Int) (wrap64 ((ji4) + 1)) x8_1) = some (r1, r2) := by rw [if_pos rfl] at H; exact H
        clear H; have H := H1; clear H1; have H' := Qx H; clear H
        have p395 : 0 ≤ ((ji4) : Int) := of_decide_eq_true as_
        have q395 : (ji4) < (l0.length : Int) := of_decide_eq_true as_
        obtain ⟨ad395, e395, hx395_0⟩ := Kd.at_int HR0.out (ji4) p395 q395
        cases e395
        replace p395 := eq_true p395; replace q395 := eq_true q395
        go_wp2_with (first | ((with_reducible refine gate_callee (f := 53) rfl ?_); refine goesL_ (some 27) rfl rfl Try.func53 (by kernel_rfl) rfl #[.int .i64 (rd l0 (ji4)), .int .i64 a1] rfl (by (try simp only [List.map_toArray, List.map_cons, List.map_nil]); first | done | (simp only [hji4]; rfl) | rfl | (simp only [List.length_drop, List.length_take]; rfl)) ?_; (with_reducible refine (cmp_Less_int.calls (rd l0 (ji4)) a1 true _ A7.out).mono ?_); rintro e w' ⟨rfl, ⟨nd, rfl⟩⟩; refine ⟨_, rfl, ?_⟩))
        go_roundg k1
        case measure => have := HK1.out; omega
        case rel => exact ⟨(wrap64 ((ji4) + 1)), (x8_1), (by first | rfl | (simp; done) | (simp only [← hji4] <;> (first | rfl | simp)) | (simp [*]; done)), rg_, H', ⟨by have := HK1.out; omega⟩, by repeat (first | exact Drawn0.refl _ | apply Drawn0.step)⟩
       ·replace c8 := Bool.eq_false_iff.mpr c8; subst c8
        have H1 : (slices_BinarySearch_int_int.l0 k1 l0 a1 (l0.length : Int) x7_1 ji4) = some (r1, r2) := by rw [if_neg (show ¬ (false = true) by decide)] at H; exact H
        clear H; have H := H1; clear H1; have H' := Qx H; clear H
        have p395 : 0 ≤ ((ji4) : Int) := of_decide_eq_true as_
        have q395 : (ji4) < (l0.length : Int) := of_decide_eq_true as_
        obtain ⟨ad395, e395, hx395_0⟩ := Kd.at_int HR0.out (ji4) p395 q395
        cases e395
        replace p395 := eq_true p395; replace q395 := eq_true q395
        go_wp2_with (first | ((with_reducible refine gate_callee (f := 53) rfl ?_); refine goesL_ (some 27) rfl rfl Try.func53 (by kernel_rfl) rfl #[.int .i64 (rd l0 (ji4)), .int .i64 a1] rfl (by (try simp only [List.map_toArray, List.map_cons, List.map_nil]); first | done | (simp only [hji4]; rfl) | rfl | (simp only [List.length_drop, List.length_take]; rfl)) ?_; (with_reducible refine (cmp_Less_int.calls (rd l0 (ji4)) a1 false _ A7.out).mono ?_); rintro e w' ⟨rfl, ⟨nd, rfl⟩⟩; refine ⟨_, rfl, ?_⟩))
        go_roundg k1
        case measure => have := HK1.out; omega
        case rel => exact ⟨(x7_1), (ji4), rg_, (by first | rfl | (simp; done) | (simp only [← hji4] <;> (first | rfl | simp)) | (simp [*]; done)), H', ⟨by have := HK1.out; omega⟩, by repeat (first | exact Drawn0.refl _ | apply Drawn0.step)⟩
      ·rw [if_neg c6] at H
       exact absurd H (by simp)
     ·rw [if_neg c5] at H
      exact absurd H (by simp)
    ·rw [if_neg c3] at H
     have c3b0 : decide (x7_1 < x8_1) = false := decide_eq_false c3
     clear c3
     by_cases c9 : x7_1 < (l0.length : Int)
     ·rw [if_pos c9] at H
      have c9b0 : decide (x7_1 < (l0.length : Int)) = true := decide_eq_true c9
      clear c9
      by_cases c10 : 0 ≤ x7_1
      ·rw [if_pos c10] at H
       have c10b0 : decide (0 ≤ x7_1) = true := decide_eq_true c10
       clear c10
       by_cases c11 : x7_1 < (l0.length : Int)
       ·rw [if_pos c11] at H
        have c11b0 : decide (x7_1 < (l0.length : Int)) = true := decide_eq_true c11
        clear c11
        by_cases c12 : (rd l0 x7_1) = a1
        ·rw [if_pos c12] at H
         have c12b0 : ((rd l0 x7_1) == a1) = true := beq_iff_eq.mpr c12
         have c12b1 : ((rd l0 x7_1) != a1) = false := bne_eq_false_iff_eq.mpr c12
         clear c12; simp only [Option.some.injEq, Prod.mk.injEq] at H; obtain ⟨rfl, rfl⟩ := H
         have p397 : 0 ≤ (x7_1 : Int) := of_decide_eq_true as_
         have q397 : x7_1 < (l0.length : Int) := of_decide_eq_true as_
         obtain ⟨ad397, e397, hx397_0⟩ := Kd.at_int HR0.out x7_1 p397 q397
         cases e397
         replace p397 := eq_true p397; replace q397 := eq_true q397
         go_wp2
         go_ret2
         exact ⟨rg_, by repeat (first | exact Drawn0.refl _ | apply Drawn0.step)⟩
        ·rw [if_neg c12] at H
         have c12b0 : ((rd l0 x7_1) == a1) = false := beq_eq_false_iff_ne.mpr c12
         have c12b1 : ((rd l0 x7_1) != a1) = true := bne_iff_ne.mpr c12
         replace H := Option.bind_eq_some_iff.mp H; obtain ⟨t399, A130, H⟩ := H
         have A13 := Qx A130; clear A130
         by_cases c14 : t399 = true
         ·subst c14
          have H1 : ((slices_isNaN_int.f a1).bind fun t400 => (some (x7_1, t400))) = some (r1, r2) := by rw [if_pos rfl] at H; exact H
          clear H; have H := H1; clear H1; replace H := Option.bind_eq_some_iff.mp H; obtain ⟨t400, A150, H⟩ := H
          have A15 := Qx A150; clear A150; simp only [Option.some.injEq, Prod.mk.injEq] at H; obtain ⟨rfl, rfl⟩ := H
          have p397 : 0 ≤ (x7_1 : Int) := of_decide_eq_true as_
          have q397 : x7_1 < (l0.length : Int) := of_decide_eq_true as_
          obtain ⟨ad397, e397, hx397_0⟩ := Kd.at_int HR0.out x7_1 p397 q397
          cases e397
          replace p397 := eq_true p397; replace q397 := eq_true q397
          have p398 : 0 ≤ (x7_1 : Int) := of_decide_eq_true as_
          have q398 : x7_1 < (l0.length : Int) := of_decide_eq_true as_
          obtain ⟨ad398, e398, hx398_0⟩ := Kd.at_int HR0.out x7_1 p398 q398
          obtain rfl : ad397 = ad398 := (by injection e398)
          replace p398 := eq_true p398; replace q398 := eq_true q398
          go_wp2_with (first | (go_at_call 54; (with_reducible refine (slices_isNaN_int.calls (rd l0 x7_1) true _ A13.out).mono ?_); rintro e w' ⟨rfl, ⟨nd, rfl⟩⟩) | (go_at_call 54; (with_reducible refine (slices_isNaN_int.calls a1 t400 _ A15.out).mono ?_); rintro e w' ⟨rfl, ⟨nd, rfl⟩⟩))
          go_ret2
          exact ⟨rg_, by repeat (first | exact Drawn0.refl _ | apply Drawn0.step)⟩
         ·replace c14 := Bool.eq_false_iff.mpr c14; subst c14
          have H1 : (some (x7_1, false)) = some (r1, r2) := by rw [if_neg (show ¬ (false = true) by decide)] at H; exact H
          clear H; have H := H1; clear H1; simp only [Option.some.injEq, Prod.mk.injEq] at H; obtain ⟨rfl, rfl⟩ := H
          have p397 : 0 ≤ (x7_1 : Int) := of_decide_eq_true as_
          have q397 : x7_1 < (l0.length : Int) := of_decide_eq_true as_
          obtain ⟨ad397, e397, hx397_0⟩ := Kd.at_int HR0.out x7_1 p397 q397
          cases e397
          replace p397 := eq_true p397; replace q397 := eq_true q397
          have p398 : 0 ≤ (x7_1 : Int) := of_decide_eq_true as_
          have q398 : x7_1 < (l0.length : Int) := of_decide_eq_true as_
          obtain ⟨ad398, e398, hx398_0⟩ := Kd.at_int HR0.out x7_1 p398 q398
          obtain rfl : ad397 = ad398 := (by injection e398)
          replace p398 := eq_true p398; replace q398 := eq_true q398
          go_wp2_with (first | (go_at_call 54; (with_reducible refine (slices_isNaN_int.calls (rd l0 x7_1) false _ A13.out).mono ?_); rintro e w' ⟨rfl, ⟨nd, rfl⟩⟩))
          go_ret2
          exact ⟨rg_, by repeat (first | exact Drawn0.refl _ | apply Drawn0.step)⟩
       ·rw [if_neg c11] at H
        exact absurd H (by simp)
      ·rw [if_neg c10] at H
       exact absurd H (by simp)
     ·rw [if_neg c9] at H
      have c9b0 : decide (x7_1 < (l0.length : Int)) = false := decide_eq_false c9
      clear c9; simp only [Option.some.injEq, Prod.mk.injEq] at H; obtain ⟨rfl, rfl⟩ := H
      go_wp2
      go_ret2
      exact ⟨rg_, by repeat (first | exact Drawn0.refl _ | apply Drawn0.step)⟩
/-! ### impl_below: function 26 -/
def impl_below.f (k : Nat) (l0 : List Int) (a1 : Int) : Option (Int) := (slices_BinarySearch_int_int.f k l0 a1).bind fun bt401 => (some bt401.1)
theorem impl_below.mono : ∀ a0 a1 k, LeO (impl_below.f k a0 a1) (impl_below.f (k + 1) a0 a1) := by
  intro a0 a1 k
  unfold impl_below.f
  repeat' first
      | (with_reducible exact slices_BinarySearch_int_int.mono _ _ _)
      | (with_reducible exact LeO.refl _)
      | (with_reducible exact LeO.none _)
      | (with_reducible refine LeO.ite ?_ ?_)
      | (with_reducible refine LeO.bind ?_ (fun _ => ?_))
      | exact slices_BinarySearch_int_int.mono _ _ _
      | exact LeO.none _
      | refine LeO.ite ?_ ?_
      | refine LeO.bind ?_ (fun _ => ?_)
noncomputable def impl_below.F (l0 : List Int) (a1 : Int) : Option (Int) := lim fun k => impl_below.f k l0 a1
theorem impl_below.F_sup (l0 : List Int) (a1 : Int) : Sup (fun k => impl_below.f k l0 a1) (impl_below.F l0 a1) := Sup.of_mono fun k => impl_below.mono l0 a1 k
theorem impl_below.F_eq (l0 : List Int) (a1 : Int) : impl_below.F l0 a1 = (slices_BinarySearch_int_int.F l0 a1).bind fun bt401 => (some bt401.1) := by
  refine Sup.unique (impl_below.F_sup l0 a1) (Sup.congr (g' := fun k => (slices_BinarySearch_int_int.f k l0 a1).bind fun bt401 => (some bt401.1)) (fun k => by first | rfl | simp only [impl_below.f]) ?_)
  repeat' first
    | (with_reducible exact slices_BinarySearch_int_int.F_sup _ _)
    | (with_reducible refine Sup.ite ?_ ?_)
    | (with_reducible refine Sup.bind ?_ (fun _ => ?_))
    | (with_reducible exact Sup.const _)
    | exact slices_BinarySearch_int_int.F_sup _ _
    | exact Sup.const _
set_option maxHeartbeats 8000000 in
set_option maxRecDepth 100000 in
theorem impl_below.calls (k : Nat) (A0 : Option Addr) (c0 : Nat) (l0 : List Int) (a1 : Int) (r : Int) (w : World) (hr0 : Kd.C (Kd.int .i64) w A0 l0.length l0) (hc0 : l0.length ≤ c0) (h : impl_below.f k l0 a1 = some r) :
    Calls Try.prog 26 #[.slice A0 l0.length c0, .int .i64 a1] w fun e w' => e = .returned (.int .i64 r) ∧ Drawn0 w w' := by
  have HR0 := Qx hr0; have HC0 := Qx hc0; clear hr0 hc0
  have H : ((slices_BinarySearch_int_int.f k l0 a1).bind fun bt401 => (some bt401.1)) = some r := h
  clear h; replace H := Option.bind_eq_some_iff.mp H; obtain ⟨⟨t401, t402⟩, A30, H⟩ := H
  have A3 := Qx A30; clear A30; obtain rfl := Option.some.inj H
  go_enter Try.func26, Try.ntmps26
  go_wp2_with (first | ((with_reducible refine gate_callee (f := 46) rfl ?_); refine gl_ 10 Try.func46 #[.slice A0 l0.length c0, .int .i64 a1] ?_; (with_reducible refine (slices_BinarySearch_int_int.calls k _ _ l0 a1 t401 t402 _ ?side1 ?side2 A3.out).mono ?_); (case side1 => exact kE_ HR0); (case side2 => exact HC0.out); rintro e w' ⟨rfl, ⟨nd, rfl⟩⟩; refine ⟨_, rfl, ?_⟩))
  go_ret
  exact ⟨rg_, by repeat (first | exact Drawn0.refl _ | apply Drawn0.step)⟩
/-! ### impl_CountBelow: function 13 -/
def impl_CountBelow.f (k : Nat) (a0_0 : Int) (a0_1 : Int) (a0_2 : Int) (a0_3 : Int) (l0_4 : List Int) (a0_5 : Int) (l0_6 : List Int) (a1 : Int) : Option (Int × Bool) := (impl_Sparse_numbers.f k a0_0 a0_1 a0_2 a0_3 l0_4 a0_5 l0_6).bind fun bt404 => (if bt404.2 = true then ((impl_in.f a1 0 a0_1).bind fun t408 => (if t408 = true then ((impl_below.f k bt404.1 a1).bind fun t409 => (some (t409, true))) else (some (0, false)))) else (some (0, false)))
theorem impl_CountBelow.mono : ∀ a0 a1 a2 a3 a4 a5 a6 a7 k, LeO (impl_CountBelow.f k a0 a1 a2 a3 a4 a5 a6 a7) (impl_CountBelow.f (k + 1) a0 a1 a2 a3 a4 a5 a6 a7) := by
  intro a0 a1 a2 a3 a4 a5 a6 a7 k
  unfold impl_CountBelow.f
  repeat' first
      | (with_reducible exact impl_Sparse_numbers.mono _ _ _ _ _ _ _ _)
      | (with_reducible exact impl_below.mono _ _ _)
      | (with_reducible exact LeO.refl _)
      | (with_reducible exact LeO.none _)
      | (with_reducible refine LeO.ite ?_ ?_)
      | (with_reducible refine LeO.bind ?_ (fun _ => ?_))
      | exact impl_Sparse_numbers.mono _ _ _ _ _ _ _ _
      | exact impl_below.mono _ _ _
      | exact LeO.none _
      | refine LeO.ite ?_ ?_
      | refine LeO.bind ?_ (fun _ => ?_)
noncomputable def impl_CountBelow.F (a0_0 : Int) (a0_1 : Int) (a0_2 : Int) (a0_3 : Int) (l0_4 : List Int) (a0_5 : Int) (l0_6 : List Int) (a1 : Int) : Option (Int × Bool) := lim fun k => impl_CountBelow.f k a0_0 a0_1 a0_2 a0_3 l0_4 a0_5 l0_6 a1
theorem impl_CountBelow.F_sup (a0_0 : Int) (a0_1 : Int) (a0_2 : Int) (a0_3 : Int) (l0_4 : List Int) (a0_5 : Int) (l0_6 : List Int) (a1 : Int) : Sup (fun k => impl_CountBelow.f k a0_0 a0_1 a0_2 a0_3 l0_4 a0_5 l0_6 a1) (impl_CountBelow.F a0_0 a0_1 a0_2 a0_3 l0_4 a0_5 l0_6 a1) := Sup.of_mono fun k => impl_CountBelow.mono a0_0 a0_1 a0_2 a0_3 l0_4 a0_5 l0_6 a1 k
theorem impl_CountBelow.F_eq (a0_0 : Int) (a0_1 : Int) (a0_2 : Int) (a0_3 : Int) (l0_4 : List Int) (a0_5 : Int) (l0_6 : List Int) (a1 : Int) : impl_CountBelow.F a0_0 a0_1 a0_2 a0_3 l0_4 a0_5 l0_6 a1 = (impl_Sparse_numbers.F a0_0 a0_1 a0_2 a0_3 l0_4 a0_5 l0_6).bind fun bt404 => (if bt404.2 = true then ((impl_in.f a1 0 a0_1).bind fun t408 => (if t408 = true then ((impl_below.F bt404.1 a1).bind fun t409 => (some (t409, true))) else (some (0, false)))) else (some (0, false))) := by
  refine Sup.unique (impl_CountBelow.F_sup a0_0 a0_1 a0_2 a0_3 l0_4 a0_5 l0_6 a1) (Sup.congr (g' := fun k => (impl_Sparse_numbers.f k a0_0 a0_1 a0_2 a0_3 l0_4 a0_5 l0_6).bind fun bt404 => (if bt404.2 = true then ((impl_in.f a1 0 a0_1).bind fun t408 => (if t408 = true then ((impl_below.f k bt404.1 a1).bind fun t409 => (some (t409, true))) else (some (0, false)))) else (some (0, false)))) (fun k => by first | rfl | simp only [impl_CountBelow.f]) ?_)
  repeat' first
    | (with_reducible exact impl_Sparse_numbers.F_sup _ _ _ _ _ _ _)
    | (with_reducible exact impl_below.F_sup _ _)
    | (with_reducible refine Sup.ite ?_ ?_)
    | (with_reducible refine Sup.bind ?_ (fun _ => ?_))
    | (with_reducible exact Sup.const _)
    | exact impl_Sparse_numbers.F_sup _ _ _ _ _ _ _
    | exact impl_below.F_sup _ _
    | exact Sup.const _
set_option maxHeartbeats 8000000 in
set_option maxRecDepth 100000 in
theorem impl_CountBelow.calls (k : Nat) (a0_0 : Int) (a0_1 : Int) (a0_2 : Int) (a0_3 : Int) (A0_4 : Option Addr) (c0_4 : Nat) (l0_4 : List Int) (a0_5 : Int) (A0_6 : Option Addr) (c0_6 : Nat) (l0_6 : List Int) (a1 : Int) (r1 : Int) (r2 : Bool) (w : World) (hr0_4 : Kd.C (Kd.int .i64) w A0_4 l0_4.length l0_4) (hc0_4 : l0_4.length ≤ c0_4) (hr0_6 : Kd.C (Kd.int .i64) w A0_6 l0_6.length l0_6) (hc0_6 : l0_6.length ≤ c0_6) (h : impl_CountBelow.f k a0_0 a0_1 a0_2 a0_3 l0_4 a0_5 l0_6 a1 = some (r1, r2)) :
    Calls Try.prog 13 #[.agg #[.int .i64 a0_0, .int .i64 a0_1, .int .i64 a0_2, .int .i64 a0_3, .slice A0_4 l0_4.length c0_4, .int .i64 a0_5, .slice A0_6 l0_6.length c0_6], .int .i64 a1] w fun e w' => e = .returned (.tuple #[.int .i64 r1, .bool r2]) ∧ Below w.heap.size w w' := by
  have hu30 := Try.underlying30; have HR0_4 := Qx hr0_4; have HC0_4 := Qx hc0_4; clear hr0_4 hc0_4; have HR0_6 := Qx hr0_6; have HC0_6 := Qx hc0_6; clear hr0_6 hc0_6
  have HB := Qx (Below.refl w.heap.size w)
  have H : ((impl_Sparse_numbers.f k a0_0 a0_1 a0_2 a0_3 l0_4 a0_5 l0_6).bind fun bt404 => (if bt404.2 = true then ((impl_in.f a1 0 a0_1).bind fun t408 => (if t408 = true then ((impl_below.f k bt404.1 a1).bind fun t409 => (some (t409, true))) else (some (0, false)))) else (some (0, false)))) = some (r1, r2) := h
  clear h; replace H := Option.bind_eq_some_iff.mp H; obtain ⟨⟨t404, t407⟩, A30, H⟩ := H
  have A3 := Qx A30; clear A30
  by_cases c4 : t407 = true
  ·subst c4
   have H1 : ((impl_in.f a1 0 a0_1).bind fun t408 => (if t408 = true then ((impl_below.f k t404 a1).bind fun t409 => (some (t409, true))) else (some (0, false)))) = some (r1, r2) := by rw [if_pos rfl] at H; exact H
   clear H; have H := H1; clear H1; replace H := Option.bind_eq_some_iff.mp H; obtain ⟨t408, A50, H⟩ := H
   have A5 := Qx A50; clear A50
   by_cases c6 : t408 = true
   ·subst c6
    have H1 : ((impl_below.f k t404 a1).bind fun t409 => (some (t409, true))) = some (r1, r2) := by rw [if_pos rfl] at H; exact H
    clear H; have H := H1; clear H1; replace H := Option.bind_eq_some_iff.mp H; obtain ⟨t409, A70, H⟩ := H
    have A7 := Qx A70; clear A70; simp only [Option.some.injEq, Prod.mk.injEq] at H; obtain ⟨rfl, rfl⟩ := H
    go_enter Try.func13, Try.ntmps13
    go_wp2_with (first | ((with_reducible refine gate_dst (N := 2) rfl ?_); refine bx_ 2 #[.int .i64 a0_0, .int .i64 a0_1, .int .i64 a0_2, .int .i64 a0_3, .slice A0_4 l0_4.length c0_4, .int .i64 a0_5, .slice A0_6 l0_6.length c0_6] 30 ?_; intro gb403 hg w8 hbox hb; have BK403 := Qx (hbox); have GW403 := Qx ((ge_ hg)); have GE403 := Qx ((ge_ hg)); replace HB := Qx (Qp hB_ hb); clear hb hbox hg) | ((with_reducible refine gate_callee (f := 23) rfl ?_); refine gl_ 9 Try.func23 #[.pointer (some ⟨gb403, 0, none⟩)] ?_; (with_reducible refine (impl_Sparse_numbers.calls k gb403 a0_0 a0_1 a0_2 a0_3 A0_4 c0_4 l0_4 a0_5 A0_6 c0_6 l0_6 t404 true _ ?side1 ?side2 ?side3 ?side4 ?side5 A3.out).mono ?_); (case side1 => exact kC_ HR0_4); (case side2 => exact HC0_4.out); (case side3 => exact kC_ HR0_6); (case side4 => exact HC0_6.out); (case side5 => exact (kB_ BK403)); rintro e w9 ⟨v405, rfl, ho0, hb⟩; refine ⟨_, rfl, ?_⟩; have HO406 := Qx (Kd.R_lower ho0 (Qz hB_)); replace BK403 := Qx (Qb (kB_ BK403) hb); replace HB := Qx (Qp hB_ hb); (try clear hb); (try clear hb2); (try clear hk); (try clear hi); (try clear ho0); obtain ⟨hcz10_0, hcz10_1, hcz10_2, hcz10_3, hcz10_4, hcz10_5, hcz10_6, hfz10_0, hfz10_1, hfz10_2, hfz10_3, hfz10_4, hfz10_5, hfz10_6⟩ := cellsQ7_g1e (w := w9) BK403.out) | (go_at_call 25; (with_reducible refine (impl_in.calls a1 0 a0_1 true _ A5.out).mono ?_); rintro e w' ⟨rfl, ⟨nd, rfl⟩⟩; obtain ⟨Ao11, co11, eo11⟩ := Kd.R_slice HO406.out; subst eo11) | ((with_reducible refine gate_callee (f := 26) rfl ?_); refine gl_ 23 Try.func26 #[.slice Ao11 t404.length co11, .int .i64 a1] ?_; (with_reducible refine (impl_below.calls k _ _ t404 a1 t409 _ ?side1 ?side2 A7.out).mono ?_); (case side1 => exact kD_ HO406); (case side2 => exact (Kd.R_reads' HO406.out).2.1); rintro e w' ⟨rfl, ⟨nd, rfl⟩⟩; refine ⟨_, rfl, ?_⟩))
    go_ret2
    exact ⟨rf_, hB_⟩
   ·replace c6 := Bool.eq_false_iff.mpr c6; subst c6
    have H1 : (some (0, false)) = some (r1, r2) := by rw [if_neg (show ¬ (false = true) by decide)] at H; exact H
    clear H; have H := H1; clear H1; simp only [Option.some.injEq, Prod.mk.injEq] at H; obtain ⟨rfl, rfl⟩ := H
    go_enter Try.func13, Try.ntmps13
    go_wp2_with (first | ((with_reducible refine gate_dst (N := 2) rfl ?_); refine bx_ 2 #[.int .i64 a0_0, .int .i64 a0_1, .int .i64 a0_2, .int .i64 a0_3, .slice A0_4 l0_4.length c0_4, .int .i64 a0_5, .slice A0_6 l0_6.length c0_6] 30 ?_; intro gb403 hg w12 hbox hb; have BK403 := Qx (hbox); have GW403 := Qx ((ge_ hg)); have GE403 := Qx ((ge_ hg)); replace HB := Qx (Qp hB_ hb); clear hb hbox hg) | ((with_reducible refine gate_callee (f := 23) rfl ?_); refine gl_ 9 Try.func23 #[.pointer (some ⟨gb403, 0, none⟩)] ?_; (with_reducible refine (impl_Sparse_numbers.calls k gb403 a0_0 a0_1 a0_2 a0_3 A0_4 c0_4 l0_4 a0_5 A0_6 c0_6 l0_6 t404 true _ ?side1 ?side2 ?side3 ?side4 ?side5 A3.out).mono ?_); (case side1 => exact kC_ HR0_4); (case side2 => exact HC0_4.out); (case side3 => exact kC_ HR0_6); (case side4 => exact HC0_6.out); (case side5 => exact (kB_ BK403)); rintro e w13 ⟨v405, rfl, ho0, hb⟩; refine ⟨_, rfl, ?_⟩; have HO406 := Qx (Kd.R_lower ho0 (Qz hB_)); replace BK403 := Qx (Qb (kB_ BK403) hb); replace HB := Qx (Qp hB_ hb); (try clear hb); (try clear hb2); (try clear hk); (try clear hi); (try clear ho0); obtain ⟨hcz14_0, hcz14_1, hcz14_2, hcz14_3, hcz14_4, hcz14_5, hcz14_6, hfz14_0, hfz14_1, hfz14_2, hfz14_3, hfz14_4, hfz14_5, hfz14_6⟩ := cellsQ7_g1e (w := w13) BK403.out) | (go_at_call 25; (with_reducible refine (impl_in.calls a1 0 a0_1 false _ A5.out).mono ?_); rintro e w' ⟨rfl, ⟨nd, rfl⟩⟩))
    go_ret2
    exact ⟨rf_, hB_⟩
  ·replace c4 := Bool.eq_false_iff.mpr c4; subst c4
   have H1 : (some (0, false)) = some (r1, r2) := by rw [if_neg (show ¬ (false = true) by decide)] at H; exact H
   clear H; have H := H1; clear H1; simp only [Option.some.injEq, Prod.mk.injEq] at H; obtain ⟨rfl, rfl⟩ := H
   go_enter Try.func13, Try.ntmps13
   go_wp2_with (first | ((with_reducible refine gate_dst (N := 2) rfl ?_); refine bx_ 2 #[.int .i64 a0_0, .int .i64 a0_1, .int .i64 a0_2, .int .i64 a0_3, .slice A0_4 l0_4.length c0_4, .int .i64 a0_5, .slice A0_6 l0_6.length c0_6] 30 ?_; intro gb403 hg w15 hbox hb; have BK403 := Qx (hbox); have GW403 := Qx ((ge_ hg)); have GE403 := Qx ((ge_ hg)); replace HB := Qx (Qp hB_ hb); clear hb hbox hg) | ((with_reducible refine gate_callee (f := 23) rfl ?_); refine gl_ 9 Try.func23 #[.pointer (some ⟨gb403, 0, none⟩)] ?_; (with_reducible refine (impl_Sparse_numbers.calls k gb403 a0_0 a0_1 a0_2 a0_3 A0_4 c0_4 l0_4 a0_5 A0_6 c0_6 l0_6 t404 false _ ?side1 ?side2 ?side3 ?side4 ?side5 A3.out).mono ?_); (case side1 => exact kC_ HR0_4); (case side2 => exact HC0_4.out); (case side3 => exact kC_ HR0_6); (case side4 => exact HC0_6.out); (case side5 => exact (kB_ BK403)); rintro e w16 ⟨v405, rfl, ho0, hb⟩; refine ⟨_, rfl, ?_⟩; have HO406 := Qx (Kd.R_lower ho0 (Qz hB_)); replace BK403 := Qx (Qb (kB_ BK403) hb); replace HB := Qx (Qp hB_ hb); (try clear hb); (try clear hb2); (try clear hk); (try clear hi); (try clear ho0)))
   go_ret2
   exact ⟨rf_, hB_⟩
/-! ### impl_LastAtMost: function 14 -/
def impl_LastAtMost.f (k : Nat) (a0_0 : Int) (a0_1 : Int) (a0_2 : Int) (a0_3 : Int) (l0_4 : List Int) (a0_5 : Int) (l0_6 : List Int) (a1 : Int) : Option (Int × Bool) := (impl_Sparse_numbers.f k a0_0 a0_1 a0_2 a0_3 l0_4 a0_5 l0_6).bind fun bt411 => (if bt411.2 = true then ((impl_in.f a1 0 (wrap64 (a0_1 - 1))).bind fun t415 => (if t415 = true then ((impl_below.f k bt411.1 (wrap64 (a1 + 1))).bind fun t416 => (if t416 = 0 then (some (0, false)) else ((impl_below.f k bt411.1 (wrap64 (a1 + 1))).bind fun t417 => (some (wrap64 (t417 - 1), true))))) else (some (0, false)))) else (some (0, false)))
theorem impl_LastAtMost.mono : ∀ a0 a1 a2 a3 a4 a5 a6 a7 k, LeO (impl_LastAtMost.f k a0 a1 a2 a3 a4 a5 a6 a7) (impl_LastAtMost.f (k + 1) a0 a1 a2 a3 a4 a5 a6 a7) := by
  intro a0 a1 a2 a3 a4 a5 a6 a7 k
  unfold impl_LastAtMost.f
  repeat' first
      | (with_reducible exact impl_Sparse_numbers.mono _ _ _ _ _ _ _ _)
      | (with_reducible exact impl_below.mono _ _ _)
      | (with_reducible exact LeO.refl _)
      | (with_reducible exact LeO.none _)
      | (with_reducible refine LeO.ite ?_ ?_)
      | (with_reducible refine LeO.bind ?_ (fun _ => ?_))
      | exact impl_Sparse_numbers.mono _ _ _ _ _ _ _ _
      | exact impl_below.mono _ _ _
      | exact LeO.none _
      | refine LeO.ite ?_ ?_
      | refine LeO.bind ?_ (fun _ => ?_)
noncomputable def impl_LastAtMost.F (a0_0 : Int) (a0_1 : Int) (a0_2 : Int) (a0_3 : Int) (l0_4 : List Int) (a0_5 : Int) (l0_6 : List Int) (a1 : Int) : Option (Int × Bool) := lim fun k => impl_LastAtMost.f k a0_0 a0_1 a0_2 a0_3 l0_4 a0_5 l0_6 a1
theorem impl_LastAtMost.F_sup (a0_0 : Int) (a0_1 : Int) (a0_2 : Int) (a0_3 : Int) (l0_4 : List Int) (a0_5 : Int) (l0_6 : List Int) (a1 : Int) : Sup (fun k => impl_LastAtMost.f k a0_0 a0_1 a0_2 a0_3 l0_4 a0_5 l0_6 a1) (impl_LastAtMost.F a0_0 a0_1 a0_2 a0_3 l0_4 a0_5 l0_6 a1) := Sup.of_mono fun k => impl_LastAtMost.mono a0_0 a0_1 a0_2 a0_3 l0_4 a0_5 l0_6 a1 k
theorem impl_LastAtMost.F_eq (a0_0 : Int) (a0_1 : Int) (a0_2 : Int) (a0_3 : Int) (l0_4 : List Int) (a0_5 : Int) (l0_6 : List Int) (a1 : Int) : impl_LastAtMost.F a0_0 a0_1 a0_2 a0_3 l0_4 a0_5 l0_6 a1 = (impl_Sparse_numbers.F a0_0 a0_1 a0_2 a0_3 l0_4 a0_5 l0_6).bind fun bt411 => (if bt411.2 = true then ((impl_in.f a1 0 (wrap64 (a0_1 - 1))).bind fun t415 => (if t415 = true then ((impl_below.F bt411.1 (wrap64 (a1 + 1))).bind fun t416 => (if t416 = 0 then (some (0, false)) else ((impl_below.F bt411.1 (wrap64 (a1 + 1))).bind fun t417 => (some (wrap64 (t417 - 1), true))))) else (some (0, false)))) else (some (0, false))) := by
  refine Sup.unique (impl_LastAtMost.F_sup a0_0 a0_1 a0_2 a0_3 l0_4 a0_5 l0_6 a1) (Sup.congr (g' := fun k => (impl_Sparse_numbers.f k a0_0 a0_1 a0_2 a0_3 l0_4 a0_5 l0_6).bind fun bt411 => (if bt411.2 = true then ((impl_in.f a1 0 (wrap64 (a0_1 - 1))).bind fun t415 => (if t415 = true then ((impl_below.f k bt411.1 (wrap64 (a1 + 1))).bind fun t416 => (if t416 = 0 then (some (0, false)) else ((impl_below.f k bt411.1 (wrap64 (a1 + 1))).bind fun t417 => (some (wrap64 (t417 - 1), true))))) else (some (0, false)))) else (some (0, false)))) (fun k => by first | rfl | simp only [impl_LastAtMost.f]) ?_)
  repeat' first
    | (with_reducible exact impl_Sparse_numbers.F_sup _ _ _ _ _ _ _)
    | (with_reducible exact impl_below.F_sup _ _)
    | (with_reducible refine Sup.ite ?_ ?_)
    | (with_reducible refine Sup.bind ?_ (fun _ => ?_))
    | (with_reducible exact Sup.const _)
    | exact impl_Sparse_numbers.F_sup _ _ _ _ _ _ _
    | exact impl_below.F_sup _ _
    | exact Sup.const _
set_option maxHeartbeats 8000000 in
set_option maxRecDepth 100000 in
theorem impl_LastAtMost.calls (k : Nat) (a0_0 : Int) (a0_1 : Int) (a0_2 : Int) (a0_3 : Int) (A0_4 : Option Addr) (c0_4 : Nat) (l0_4 : List Int) (a0_5 : Int) (A0_6 : Option Addr) (c0_6 : Nat) (l0_6 : List Int) (a1 : Int) (r1 : Int) (r2 : Bool) (w : World) (hr0_4 : Kd.C (Kd.int .i64) w A0_4 l0_4.length l0_4) (hc0_4 : l0_4.length ≤ c0_4) (hr0_6 : Kd.C (Kd.int .i64) w A0_6 l0_6.length l0_6) (hc0_6 : l0_6.length ≤ c0_6) (h : impl_LastAtMost.f k a0_0 a0_1 a0_2 a0_3 l0_4 a0_5 l0_6 a1 = some (r1, r2)) :
    Calls Try.prog 14 #[.agg #[.int .i64 a0_0, .int .i64 a0_1, .int .i64 a0_2, .int .i64 a0_3, .slice A0_4 l0_4.length c0_4, .int .i64 a0_5, .slice A0_6 l0_6.length c0_6], .int .i64 a1] w fun e w' => e = .returned (.tuple #[.int .i64 r1, .bool r2]) ∧ Below w.heap.size w w' := by
  have hu30 := Try.underlying30; have HR0_4 := Qx hr0_4; have HC0_4 := Qx hc0_4; clear hr0_4 hc0_4; have HR0_6 := Qx hr0_6; have HC0_6 := Qx hc0_6; clear hr0_6 hc0_6
  have HB := Qx (Below.refl w.heap.size w)
  have H : ((impl_Sparse_numbers.f k a0_0 a0_1 a0_2 a0_3 l0_4 a0_5 l0_6).bind fun bt411 => (if bt411.2 = true then ((impl_in.f a1 0 (wrap64 (a0_1 - 1))).bind fun t415 => (if t415 = true then ((impl_below.f k bt411.1 (wrap64 (a1 + 1))).bind fun t416 => (if t416 = 0 then (some (0, false)) else ((impl_below.f k bt411.1 (wrap64 (a1 + 1))).bind fun t417 => (some (wrap64 (t417 - 1), true))))) else (some (0, false)))) else (some (0, false)))) = some (r1, r2) := h
  clear h; replace H := Option.bind_eq_some_iff.mp H; obtain ⟨⟨t411, t414⟩, A30, H⟩ := H
  have A3 := Qx A30; clear A30
  by_cases c4 : t414 = true
  ·subst c4
   have H1 : ((impl_in.f a1 0 (wrap64 (a0_1 - 1))).bind fun t415 => (if t415 = true then ((impl_below.f k t411 (wrap64 (a1 + 1))).bind fun t416 => (if t416 = 0 then (some (0, false)) else ((impl_below.f k t411 (wrap64 (a1 + 1))).bind fun t417 => (some (wrap64 (t417 - 1), true))))) else (some (0, false)))) = some (r1, r2) := by rw [if_pos rfl] at H; exact H
   clear H; have H := H1; clear H1; replace H := Option.bind_eq_some_iff.mp H; obtain ⟨t415, A50, H⟩ := H
   have A5 := Qx A50; clear A50
   by_cases c6 : t415 = true
   ·subst c6
    have H1 : ((impl_below.f k t411 (wrap64 (a1 + 1))).bind fun t416 => (if t416 = 0 then (some (0, false)) else ((impl_below.f k t411 (wrap64 (a1 + 1))).bind fun t417 => (some (wrap64 (t417 - 1), true))))) = some (r1, r2) := by rw [if_pos rfl] at H; exact H
    clear H; have H := H1; clear H1; replace H := Option.bind_eq_some_iff.mp H; obtain ⟨t416, A70, H⟩ := H
    have A7 := Qx A70; clear A70
    by_cases c8 : t416 = 0
    ·rw [if_pos c8] at H
     have c8b0 : (t416 == 0) = true := beq_iff_eq.mpr c8
     have c8b1 : (t416 != 0) = false := bne_eq_false_iff_eq.mpr c8
     clear c8; simp only [Option.some.injEq, Prod.mk.injEq] at H; obtain ⟨rfl, rfl⟩ := H
     go_enter Try.func14, Try.ntmps14
     go_wp2_with (first | ((with_reducible refine gate_dst (N := 2) rfl ?_); refine bx_ 2 #[.int .i64 a0_0, .int .i64 a0_1, .int .i64 a0_2, .int .i64 a0_3, .slice A0_4 l0_4.length c0_4, .int .i64 a0_5, .slice A0_6 l0_6.length c0_6] 30 ?_; intro gb410 hg w9 hbox hb; have BK410 := Qx (hbox); have GW410 := Qx ((ge_ hg)); have GE410 := Qx ((ge_ hg)); replace HB := Qx (Qp hB_ hb); clear hb hbox hg) | ((with_reducible refine gate_callee (f := 23) rfl ?_); refine gl_ 9 Try.func23 #[.pointer (some ⟨gb410, 0, none⟩)] ?_; (with_reducible refine (impl_Sparse_numbers.calls k gb410 a0_0 a0_1 a0_2 a0_3 A0_4 c0_4 l0_4 a0_5 A0_6 c0_6 l0_6 t411 true _ ?side1 ?side2 ?side3 ?side4 ?side5 A3.out).mono ?_); (case side1 => exact kC_ HR0_4); (case side2 => exact HC0_4.out); (case side3 => exact kC_ HR0_6); (case side4 => exact HC0_6.out); (case side5 => exact (kB_ BK410)); rintro e w10 ⟨v412, rfl, ho0, hb⟩; refine ⟨_, rfl, ?_⟩; have HO413 := Qx (Kd.R_lower ho0 (Qz hB_)); replace BK410 := Qx (Qb (kB_ BK410) hb); replace HB := Qx (Qp hB_ hb); (try clear hb); (try clear hb2); (try clear hk); (try clear hi); (try clear ho0); obtain ⟨hcz11_0, hcz11_1, hcz11_2, hcz11_3, hcz11_4, hcz11_5, hcz11_6, hfz11_0, hfz11_1, hfz11_2, hfz11_3, hfz11_4, hfz11_5, hfz11_6⟩ := cellsQ7_g1e (w := w10) BK410.out) | (go_at_call 25; (with_reducible refine (impl_in.calls a1 0 (wrap64 (a0_1 - 1)) true _ A5.out).mono ?_); rintro e w' ⟨rfl, ⟨nd, rfl⟩⟩; obtain ⟨Ao12, co12, eo12⟩ := Kd.R_slice HO413.out; subst eo12) | (go_at_call 26; (with_reducible refine (impl_below.calls k _ _ t411 (wrap64 (a1 + 1)) t416 _ ?side1 ?side2 A7.out).mono ?_); (case side1 => exact kD_ HO413); (case side2 => exact (Kd.R_reads' HO413.out).2.1); rintro e w' ⟨rfl, ⟨nd, rfl⟩⟩))
     go_ret2
     exact ⟨rf_, hB_⟩
    ·rw [if_neg c8] at H
     have c8b0 : (t416 == 0) = false := beq_eq_false_iff_ne.mpr c8
     have c8b1 : (t416 != 0) = true := bne_iff_ne.mpr c8
     replace H := Option.bind_eq_some_iff.mp H; obtain ⟨t417, A130, H⟩ := H
     have A13 := Qx A130; clear A130; simp only [Option.some.injEq, Prod.mk.injEq] at H; obtain ⟨rfl, rfl⟩ := H
     go_enter Try.func14, Try.ntmps14
     go_wp2_with (first | ((with_reducible refine gate_dst (N := 2) rfl ?_); refine bx_ 2 #[.int .i64 a0_0, .int .i64 a0_1, .int .i64 a0_2, .int .i64 a0_3, .slice A0_4 l0_4.length c0_4, .int .i64 a0_5, .slice A0_6 l0_6.length c0_6] 30 ?_; intro gb410 hg w14 hbox hb; have BK410 := Qx (hbox); have GW410 := Qx ((ge_ hg)); have GE410 := Qx ((ge_ hg)); replace HB := Qx (Qp hB_ hb); clear hb hbox hg) | ((with_reducible refine gate_callee (f := 23) rfl ?_); refine gl_ 9 Try.func23 #[.pointer (some ⟨gb410, 0, none⟩)] ?_; (with_reducible refine (impl_Sparse_numbers.calls k gb410 a0_0 a0_1 a0_2 a0_3 A0_4 c0_4 l0_4 a0_5 A0_6 c0_6 l0_6 t411 true _ ?side1 ?side2 ?side3 ?side4 ?side5 A3.out).mono ?_); (case side1 => exact kC_ HR0_4); (case side2 => exact HC0_4.out); (case side3 => exact kC_ HR0_6); (case side4 => exact HC0_6.out); (case side5 => exact (kB_ BK410)); rintro e w15 ⟨v412, rfl, ho0, hb⟩; refine ⟨_, rfl, ?_⟩; have HO413 := Qx (Kd.R_lower ho0 (Qz hB_)); replace BK410 := Qx (Qb (kB_ BK410) hb); replace HB := Qx (Qp hB_ hb); (try clear hb); (try clear hb2); (try clear hk); (try clear hi); (try clear ho0); obtain ⟨hcz16_0, hcz16_1, hcz16_2, hcz16_3, hcz16_4, hcz16_5, hcz16_6, hfz16_0, hfz16_1, hfz16_2, hfz16_3, hfz16_4, hfz16_5, hfz16_6⟩ := cellsQ7_g1e (w := w15) BK410.out) | (go_at_call 25; (with_reducible refine (impl_in.calls a1 0 (wrap64 (a0_1 - 1)) true _ A5.out).mono ?_); rintro e w' ⟨rfl, ⟨nd, rfl⟩⟩; obtain ⟨Ao17, co17, eo17⟩ := Kd.R_slice HO413.out; subst eo17) | (go_at_call 26; (with_reducible refine (impl_below.calls k _ _ t411 (wrap64 (a1 + 1)) t416 _ ?side1 ?side2 A7.out).mono ?_); (case side1 => exact kD_ HO413); (case side2 => exact (Kd.R_reads' HO413.out).2.1); rintro e w' ⟨rfl, ⟨nd, rfl⟩⟩) | ((with_reducible refine gate_callee (f := 26) rfl ?_); refine gl_ 32 Try.func26 #[.slice Ao17 t411.length co17, .int .i64 (wrap64 (a1 + 1))] ?_; (with_reducible refine (impl_below.calls k _ _ t411 (wrap64 (a1 + 1)) t417 _ ?side1 ?side2 A13.out).mono ?_); (case side1 => exact kD_ HO413); (case side2 => exact (Kd.R_reads' HO413.out).2.1); rintro e w' ⟨rfl, ⟨nd, rfl⟩⟩; refine ⟨_, rfl, ?_⟩))
     go_ret2
     exact ⟨rf_, hB_⟩
   ·replace c6 := Bool.eq_false_iff.mpr c6; subst c6
    have H1 : (some (0, false)) = some (r1, r2) := by rw [if_neg (show ¬ (false = true) by decide)] at H; exact H
    clear H; have H := H1; clear H1; simp only [Option.some.injEq, Prod.mk.injEq] at H; obtain ⟨rfl, rfl⟩ := H
    go_enter Try.func14, Try.ntmps14
    go_wp2_with (first | ((with_reducible refine gate_dst (N := 2) rfl ?_); refine bx_ 2 #[.int .i64 a0_0, .int .i64 a0_1, .int .i64 a0_2, .int .i64 a0_3, .slice A0_4 l0_4.length c0_4, .int .i64 a0_5, .slice A0_6 l0_6.length c0_6] 30 ?_; intro gb410 hg w18 hbox hb; have BK410 := Qx (hbox); have GW410 := Qx ((ge_ hg)); have GE410 := Qx ((ge_ hg)); replace HB := Qx (Qp hB_ hb); clear hb hbox hg) | ((with_reducible refine gate_callee (f := 23) rfl ?_); refine gl_ 9 Try.func23 #[.pointer (some ⟨gb410, 0, none⟩)] ?_; (with_reducible refine (impl_Sparse_numbers.calls k gb410 a0_0 a0_1 a0_2 a0_3 A0_4 c0_4 l0_4 a0_5 A0_6 c0_6 l0_6 t411 true _ ?side1 ?side2 ?side3 ?side4 ?side5 A3.out).mono ?_); (case side1 => exact kC_ HR0_4); (case side2 => exact HC0_4.out); (case side3 => exact kC_ HR0_6); (case side4 => exact HC0_6.out); (case side5 => exact (kB_ BK410)); rintro e w19 ⟨v412, rfl, ho0, hb⟩; refine ⟨_, rfl, ?_⟩; have HO413 := Qx (Kd.R_lower ho0 (Qz hB_)); replace BK410 := Qx (Qb (kB_ BK410) hb); replace HB := Qx (Qp hB_ hb); (try clear hb); (try clear hb2); (try clear hk); (try clear hi); (try clear ho0); obtain ⟨hcz20_0, hcz20_1, hcz20_2, hcz20_3, hcz20_4, hcz20_5, hcz20_6, hfz20_0, hfz20_1, hfz20_2, hfz20_3, hfz20_4, hfz20_5, hfz20_6⟩ := cellsQ7_g1e (w := w19) BK410.out) | (go_at_call 25; (with_reducible refine (impl_in.calls a1 0 (wrap64 (a0_1 - 1)) false _ A5.out).mono ?_); rintro e w' ⟨rfl, ⟨nd, rfl⟩⟩))
    go_ret2
    exact ⟨rf_, hB_⟩
  ·replace c4 := Bool.eq_false_iff.mpr c4; subst c4
   have H1 : (some (0, false)) = some (r1, r2) := by rw [if_neg (show ¬ (false = true) by decide)] at H; exact H
   clear H; have H := H1; clear H1; simp only [Option.some.injEq, Prod.mk.injEq] at H; obtain ⟨rfl, rfl⟩ := H
   go_enter Try.func14, Try.ntmps14
   go_wp2_with (first | ((with_reducible refine gate_dst (N := 2) rfl ?_); refine bx_ 2 #[.int .i64 a0_0, .int .i64 a0_1, .int .i64 a0_2, .int .i64 a0_3, .slice A0_4 l0_4.length c0_4, .int .i64 a0_5, .slice A0_6 l0_6.length c0_6] 30 ?_; intro gb410 hg w21 hbox hb; have BK410 := Qx (hbox); have GW410 := Qx ((ge_ hg)); have GE410 := Qx ((ge_ hg)); replace HB := Qx (Qp hB_ hb); clear hb hbox hg) | ((with_reducible refine gate_callee (f := 23) rfl ?_); refine gl_ 9 Try.func23 #[.pointer (some ⟨gb410, 0, none⟩)] ?_; (with_reducible refine (impl_Sparse_numbers.calls k gb410 a0_0 a0_1 a0_2 a0_3 A0_4 c0_4 l0_4 a0_5 A0_6 c0_6 l0_6 t411 false _ ?side1 ?side2 ?side3 ?side4 ?side5 A3.out).mono ?_); (case side1 => exact kC_ HR0_4); (case side2 => exact HC0_4.out); (case side3 => exact kC_ HR0_6); (case side4 => exact HC0_6.out); (case side5 => exact (kB_ BK410)); rintro e w22 ⟨v412, rfl, ho0, hb⟩; refine ⟨_, rfl, ?_⟩; have HO413 := Qx (Kd.R_lower ho0 (Qz hB_)); replace BK410 := Qx (Qb (kB_ BK410) hb); replace HB := Qx (Qp hB_ hb); (try clear hb); (try clear hb2); (try clear hk); (try clear hi); (try clear ho0)))
   go_ret2
   exact ⟨rf_, hB_⟩
/-! ### impl_FirstAtLeast: function 15 -/
def impl_FirstAtLeast.f (k : Nat) (a0_0 : Int) (a0_1 : Int) (a0_2 : Int) (a0_3 : Int) (l0_4 : List Int) (a0_5 : Int) (l0_6 : List Int) (a1 : Int) : Option (Int × Bool) := (impl_Sparse_numbers.f k a0_0 a0_1 a0_2 a0_3 l0_4 a0_5 l0_6).bind fun bt419 => (if bt419.2 = true then ((impl_in.f a1 0 (wrap64 (a0_1 - 1))).bind fun t423 => (if t423 = true then ((impl_below.f k bt419.1 a1).bind fun t424 => (if t424 = (bt419.1.length : Int) then (some (0, false)) else ((impl_below.f k bt419.1 a1).bind fun t425 => (some (t425, true))))) else (some (0, false)))) else (some (0, false)))
theorem impl_FirstAtLeast.mono : ∀ a0 a1 a2 a3 a4 a5 a6 a7 k, LeO (impl_FirstAtLeast.f k a0 a1 a2 a3 a4 a5 a6 a7) (impl_FirstAtLeast.f (k + 1) a0 a1 a2 a3 a4 a5 a6 a7) := by
  intro a0 a1 a2 a3 a4 a5 a6 a7 k
  unfold impl_FirstAtLeast.f
  repeat' first
      | (with_reducible exact impl_Sparse_numbers.mono _ _ _ _ _ _ _ _)
      | (with_reducible exact impl_below.mono _ _ _)
      | (with_reducible exact LeO.refl _)
      | (with_reducible exact LeO.none _)
      | (with_reducible refine LeO.ite ?_ ?_)
      | (with_reducible refine LeO.bind ?_ (fun _ => ?_))
      | exact impl_Sparse_numbers.mono _ _ _ _ _ _ _ _
      | exact impl_below.mono _ _ _
      | exact LeO.none _
      | refine LeO.ite ?_ ?_
      | refine LeO.bind ?_ (fun _ => ?_)
noncomputable def impl_FirstAtLeast.F (a0_0 : Int) (a0_1 : Int) (a0_2 : Int) (a0_3 : Int) (l0_4 : List Int) (a0_5 : Int) (l0_6 : List Int) (a1 : Int) : Option (Int × Bool) := lim fun k => impl_FirstAtLeast.f k a0_0 a0_1 a0_2 a0_3 l0_4 a0_5 l0_6 a1
theorem impl_FirstAtLeast.F_sup (a0_0 : Int) (a0_1 : Int) (a0_2 : Int) (a0_3 : Int) (l0_4 : List Int) (a0_5 : Int) (l0_6 : List Int) (a1 : Int) : Sup (fun k => impl_FirstAtLeast.f k a0_0 a0_1 a0_2 a0_3 l0_4 a0_5 l0_6 a1) (impl_FirstAtLeast.F a0_0 a0_1 a0_2 a0_3 l0_4 a0_5 l0_6 a1) := Sup.of_mono fun k => impl_FirstAtLeast.mono a0_0 a0_1 a0_2 a0_3 l0_4 a0_5 l0_6 a1 k
theorem impl_FirstAtLeast.F_eq (a0_0 : Int) (a0_1 : Int) (a0_2 : Int) (a0_3 : Int) (l0_4 : List Int) (a0_5 : Int) (l0_6 : List Int) (a1 : Int) : impl_FirstAtLeast.F a0_0 a0_1 a0_2 a0_3 l0_4 a0_5 l0_6 a1 = (impl_Sparse_numbers.F a0_0 a0_1 a0_2 a0_3 l0_4 a0_5 l0_6).bind fun bt419 => (if bt419.2 = true then ((impl_in.f a1 0 (wrap64 (a0_1 - 1))).bind fun t423 => (if t423 = true then ((impl_below.F bt419.1 a1).bind fun t424 => (if t424 = (bt419.1.length : Int) then (some (0, false)) else ((impl_below.F bt419.1 a1).bind fun t425 => (some (t425, true))))) else (some (0, false)))) else (some (0, false))) := by
  refine Sup.unique (impl_FirstAtLeast.F_sup a0_0 a0_1 a0_2 a0_3 l0_4 a0_5 l0_6 a1) (Sup.congr (g' := fun k => (impl_Sparse_numbers.f k a0_0 a0_1 a0_2 a0_3 l0_4 a0_5 l0_6).bind fun bt419 => (if bt419.2 = true then ((impl_in.f a1 0 (wrap64 (a0_1 - 1))).bind fun t423 => (if t423 = true then ((impl_below.f k bt419.1 a1).bind fun t424 => (if t424 = (bt419.1.length : Int) then (some (0, false)) else ((impl_below.f k bt419.1 a1).bind fun t425 => (some (t425, true))))) else (some (0, false)))) else (some (0, false)))) (fun k => by first | rfl | simp only [impl_FirstAtLeast.f]) ?_)
  repeat' first
    | (with_reducible exact impl_Sparse_numbers.F_sup _ _ _ _ _ _ _)
    | (with_reducible exact impl_below.F_sup _ _)
    | (with_reducible refine Sup.ite ?_ ?_)
    | (with_reducible refine Sup.bind ?_ (fun _ => ?_))
    | (with_reducible exact Sup.const _)
    | exact impl_Sparse_numbers.F_sup _ _ _ _ _ _ _
    | exact impl_below.F_sup _ _
    | exact Sup.const _
set_option maxHeartbeats 8000000 in
set_option maxRecDepth 100000 in
theorem impl_FirstAtLeast.calls (k : Nat) (a0_0 : Int) (a0_1 : Int) (a0_2 : Int) (a0_3 : Int) (A0_4 : Option Addr) (c0_4 : Nat) (l0_4 : List Int) (a0_5 : Int) (A0_6 : Option Addr) (c0_6 : Nat) (l0_6 : List Int) (a1 : Int) (r1 : Int) (r2 : Bool) (w : World) (hr0_4 : Kd.C (Kd.int .i64) w A0_4 l0_4.length l0_4) (hc0_4 : l0_4.length ≤ c0_4) (hr0_6 : Kd.C (Kd.int .i64) w A0_6 l0_6.length l0_6) (hc0_6 : l0_6.length ≤ c0_6) (h : impl_FirstAtLeast.f k a0_0 a0_1 a0_2 a0_3 l0_4 a0_5 l0_6 a1 = some (r1, r2)) :
    Calls Try.prog 15 #[.agg #[.int .i64 a0_0, .int .i64 a0_1, .int .i64 a0_2, .int .i64 a0_3, .slice A0_4 l0_4.length c0_4, .int .i64 a0_5, .slice A0_6 l0_6.length c0_6], .int .i64 a1] w fun e w' => e = .returned (.tuple #[.int .i64 r1, .bool r2]) ∧ Below w.heap.size w w' := by
  have hu30 := Try.underlying30; have HR0_4 := Qx hr0_4; have HC0_4 := Qx hc0_4; clear hr0_4 hc0_4; have HR0_6 := Qx hr0_6; have HC0_6 := Qx hc0_6; clear hr0_6 hc0_6
  have HB := Qx (Below.refl w.heap.size w)
  have H : ((impl_Sparse_numbers.f k a0_0 a0_1 a0_2 a0_3 l0_4 a0_5 l0_6).bind fun bt419 => (if bt419.2 = true then ((impl_in.f a1 0 (wrap64 (a0_1 - 1))).bind fun t423 => (if t423 = true then ((impl_below.f k bt419.1 a1).bind fun t424 => (if t424 = (bt419.1.length : Int) then (some (0, false)) else ((impl_below.f k bt419.1 a1).bind fun t425 => (some (t425, true))))) else (some (0, false)))) else (some (0, false)))) = some (r1, r2) := h
  clear h; replace H := Option.bind_eq_some_iff.mp H; obtain ⟨⟨t419, t422⟩, A30, H⟩ := H
  have A3 := Qx A30; clear A30
  by_cases c4 : t422 = true
  ·subst c4
   have H1 : ((impl_in.f a1 0 (wrap64 (a0_1 - 1))).bind fun t423 => (if t423 = true then ((impl_below.f k t419 a1).bind fun t424 => (if t424 = (t419.length : Int) then (some (0, false)) else ((impl_below.f k t419 a1).bind fun t425 => (some (t425, true))))) else (some (0, false)))) = some (r1, r2) := by rw [if_pos rfl] at H; exact H
   clear H; have H := H1; clear H1; replace H := Option.bind_eq_some_iff.mp H; obtain ⟨t423, A50, H⟩ := H
   have A5 := Qx A50; clear A50
   by_cases c6 : t423 = true
   ·subst c6
    have H1 : ((impl_below.f k t419 a1).bind fun t424 => (if t424 = (t419.length : Int) then (some (0, false)) else ((impl_below.f k t419 a1).bind fun t425 => (some (t425, true))))) = some (r1, r2) := by rw [if_pos rfl] at H; exact H
    clear H; have H := H1; clear H1; replace H := Option.bind_eq_some_iff.mp H; obtain ⟨t424, A70, H⟩ := H
    have A7 := Qx A70; clear A70
    by_cases c8 : t424 = (t419.length : Int)
    ·rw [if_pos c8] at H
     have c8b0 : (t424 == (t419.length : Int)) = true := beq_iff_eq.mpr c8
     have c8b1 : (t424 != (t419.length : Int)) = false := bne_eq_false_iff_eq.mpr c8
     clear c8; simp only [Option.some.injEq, Prod.mk.injEq] at H; obtain ⟨rfl, rfl⟩ := H
     go_enter Try.func15, Try.ntmps15
     go_wp2_with (first | ((with_reducible refine gate_dst (N := 2) rfl ?_); (try (refine gate_guard (by rfl) ?_; dsimp only)); refine bx_ 2 #[.int .i64 a0_0, .int .i64 a0_1, .int .i64 a0_2, .int .i64 a0_3, .slice A0_4 l0_4.length c0_4, .int .i64 a0_5, .slice A0_6 l0_6.length c0_6] 30 ?_; intro gb418 hg w9 hbox hb; have BK418 := Qx (hbox); have GW418 := Qx ((ge_ hg)); have GE418 := Qx ((ge_ hg)); replace HB := Qx (Qp hB_ hb); clear hb hbox hg) | ((with_reducible refine gate_callee (f := 23) rfl ?_); refine gl_ 9 Try.func23 #[.pointer (some ⟨gb418, 0, none⟩)] ?_; (with_reducible refine (impl_Sparse_numbers.calls k gb418 a0_0 a0_1 a0_2 a0_3 A0_4 c0_4 l0_4 a0_5 A0_6 c0_6 l0_6 t419 true _ ?side1 ?side2 ?side3 ?side4 ?side5 A3.out).mono ?_); (case side1 => exact kC_ HR0_4); (case side2 => exact HC0_4.out); (case side3 => exact kC_ HR0_6); (case side4 => exact HC0_6.out); (case side5 => exact (kB_ BK418)); rintro e w10 ⟨v420, rfl, ho0, hb⟩; refine ⟨_, rfl, ?_⟩; have HO421 := Qx (Kd.R_lower ho0 (Qz hB_)); replace BK418 := Qx (Qb (kB_ BK418) hb); replace HB := Qx (Qp hB_ hb); (try clear hb); (try clear hb2); (try clear hk); (try clear hi); (try clear ho0); obtain ⟨hcz11_0, hcz11_1, hcz11_2, hcz11_3, hcz11_4, hcz11_5, hcz11_6, hfz11_0, hfz11_1, hfz11_2, hfz11_3, hfz11_4, hfz11_5, hfz11_6⟩ := cellsQ7_g1e (w := w10) BK418.out) | (go_at_call 25; (with_reducible refine (impl_in.calls a1 0 (wrap64 (a0_1 - 1)) true _ A5.out).mono ?_); rintro e w' ⟨rfl, ⟨nd, rfl⟩⟩; obtain ⟨Ao12, co12, eo12⟩ := Kd.R_slice HO421.out; subst eo12) | (go_at_call 26; (with_reducible refine (impl_below.calls k _ _ t419 a1 t424 _ ?side1 ?side2 A7.out).mono ?_); (case side1 => exact kD_ HO421); (case side2 => exact (Kd.R_reads' HO421.out).2.1); rintro e w' ⟨rfl, ⟨nd, rfl⟩⟩))
     go_ret2
     exact ⟨rf_, hB_⟩
    ·rw [if_neg c8] at H
     have c8b0 : (t424 == (t419.length : Int)) = false := beq_eq_false_iff_ne.mpr c8
     have c8b1 : (t424 != (t419.length : Int)) = true := bne_iff_ne.mpr c8
     replace H := Option.bind_eq_some_iff.mp H; obtain ⟨t425, A130, H⟩ := H
     have A13 := Qx A130; clear A130; simp only [Option.some.injEq, Prod.mk.injEq] at H; obtain ⟨rfl, rfl⟩ := H
     go_enter Try.func15, Try.ntmps15
     go_wp2_with (first | ((with_reducible refine gate_dst (N := 2) rfl ?_); (try (refine gate_guard (by rfl) ?_; dsimp only)); refine bx_ 2 #[.int .i64 a0_0, .int .i64 a0_1, .int .i64 a0_2, .int .i64 a0_3, .slice A0_4 l0_4.length c0_4, .int .i64 a0_5, .slice A0_6 l0_6.length c0_6] 30 ?_; intro gb418 hg w14 hbox hb; have BK418 := Qx (hbox); have GW418 := Qx ((ge_ hg)); have GE418 := Qx ((ge_ hg)); replace HB := Qx (Qp hB_ hb); clear hb hbox hg) | ((with_reducible refine gate_callee (f := 23) rfl ?_); refine gl_ 9 Try.func23 #[.pointer (some ⟨gb418, 0, none⟩)] ?_; (with_reducible refine (impl_Sparse_numbers.calls k gb418 a0_0 a0_1 a0_2 a0_3 A0_4 c0_4 l0_4 a0_5 A0_6 c0_6 l0_6 t419 true _ ?side1 ?side2 ?side3 ?side4 ?side5 A3.out).mono ?_); (case side1 => exact kC_ HR0_4); (case side2 => exact HC0_4.out); (case side3 => exact kC_ HR0_6); (case side4 => exact HC0_6.out); (case side5 => exact (kB_ BK418)); rintro e w15 ⟨v420, rfl, ho0, hb⟩; refine ⟨_, rfl, ?_⟩; have HO421 := Qx (Kd.R_lower ho0 (Qz hB_)); replace BK418 := Qx (Qb (kB_ BK418) hb); replace HB := Qx (Qp hB_ hb); (try clear hb); (try clear hb2); (try clear hk); (try clear hi); (try clear ho0); obtain ⟨hcz16_0, hcz16_1, hcz16_2, hcz16_3, hcz16_4, hcz16_5, hcz16_6, hfz16_0, hfz16_1, hfz16_2, hfz16_3, hfz16_4, hfz16_5, hfz16_6⟩ := cellsQ7_g1e (w := w15) BK418.out) | (go_at_call 25; (with_reducible refine (impl_in.calls a1 0 (wrap64 (a0_1 - 1)) true _ A5.out).mono ?_); rintro e w' ⟨rfl, ⟨nd, rfl⟩⟩; obtain ⟨Ao17, co17, eo17⟩ := Kd.R_slice HO421.out; subst eo17) | (go_at_call 26; (with_reducible refine (impl_below.calls k _ _ t419 a1 t424 _ ?side1 ?side2 A7.out).mono ?_); (case side1 => exact kD_ HO421); (case side2 => exact (Kd.R_reads' HO421.out).2.1); rintro e w' ⟨rfl, ⟨nd, rfl⟩⟩) | ((with_reducible refine gate_callee (f := 26) rfl ?_); refine gl_ 32 Try.func26 #[.slice Ao17 t419.length co17, .int .i64 a1] ?_; (with_reducible refine (impl_below.calls k _ _ t419 a1 t425 _ ?side1 ?side2 A13.out).mono ?_); (case side1 => exact kD_ HO421); (case side2 => exact (Kd.R_reads' HO421.out).2.1); rintro e w' ⟨rfl, ⟨nd, rfl⟩⟩; refine ⟨_, rfl, ?_⟩))
     go_ret2
     exact ⟨rf_, hB_⟩
   ·replace c6 := Bool.eq_false_iff.mpr c6; subst c6
    have H1 : (some (0, false)) = some (r1, r2) := by rw [if_neg (show ¬ (false = true) by decide)] at H; exact H
    clear H; have H := H1; clear H1; simp only [Option.some.injEq, Prod.mk.injEq] at H; obtain ⟨rfl, rfl⟩ := H
    go_enter Try.func15, Try.ntmps15
    go_wp2_with (first | ((with_reducible refine gate_dst (N := 2) rfl ?_); (try (refine gate_guard (by rfl) ?_; dsimp only)); refine bx_ 2 #[.int .i64 a0_0, .int .i64 a0_1, .int .i64 a0_2, .int .i64 a0_3, .slice A0_4 l0_4.length c0_4, .int .i64 a0_5, .slice A0_6 l0_6.length c0_6] 30 ?_; intro gb418 hg w18 hbox hb; have BK418 := Qx (hbox); have GW418 := Qx ((ge_ hg)); have GE418 := Qx ((ge_ hg)); replace HB := Qx (Qp hB_ hb); clear hb hbox hg) | ((with_reducible refine gate_callee (f := 23) rfl ?_); refine gl_ 9 Try.func23 #[.pointer (some ⟨gb418, 0, none⟩)] ?_; (with_reducible refine (impl_Sparse_numbers.calls k gb418 a0_0 a0_1 a0_2 a0_3 A0_4 c0_4 l0_4 a0_5 A0_6 c0_6 l0_6 t419 true _ ?side1 ?side2 ?side3 ?side4 ?side5 A3.out).mono ?_); (case side1 => exact kC_ HR0_4); (case side2 => exact HC0_4.out); (case side3 => exact kC_ HR0_6); (case side4 => exact HC0_6.out); (case side5 => exact (kB_ BK418)); rintro e w19 ⟨v420, rfl, ho0, hb⟩; refine ⟨_, rfl, ?_⟩; have HO421 := Qx (Kd.R_lower ho0 (Qz hB_)); replace BK418 := Qx (Qb (kB_ BK418) hb); replace HB := Qx (Qp hB_ hb); (try clear hb); (try clear hb2); (try clear hk); (try clear hi); (try clear ho0); obtain ⟨hcz20_0, hcz20_1, hcz20_2, hcz20_3, hcz20_4, hcz20_5, hcz20_6, hfz20_0, hfz20_1, hfz20_2, hfz20_3, hfz20_4, hfz20_5, hfz20_6⟩ := cellsQ7_g1e (w := w19) BK418.out) | (go_at_call 25; (with_reducible refine (impl_in.calls a1 0 (wrap64 (a0_1 - 1)) false _ A5.out).mono ?_); rintro e w' ⟨rfl, ⟨nd, rfl⟩⟩))
    go_ret2
    exact ⟨rf_, hB_⟩
  ·replace c4 := Bool.eq_false_iff.mpr c4; subst c4
   have H1 : (some (0, false)) = some (r1, r2) := by rw [if_neg (show ¬ (false = true) by decide)] at H; exact H
   clear H; have H := H1; clear H1; simp only [Option.some.injEq, Prod.mk.injEq] at H; obtain ⟨rfl, rfl⟩ := H
   go_enter Try.func15, Try.ntmps15
   go_wp2_with (first | ((with_reducible refine gate_dst (N := 2) rfl ?_); (try (refine gate_guard (by rfl) ?_; dsimp only)); refine bx_ 2 #[.int .i64 a0_0, .int .i64 a0_1, .int .i64 a0_2, .int .i64 a0_3, .slice A0_4 l0_4.length c0_4, .int .i64 a0_5, .slice A0_6 l0_6.length c0_6] 30 ?_; intro gb418 hg w21 hbox hb; have BK418 := Qx (hbox); have GW418 := Qx ((ge_ hg)); have GE418 := Qx ((ge_ hg)); replace HB := Qx (Qp hB_ hb); clear hb hbox hg) | ((with_reducible refine gate_callee (f := 23) rfl ?_); refine gl_ 9 Try.func23 #[.pointer (some ⟨gb418, 0, none⟩)] ?_; (with_reducible refine (impl_Sparse_numbers.calls k gb418 a0_0 a0_1 a0_2 a0_3 A0_4 c0_4 l0_4 a0_5 A0_6 c0_6 l0_6 t419 false _ ?side1 ?side2 ?side3 ?side4 ?side5 A3.out).mono ?_); (case side1 => exact kC_ HR0_4); (case side2 => exact HC0_4.out); (case side3 => exact kC_ HR0_6); (case side4 => exact HC0_6.out); (case side5 => exact (kB_ BK418)); rintro e w22 ⟨v420, rfl, ho0, hb⟩; refine ⟨_, rfl, ?_⟩; have HO421 := Qx (Kd.R_lower ho0 (Qz hB_)); replace BK418 := Qx (Qb (kB_ BK418) hb); replace HB := Qx (Qp hB_ hb); (try clear hb); (try clear hb2); (try clear hk); (try clear hi); (try clear ho0)))
   go_ret2
   exact ⟨rf_, hB_⟩
end Go.Proofs.Ytcgakiihochafaa.X
