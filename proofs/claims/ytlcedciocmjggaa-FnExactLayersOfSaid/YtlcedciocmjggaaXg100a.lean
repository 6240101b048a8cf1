/- Written by a program of this session: what functions of the given program compute, and that their calls do so. -/
import Derived.Test.YtlcedciocmjggaaXx0
import Derived.Test.YtlcedciocmjggaaXg3f04a
import Derived.Test.YtlcedciocmjggaaXg3f05a
import Derived.Test.YtlcedciocmjggaaXg3f0ea
import Derived.Test.YtlcedciocmjggaaXg3f1fa
namespace Go.Proofs.Ytlcedciocmjggaa.X
open Go.RowKit Go.Proofs.YtlcedciocmjggaaW.PrintWords Go.Proofs.YtlcedciocmjggaaW.PrintLast Go.Proofs.YtlcedciocmjggaaW.PrintMore
attribute [local go_sem] max2_int min2_int max_two min_two max_three min_three max_four min_four   -- for this text's walks alone
set_option linter.unusedVariables false
set_option linter.unusedSimpArgs false
/-! ### spec_peMeet: function 97 -/
def spec_peMeet.l0 : Nat → List Int → List Int → Int → Int → Option (Bool)
  | 0, _, _, _, _ => none
  | k + 1, x1, x7, x8, x9 => if x9 < x8 then (if 0 ≤ x9 then (if x9 < (x7.length : Int) then ((spec_l1Has.f k x1 (rd x7 x9)).bind fun t682 => (if t682 = true then (some true) else (spec_peMeet.l0 k x1 x7 x8 (wrap64 (x9 + 1))))) else (none)) else (none)) else (some false)
def spec_peMeet.f (k : Nat) (l0 : List Int) (l1 : List Int) : Option (Bool) := spec_peMeet.l0 k l1 l0 (l0.length : Int) 0
theorem spec_peMeet.mono_l : ∀ k, (∀ y0 y1 y2 y3, LeO (spec_peMeet.l0 k y0 y1 y2 y3) (spec_peMeet.l0 (k + 1) y0 y1 y2 y3))
  | 0 => fun _ _ _ _ r h => by simp [spec_peMeet.l0] at h
  | k + 1 => by
    have ih0 := spec_peMeet.mono_l k
    · intro y0 y1 y2 y3
      unfold spec_peMeet.l0
      repeat' first
      | (with_reducible exact ih0 _ _ _ _)
      | (with_reducible exact spec_l1Has.mono _ _ _)
      | (with_reducible exact LeO.refl _)
      | (with_reducible exact LeO.none _)
      | (with_reducible refine LeO.ite ?_ ?_)
      | (with_reducible refine LeO.bind ?_ (fun _ => ?_))
      | exact ih0 _ _ _ _
      | exact spec_l1Has.mono _ _ _
      | exact LeO.none _
      | refine LeO.ite ?_ ?_
      | refine LeO.bind ?_ (fun _ => ?_)
theorem spec_peMeet.mono : ∀ a0 a1 k, LeO (spec_peMeet.f k a0 a1) (spec_peMeet.f (k + 1) a0 a1) := by
  intro a0 a1 k
  have ih0 := spec_peMeet.mono_l k
  unfold spec_peMeet.f
  repeat' first
      | (with_reducible exact ih0 _ _ _ _)
      | (with_reducible exact spec_l1Has.mono _ _ _)
      | (with_reducible exact LeO.refl _)
      | (with_reducible exact LeO.none _)
      | (with_reducible refine LeO.ite ?_ ?_)
      | (with_reducible refine LeO.bind ?_ (fun _ => ?_))
      | exact ih0 _ _ _ _
      | exact spec_l1Has.mono _ _ _
      | exact LeO.none _
      | refine LeO.ite ?_ ?_
      | refine LeO.bind ?_ (fun _ => ?_)
noncomputable def spec_peMeet.L0 (y0 : List Int) (y1 : List Int) (y2 : Int) (y3 : Int) : Option (Bool) := lim fun k => spec_peMeet.l0 k y0 y1 y2 y3
theorem spec_peMeet.L0_sup (y0 : List Int) (y1 : List Int) (y2 : Int) (y3 : Int) : Sup (fun k => spec_peMeet.l0 k y0 y1 y2 y3) (spec_peMeet.L0 y0 y1 y2 y3) := Sup.of_mono fun k => spec_peMeet.mono_l k y0 y1 y2 y3
noncomputable def spec_peMeet.F (l0 : List Int) (l1 : List Int) : Option (Bool) := lim fun k => spec_peMeet.f k l0 l1
theorem spec_peMeet.F_sup (l0 : List Int) (l1 : List Int) : Sup (fun k => spec_peMeet.f k l0 l1) (spec_peMeet.F l0 l1) := Sup.of_mono fun k => spec_peMeet.mono l0 l1 k
theorem spec_peMeet.L0_eq (x1 : List Int) (x7 : List Int) (x8 : Int) (x9 : Int) : spec_peMeet.L0 x1 x7 x8 x9 = if x9 < x8 then (if 0 ≤ x9 then (if x9 < (x7.length : Int) then ((spec_l1Has.F x1 (rd x7 x9)).bind fun t682 => (if t682 = true then (some true) else (spec_peMeet.L0 x1 x7 x8 (wrap64 (x9 + 1))))) else (none)) else (none)) else (some false) := by
  refine Sup.unique (spec_peMeet.L0_sup x1 x7 x8 x9) (Sup.shift (fun k => spec_peMeet.mono_l k x1 x7 x8 x9) (Sup.congr (g' := fun k => if x9 < x8 then (if 0 ≤ x9 then (if x9 < (x7.length : Int) then ((spec_l1Has.f k x1 (rd x7 x9)).bind fun t682 => (if t682 = true then (some true) else (spec_peMeet.l0 k x1 x7 x8 (wrap64 (x9 + 1))))) else (none)) else (none)) else (some false)) (fun k => by first | rfl | simp only [spec_peMeet.l0]) ?_))
  repeat' first
    | (with_reducible exact spec_peMeet.L0_sup _ _ _ _)
    | (with_reducible exact spec_l1Has.F_sup _ _)
    | (with_reducible refine Sup.ite ?_ ?_)
    | (with_reducible refine Sup.bind ?_ (fun _ => ?_))
    | (with_reducible exact Sup.const _)
    | exact spec_peMeet.L0_sup _ _ _ _
    | exact spec_l1Has.F_sup _ _
    | exact Sup.const _
theorem spec_peMeet.F_eq (l0 : List Int) (l1 : List Int) : spec_peMeet.F l0 l1 = spec_peMeet.L0 l1 l0 (l0.length : Int) 0 := by
  refine Sup.unique (spec_peMeet.F_sup l0 l1) (Sup.congr (g' := fun k => spec_peMeet.l0 k l1 l0 (l0.length : Int) 0) (fun k => by first | rfl | simp only [spec_peMeet.f]) ?_)
  repeat' first
    | (with_reducible exact spec_peMeet.L0_sup _ _ _ _)
    | (with_reducible exact spec_l1Has.F_sup _ _)
    | (with_reducible refine Sup.ite ?_ ?_)
    | (with_reducible refine Sup.bind ?_ (fun _ => ?_))
    | (with_reducible exact Sup.const _)
    | exact spec_peMeet.L0_sup _ _ _ _
    | exact spec_l1Has.F_sup _ _
    | exact Sup.const _
set_option maxHeartbeats 8000000 in
set_option maxRecDepth 100000 in
theorem spec_peMeet.calls (k : Nat) (A0 : Option Addr) (c0 : Nat) (l0 : List Int) (A1 : Option Addr) (c1 : Nat) (l1 : List Int) (r : Bool) (w : World) (hr0 : Kd.C (Kd.int .i64) w A0 l0.length l0) (hc0 : l0.length ≤ c0) (hr1 : Kd.C (Kd.int .i64) w A1 l1.length l1) (hc1 : l1.length ≤ c1) (h : spec_peMeet.f k l0 l1 = some r) :
    Calls Try.prog 97 #[.slice A0 l0.length c0, .slice A1 l1.length c1] w fun e w' => e = .returned (.bool r) ∧ Drawn0 w w' := by
  have HR0 := Aside0.mk hr0
  have HC0 := Aside0.mk hc0
  clear hr0 hc0
  have HR1 := Aside0.mk hr1
  have HC1 := Aside0.mk hc1
  clear hr1 hc1
  have H : (spec_peMeet.l0 k l1 l0 (l0.length : Int) 0) = some r := h
  clear h
  have H' := Aside0.mk H
  clear H
  go_enter Try.func97, Try.ntmps97
  go_wp2
  go_loopg [9] k (fun kq v9 w' => ∃ (x9_1 : Int), v9 = .int .i64 x9_1 ∧ Aside0 (spec_peMeet.l0 kq l1 l0 (l0.length : Int) x9_1 = some r) ∧ Aside0 (kq ≤ k) ∧ Drawn0 w w')
  case atStart => exact ⟨(0), (by first | rfl | (simp; done) | (simp [*]; done)), H', ⟨Nat.le_refl _⟩, by repeat (first | exact Drawn0.refl _ | apply Drawn0.step)⟩
  case round =>
   clear H'
   try clear c1
   try clear p2
   obtain ⟨x9_1, rfl, HA, HK1, ⟨m1, rfl⟩⟩ := hrel
   cases gk with
   | zero => exact absurd HA.out (by simp [spec_peMeet.l0])
   | succ k1 =>
    have H := HA.out
    clear HA
    simp only [spec_peMeet.l0] at H
    by_cases c3 : x9_1 < (l0.length : Int)
    ·rw [if_pos c3] at H
     have c3b0 : decide (x9_1 < (l0.length : Int)) = true := decide_eq_true c3
     clear c3
     by_cases c4 : 0 ≤ x9_1
     ·rw [if_pos c4] at H
      have c4b0 : decide (0 ≤ x9_1) = true := decide_eq_true c4
      clear c4
      by_cases c5 : x9_1 < (l0.length : Int)
      ·rw [if_pos c5] at H
       have c5b0 : decide (x9_1 < (l0.length : Int)) = true := decide_eq_true c5
       clear c5
       replace H := Option.bind_eq_some_iff.mp H
       obtain ⟨t682, A60, H⟩ := H
       replace H : (if t682 = true then (some true) else (spec_peMeet.l0 k1 l1 l0 (l0.length : Int) (wrap64 (x9_1 + 1)))) = some r := H
       have A6 := Aside0.mk A60
       clear A60
       by_cases c7 : t682 = true
       ·subst c7
        have H1 : (some true) = some r := by rw [if_pos rfl] at H; exact H
        clear H
        have H := H1
        clear H1
        obtain rfl := Option.some.inj H
        have p681 : 0 ≤ (x9_1 : Int) := of_decide_eq_true (by first | (with_reducible assumption) | assumption)
        have q681 : x9_1 < (l0.length : Int) := of_decide_eq_true (by first | (with_reducible assumption) | assumption)
        obtain ⟨ad681, e681, hx681_0⟩ := Kd.at_int HR0.out x9_1 p681 q681
        cases e681
        replace p681 := eq_true p681
        replace q681 := eq_true q681
        go_wp2_with (first | ((with_reducible refine gate_callee (f := 75) rfl ?_); refine goesL_ (some 15) rfl rfl Try.func75 (by kernel_rfl) rfl #[.slice A1 l1.length c1, .int .i64 (rd l0 x9_1)] rfl (by (try simp only [List.map_toArray, List.map_cons, List.map_nil]); first | done | rfl | (simp only [List.length_drop, List.length_take]; rfl)) ?_; (with_reducible refine (spec_l1Has.calls k1 _ _ l1 (rd l0 x9_1) true _ ?side1 ?side2 A6.out).mono ?_); (case side1 => repeat (first | exact HR1.out | (with_reducible refine Kd.C_alloc ?_ _) | (with_reducible refine Kd.C_drewN ?_ _) | (with_reducible refine Kd.C_drew ?_))); (case side2 => exact HC1.out); rintro e w' ⟨rfl, ⟨nd, rfl⟩⟩; refine ⟨_, rfl, ?_⟩))
        go_ret
        exact ⟨by first | rfl | (simp; done) | (simp [*]; done), by repeat (first | exact Drawn0.refl _ | apply Drawn0.step)⟩
       ·replace c7 := Bool.eq_false_iff.mpr c7
        subst c7
        have H1 : (spec_peMeet.l0 k1 l1 l0 (l0.length : Int) (wrap64 (x9_1 + 1))) = some r := by rw [if_neg (show ¬ (false = true) by decide)] at H; exact H
        clear H
        have H := H1
        clear H1
        have H' := Aside0.mk H
        clear H
        have p681 : 0 ≤ (x9_1 : Int) := of_decide_eq_true (by first | (with_reducible assumption) | assumption)
        have q681 : x9_1 < (l0.length : Int) := of_decide_eq_true (by first | (with_reducible assumption) | assumption)
        obtain ⟨ad681, e681, hx681_0⟩ := Kd.at_int HR0.out x9_1 p681 q681
        cases e681
        replace p681 := eq_true p681
        replace q681 := eq_true q681
        go_wp2_with (first | ((with_reducible refine gate_callee (f := 75) rfl ?_); refine goesL_ (some 15) rfl rfl Try.func75 (by kernel_rfl) rfl #[.slice A1 l1.length c1, .int .i64 (rd l0 x9_1)] rfl (by (try simp only [List.map_toArray, List.map_cons, List.map_nil]); first | done | rfl | (simp only [List.length_drop, List.length_take]; rfl)) ?_; (with_reducible refine (spec_l1Has.calls k1 _ _ l1 (rd l0 x9_1) false _ ?side1 ?side2 A6.out).mono ?_); (case side1 => repeat (first | exact HR1.out | (with_reducible refine Kd.C_alloc ?_ _) | (with_reducible refine Kd.C_drewN ?_ _) | (with_reducible refine Kd.C_drew ?_))); (case side2 => exact HC1.out); rintro e w' ⟨rfl, ⟨nd, rfl⟩⟩; refine ⟨_, rfl, ?_⟩))
        go_roundg k1
        case measure => have := HK1.out; omega
        case rel => exact ⟨(wrap64 (x9_1 + 1)), (by first | rfl | (simp; done) | (simp [*]; done)), H', ⟨by have := HK1.out; omega⟩, by repeat (first | exact Drawn0.refl _ | apply Drawn0.step)⟩
      ·rw [if_neg c5] at H
       exact absurd H (by simp)
     ·rw [if_neg c4] at H
      exact absurd H (by simp)
    ·rw [if_neg c3] at H
     have c3b0 : decide (x9_1 < (l0.length : Int)) = false := decide_eq_false c3
     clear c3
     obtain rfl := Option.some.inj H
     go_wp2
     go_ret
     exact ⟨by first | rfl | (simp; done) | (simp [*]; done), by repeat (first | exact Drawn0.refl _ | apply Drawn0.step)⟩
/-! ### spec_LayersOf: function 49 -/
mutual
def spec_LayersOf.l0 : Nat → List (List Int) → List Int → Int → List (List Int) → Option ((List (List Int)) × Bool)
  | 0, _, _, _, _ => none
  | k + 1, x4, x5, x808000, x808001 => (spec_peFree.f k x808000 x808001 x5).bind fun t812 => (if (t812.length : Int) = 0 then (some (x4, true)) else (spec_LayersOf.l1 k x4 t812 ([] : List Int) ([] : List Int) x5 (x5.length : Int) 0 x808000 x808001))
def spec_LayersOf.l1 : Nat → List (List Int) → List Int → List Int → List Int → List Int → Int → Int → Int → List (List Int) → Option ((List (List Int)) × Bool)
  | 0, _, _, _, _, _, _, _, _, _ => none
  | k + 1, x4, x6, x7, x8, x23, x24, x25, x808000, x808001 => if x25 < x24 then (if 0 ≤ x25 then (if x25 < (x23.length : Int) then (if 0 ≤ (rd x23 x25) then (if (rd x23 x25) < (x808001.length : Int) then ((spec_peMeet.f k (rd_L1 x808001 (rd x23 x25)) x6).bind fun t817 => (if t817 = true then (if x7.length < 17592186044416 then (spec_LayersOf.l1 k x4 x6 (x7 ++ [rd x23 x25]) x8 x23 x24 (wrap64 (x25 + 1)) x808000 x808001) else (none)) else (if x8.length < 17592186044416 then (spec_LayersOf.l1 k x4 x6 x7 (x8 ++ [rd x23 x25]) x23 x24 (wrap64 (x25 + 1)) x808000 x808001) else (none)))) else (none)) else (none)) else (none)) else (none)) else (if x4.length < 5864062014805 then (spec_LayersOf.l0 k (x4 ++ [x7]) x8 x808000 x808001) else (none))
end
def spec_LayersOf.f (k : Nat) (a0_0 : Int) (l0_1 : List (List Int)) : Option ((List (List Int)) × Bool) := (spec_peGood.f k a0_0 l0_1).bind fun t808 => (if t808 = true then ((spec_peAll.f k a0_0 l0_1).bind fun t809 => (spec_LayersOf.l0 k ([] : List (List Int)) t809 a0_0 l0_1)) else (some (([] : List (List Int)), false)))
theorem spec_LayersOf.mono_l : ∀ k, (∀ y0 y1 y2 y3, LeO (spec_LayersOf.l0 k y0 y1 y2 y3) (spec_LayersOf.l0 (k + 1) y0 y1 y2 y3)) ∧ (∀ y0 y1 y2 y3 y4 y5 y6 y7 y8, LeO (spec_LayersOf.l1 k y0 y1 y2 y3 y4 y5 y6 y7 y8) (spec_LayersOf.l1 (k + 1) y0 y1 y2 y3 y4 y5 y6 y7 y8))
  | 0 => ⟨fun _ _ _ _ r h => by simp [spec_LayersOf.l0] at h, fun _ _ _ _ _ _ _ _ _ r h => by simp [spec_LayersOf.l1] at h⟩
  | k + 1 => by
    obtain ⟨ih0, ih1⟩ := spec_LayersOf.mono_l k
    refine ⟨?_, ?_⟩
    · intro y0 y1 y2 y3
      unfold spec_LayersOf.l0
      repeat' first
      | (with_reducible exact ih0 _ _ _ _)
      | (with_reducible exact ih1 _ _ _ _ _ _ _ _ _)
      | (with_reducible exact spec_peAll.mono _ _ _)
      | (with_reducible exact spec_peFree.mono _ _ _ _)
      | (with_reducible exact spec_peGood.mono _ _ _)
      | (with_reducible exact spec_peMeet.mono _ _ _)
      | (with_reducible exact LeO.refl _)
      | (with_reducible exact LeO.none _)
      | (with_reducible refine LeO.ite ?_ ?_)
      | (with_reducible refine LeO.bind ?_ (fun _ => ?_))
      | exact ih0 _ _ _ _
      | exact ih1 _ _ _ _ _ _ _ _ _
      | exact spec_peAll.mono _ _ _
      | exact spec_peFree.mono _ _ _ _
      | exact spec_peGood.mono _ _ _
      | exact spec_peMeet.mono _ _ _
      | exact LeO.none _
      | refine LeO.ite ?_ ?_
      | refine LeO.bind ?_ (fun _ => ?_)
    · intro y0 y1 y2 y3 y4 y5 y6 y7 y8
      unfold spec_LayersOf.l1
      repeat' first
      | (with_reducible exact ih0 _ _ _ _)
      | (with_reducible exact ih1 _ _ _ _ _ _ _ _ _)
      | (with_reducible exact spec_peAll.mono _ _ _)
      | (with_reducible exact spec_peFree.mono _ _ _ _)
      | (with_reducible exact spec_peGood.mono _ _ _)
      | (with_reducible exact spec_peMeet.mono _ _ _)
      | (with_reducible exact LeO.refl _)
      | (with_reducible exact LeO.none _)
      | (with_reducible refine LeO.ite ?_ ?_)
      | (with_reducible refine LeO.bind ?_ (fun _ => ?_))
      | exact ih0 _ _ _ _
      | exact ih1 _ _ _ _ _ _ _ _ _
      | exact spec_peAll.mono _ _ _
      | exact spec_peFree.mono _ _ _ _
      | exact spec_peGood.mono _ _ _
      | exact spec_peMeet.mono _ _ _
      | exact LeO.none _
      | refine LeO.ite ?_ ?_
      | refine LeO.bind ?_ (fun _ => ?_)
theorem spec_LayersOf.mono : ∀ a0 a1 k, LeO (spec_LayersOf.f k a0 a1) (spec_LayersOf.f (k + 1) a0 a1) := by
  intro a0 a1 k
  obtain ⟨ih0, ih1⟩ := spec_LayersOf.mono_l k
  unfold spec_LayersOf.f
  repeat' first
      | (with_reducible exact ih0 _ _ _ _)
      | (with_reducible exact ih1 _ _ _ _ _ _ _ _ _)
      | (with_reducible exact spec_peAll.mono _ _ _)
      | (with_reducible exact spec_peFree.mono _ _ _ _)
      | (with_reducible exact spec_peGood.mono _ _ _)
      | (with_reducible exact spec_peMeet.mono _ _ _)
      | (with_reducible exact LeO.refl _)
      | (with_reducible exact LeO.none _)
      | (with_reducible refine LeO.ite ?_ ?_)
      | (with_reducible refine LeO.bind ?_ (fun _ => ?_))
      | exact ih0 _ _ _ _
      | exact ih1 _ _ _ _ _ _ _ _ _
      | exact spec_peAll.mono _ _ _
      | exact spec_peFree.mono _ _ _ _
      | exact spec_peGood.mono _ _ _
      | exact spec_peMeet.mono _ _ _
      | exact LeO.none _
      | refine LeO.ite ?_ ?_
      | refine LeO.bind ?_ (fun _ => ?_)
noncomputable def spec_LayersOf.L0 (y0 : List (List Int)) (y1 : List Int) (y2 : Int) (y3 : List (List Int)) : Option ((List (List Int)) × Bool) := lim fun k => spec_LayersOf.l0 k y0 y1 y2 y3
theorem spec_LayersOf.L0_sup (y0 : List (List Int)) (y1 : List Int) (y2 : Int) (y3 : List (List Int)) : Sup (fun k => spec_LayersOf.l0 k y0 y1 y2 y3) (spec_LayersOf.L0 y0 y1 y2 y3) := Sup.of_mono fun k => (spec_LayersOf.mono_l k).1 y0 y1 y2 y3
noncomputable def spec_LayersOf.L1 (y0 : List (List Int)) (y1 : List Int) (y2 : List Int) (y3 : List Int) (y4 : List Int) (y5 : Int) (y6 : Int) (y7 : Int) (y8 : List (List Int)) : Option ((List (List Int)) × Bool) := lim fun k => spec_LayersOf.l1 k y0 y1 y2 y3 y4 y5 y6 y7 y8
theorem spec_LayersOf.L1_sup (y0 : List (List Int)) (y1 : List Int) (y2 : List Int) (y3 : List Int) (y4 : List Int) (y5 : Int) (y6 : Int) (y7 : Int) (y8 : List (List Int)) : Sup (fun k => spec_LayersOf.l1 k y0 y1 y2 y3 y4 y5 y6 y7 y8) (spec_LayersOf.L1 y0 y1 y2 y3 y4 y5 y6 y7 y8) := Sup.of_mono fun k => (spec_LayersOf.mono_l k).2 y0 y1 y2 y3 y4 y5 y6 y7 y8
noncomputable def spec_LayersOf.F (a0_0 : Int) (l0_1 : List (List Int)) : Option ((List (List Int)) × Bool) := lim fun k => spec_LayersOf.f k a0_0 l0_1
theorem spec_LayersOf.F_sup (a0_0 : Int) (l0_1 : List (List Int)) : Sup (fun k => spec_LayersOf.f k a0_0 l0_1) (spec_LayersOf.F a0_0 l0_1) := Sup.of_mono fun k => spec_LayersOf.mono a0_0 l0_1 k
theorem spec_LayersOf.L0_eq (x4 : List (List Int)) (x5 : List Int) (x808000 : Int) (x808001 : List (List Int)) : spec_LayersOf.L0 x4 x5 x808000 x808001 = (spec_peFree.F x808000 x808001 x5).bind fun t812 => (if (t812.length : Int) = 0 then (some (x4, true)) else (spec_LayersOf.L1 x4 t812 ([] : List Int) ([] : List Int) x5 (x5.length : Int) 0 x808000 x808001)) := by
  refine Sup.unique (spec_LayersOf.L0_sup x4 x5 x808000 x808001) (Sup.shift (fun k => (spec_LayersOf.mono_l k).1 x4 x5 x808000 x808001) (Sup.congr (g' := fun k => (spec_peFree.f k x808000 x808001 x5).bind fun t812 => (if (t812.length : Int) = 0 then (some (x4, true)) else (spec_LayersOf.l1 k x4 t812 ([] : List Int) ([] : List Int) x5 (x5.length : Int) 0 x808000 x808001))) (fun k => by first | rfl | simp only [spec_LayersOf.l0]) ?_))
  repeat' first
    | (with_reducible exact spec_LayersOf.L0_sup _ _ _ _)
    | (with_reducible exact spec_LayersOf.L1_sup _ _ _ _ _ _ _ _ _)
    | (with_reducible exact spec_peGood.F_sup _ _)
    | (with_reducible exact spec_peAll.F_sup _ _)
    | (with_reducible exact spec_peFree.F_sup _ _ _)
    | (with_reducible exact spec_peMeet.F_sup _ _)
    | (with_reducible refine Sup.ite ?_ ?_)
    | (with_reducible refine Sup.bind ?_ (fun _ => ?_))
    | (with_reducible exact Sup.const _)
    | exact spec_LayersOf.L0_sup _ _ _ _
    | exact spec_LayersOf.L1_sup _ _ _ _ _ _ _ _ _
    | exact spec_peGood.F_sup _ _
    | exact spec_peAll.F_sup _ _
    | exact spec_peFree.F_sup _ _ _
    | exact spec_peMeet.F_sup _ _
    | exact Sup.const _
theorem spec_LayersOf.L1_eq (x4 : List (List Int)) (x6 : List Int) (x7 : List Int) (x8 : List Int) (x23 : List Int) (x24 : Int) (x25 : Int) (x808000 : Int) (x808001 : List (List Int)) : spec_LayersOf.L1 x4 x6 x7 x8 x23 x24 x25 x808000 x808001 = if x25 < x24 then (if 0 ≤ x25 then (if x25 < (x23.length : Int) then (if 0 ≤ (rd x23 x25) then (if (rd x23 x25) < (x808001.length : Int) then ((spec_peMeet.F (rd_L1 x808001 (rd x23 x25)) x6).bind fun t817 => (if t817 = true then (if x7.length < 17592186044416 then (spec_LayersOf.L1 x4 x6 (x7 ++ [rd x23 x25]) x8 x23 x24 (wrap64 (x25 + 1)) x808000 x808001) else (none)) else (if x8.length < 17592186044416 then (spec_LayersOf.L1 x4 x6 x7 (x8 ++ [rd x23 x25]) x23 x24 (wrap64 (x25 + 1)) x808000 x808001) else (none)))) else (none)) else (none)) else (none)) else (none)) else (if x4.length < 5864062014805 then (spec_LayersOf.L0 (x4 ++ [x7]) x8 x808000 x808001) else (none)) := by
  refine Sup.unique (spec_LayersOf.L1_sup x4 x6 x7 x8 x23 x24 x25 x808000 x808001) (Sup.shift (fun k => (spec_LayersOf.mono_l k).2 x4 x6 x7 x8 x23 x24 x25 x808000 x808001) (Sup.congr (g' := fun k => if x25 < x24 then (if 0 ≤ x25 then (if x25 < (x23.length : Int) then (if 0 ≤ (rd x23 x25) then (if (rd x23 x25) < (x808001.length : Int) then ((spec_peMeet.f k (rd_L1 x808001 (rd x23 x25)) x6).bind fun t817 => (if t817 = true then (if x7.length < 17592186044416 then (spec_LayersOf.l1 k x4 x6 (x7 ++ [rd x23 x25]) x8 x23 x24 (wrap64 (x25 + 1)) x808000 x808001) else (none)) else (if x8.length < 17592186044416 then (spec_LayersOf.l1 k x4 x6 x7 (x8 ++ [rd x23 x25]) x23 x24 (wrap64 (x25 + 1)) x808000 x808001) else (none)))) else (none)) else (none)) else (none)) else (none)) else (if x4.length < 5864062014805 then (spec_LayersOf.l0 k (x4 ++ [x7]) x8 x808000 x808001) else (none))) (fun k => by first | rfl | simp only [spec_LayersOf.l1]) ?_))
  repeat' first
    | (with_reducible exact spec_LayersOf.L0_sup _ _ _ _)
    | (with_reducible exact spec_LayersOf.L1_sup _ _ _ _ _ _ _ _ _)
    | (with_reducible exact spec_peGood.F_sup _ _)
    | (with_reducible exact spec_peAll.F_sup _ _)
    | (with_reducible exact spec_peFree.F_sup _ _ _)
    | (with_reducible exact spec_peMeet.F_sup _ _)
    | (with_reducible refine Sup.ite ?_ ?_)
    | (with_reducible refine Sup.bind ?_ (fun _ => ?_))
    | (with_reducible exact Sup.const _)
    | exact spec_LayersOf.L0_sup _ _ _ _
    | exact spec_LayersOf.L1_sup _ _ _ _ _ _ _ _ _
    | exact spec_peGood.F_sup _ _
    | exact spec_peAll.F_sup _ _
    | exact spec_peFree.F_sup _ _ _
    | exact spec_peMeet.F_sup _ _
    | exact Sup.const _
theorem spec_LayersOf.F_eq (a0_0 : Int) (l0_1 : List (List Int)) : spec_LayersOf.F a0_0 l0_1 = (spec_peGood.F a0_0 l0_1).bind fun t808 => (if t808 = true then ((spec_peAll.F a0_0 l0_1).bind fun t809 => (spec_LayersOf.L0 ([] : List (List Int)) t809 a0_0 l0_1)) else (some (([] : List (List Int)), false))) := by
  refine Sup.unique (spec_LayersOf.F_sup a0_0 l0_1) (Sup.congr (g' := fun k => (spec_peGood.f k a0_0 l0_1).bind fun t808 => (if t808 = true then ((spec_peAll.f k a0_0 l0_1).bind fun t809 => (spec_LayersOf.l0 k ([] : List (List Int)) t809 a0_0 l0_1)) else (some (([] : List (List Int)), false)))) (fun k => by first | rfl | simp only [spec_LayersOf.f]) ?_)
  repeat' first
    | (with_reducible exact spec_LayersOf.L0_sup _ _ _ _)
    | (with_reducible exact spec_LayersOf.L1_sup _ _ _ _ _ _ _ _ _)
    | (with_reducible exact spec_peGood.F_sup _ _)
    | (with_reducible exact spec_peAll.F_sup _ _)
    | (with_reducible exact spec_peFree.F_sup _ _ _)
    | (with_reducible exact spec_peMeet.F_sup _ _)
    | (with_reducible refine Sup.ite ?_ ?_)
    | (with_reducible refine Sup.bind ?_ (fun _ => ?_))
    | (with_reducible exact Sup.const _)
    | exact spec_LayersOf.L0_sup _ _ _ _
    | exact spec_LayersOf.L1_sup _ _ _ _ _ _ _ _ _
    | exact spec_peGood.F_sup _ _
    | exact spec_peAll.F_sup _ _
    | exact spec_peFree.F_sup _ _ _
    | exact spec_peMeet.F_sup _ _
    | exact Sup.const _
set_option maxHeartbeats 8000000 in
set_option maxRecDepth 100000 in
theorem spec_LayersOf.calls (k : Nat) (a0_0 : Int) (A0_1 : Option Addr) (c0_1 : Nat) (l0_1 : List (List Int)) (r1 : List (List Int)) (r2 : Bool) (w : World) (hr0_1 : Kd.C (Kd.slice 3 (Kd.int .i64)) w A0_1 l0_1.length l0_1) (hc0_1 : l0_1.length ≤ c0_1) (h : spec_LayersOf.f k a0_0 l0_1 = some (r1, r2)) :
    Calls Try.prog 49 #[.agg #[.int .i64 a0_0, .slice A0_1 l0_1.length c0_1]] w fun e w' => ∃ v0_ : Value, e = .returned (.tuple #[v0_, .bool r2]) ∧ Kd.S (Kd.slice 3 (Kd.int .i64)) 26 w' w.heap.size (fun _ => True) v0_ r1 ∧ Below w.heap.size w w' := by
  have hu29 := Try.underlying29
  have hu22 := Try.underlying22
  have hu26 := Try.underlying26
  have HR0_1 := Aside0.mk hr0_1
  have HC0_1 := Aside0.mk hc0_1
  clear hr0_1 hc0_1
  have HB := Aside0.mk (Below.refl w.heap.size w)
  have H : ((spec_peGood.f k a0_0 l0_1).bind fun t808 => (if t808 = true then ((spec_peAll.f k a0_0 l0_1).bind fun t809 => (spec_LayersOf.l0 k ([] : List (List Int)) t809 a0_0 l0_1)) else (some (([] : List (List Int)), false)))) = some (r1, r2) := h
  clear h
  replace H := Option.bind_eq_some_iff.mp H
  obtain ⟨t808, A20, H⟩ := H
  replace H : (if t808 = true then ((spec_peAll.f k a0_0 l0_1).bind fun t809 => (spec_LayersOf.l0 k ([] : List (List Int)) t809 a0_0 l0_1)) else (some (([] : List (List Int)), false))) = some (r1, r2) := H
  have A2 := Aside0.mk A20
  clear A20
  by_cases c3 : t808 = true
  ·subst c3
   have H1 : ((spec_peAll.f k a0_0 l0_1).bind fun t809 => (spec_LayersOf.l0 k ([] : List (List Int)) t809 a0_0 l0_1)) = some (r1, r2) := by rw [if_pos rfl] at H; exact H
   clear H
   have H := H1
   clear H1
   replace H := Option.bind_eq_some_iff.mp H
   obtain ⟨t809, A40, H⟩ := H
   replace H : (spec_LayersOf.l0 k ([] : List (List Int)) t809 a0_0 l0_1) = some (r1, r2) := H
   have A4 := Aside0.mk A40
   clear A40
   have H' := Aside0.mk H
   clear H
   go_enter Try.func49, Try.ntmps49
   go_wp2_with (first | ((with_reducible refine gate_dst (N := 1) rfl ?_); refine box_event ?hg (N := 1) ?hd (cs := #[.int .i64 a0_0, .slice A0_1 l0_1.length c0_1]) (t := 29) ?hr ?_; (case hd => rfl); (case hg => rfl); (case hr => first | (go_simp; done) | (go_simp; rfl)); intro gb807 hg w5 hbox hb; have n0_ := Aside0.mk (below_step (by repeat (first | (with_reducible first | exact HB.out | apply below_alloc | apply pw_below_drewN | apply below_drew1) | exact HB.out)) hb); have n1_ := Aside0.mk (hbox); have n2_ := Aside0.mk ((by rw [hg]; exact (below_size (by repeat (first | (with_reducible first | exact HB.out | apply below_alloc | apply pw_below_drewN | apply below_drew1) | exact HB.out))) : w.heap.size ≤ gb807)); have n3_ := Aside0.mk ((by rw [hg]; exact (below_size (by repeat (first | (with_reducible first | exact HB.out | apply below_alloc | apply pw_below_drewN | apply below_drew1) | exact HB.out))) : w.heap.size ≤ gb807)); clear HB; have HB := n0_; have BK807 := n1_; have GW807 := n2_; have GE807 := n3_; clear n0_ n1_ n2_ n3_; clear hb hbox hg; have hcz6_0 : w5.cell? ⟨gb807, 0, none⟩ = some (.int .i64 a0_0) := (blk_cell BK807.out 0).trans rfl; have hcz6_1 : w5.cell? ⟨gb807, 1, none⟩ = some (.slice A0_1 l0_1.length c0_1) := (blk_cell BK807.out 1).trans rfl; have hfz6_0 := blk_frozen BK807.out 0; have hfz6_1 := blk_frozen BK807.out 1) | ((with_reducible refine gate_callee (f := 67) rfl ?_); refine goesL_ (some 12) rfl rfl Try.func67 (by kernel_rfl) rfl #[.agg #[.int .i64 a0_0, .slice A0_1 l0_1.length c0_1]] rfl (by (try simp only [List.map_toArray, List.map_cons, List.map_nil]); first | done | rfl | (simp only [List.length_drop, List.length_take]; rfl)) ?_; (with_reducible refine (spec_peGood.calls k a0_0 _ _ l0_1 true _ ?side1 ?side2 A2.out).mono ?_); (case side1 => repeat (first | exact (Kd.C_below HR0_1.out HB.out) | (with_reducible refine Kd.C_alloc ?_ _) | (with_reducible refine Kd.C_drewN ?_ _) | (with_reducible refine Kd.C_drew ?_))); (case side2 => exact HC0_1.out); rintro e w7 ⟨rfl, hb⟩; refine ⟨_, rfl, ?_⟩; have n0_ := Aside0.mk (blk_below (g := gb807) (o := .cells #[.int .i64 a0_0, .slice A0_1 l0_1.length c0_1] 29 (0, 0)) (by (with_reducible repeat (first | refine blk_drewN ?_ _ | refine blk_drew ?_ | refine blk_alloc ?_ _)); exact BK807.out) hb); have n1_ := Aside0.mk (below_step (by repeat (first | (with_reducible first | exact HB.out | apply below_alloc | apply pw_below_drewN | apply below_drew1 | refine below_set ?_ GE807.out) | exact HB.out)) hb); clear BK807; clear HB; have BK807 := n0_; have HB := n1_; clear n0_ n1_; (try clear hb); (try clear hb2); (try clear hk); (try clear hi); have hcz8_0 : w7.cell? ⟨gb807, 0, none⟩ = some (.int .i64 a0_0) := (blk_cell BK807.out 0).trans rfl; have hcz8_1 : w7.cell? ⟨gb807, 1, none⟩ = some (.slice A0_1 l0_1.length c0_1) := (blk_cell BK807.out 1).trans rfl; have hfz8_0 := blk_frozen BK807.out 0; have hfz8_1 := blk_frozen BK807.out 1) | ((with_reducible refine gate_callee (f := 69) rfl ?_); refine goesL_ (some 15) rfl rfl Try.func69 (by kernel_rfl) rfl #[.agg #[.int .i64 a0_0, .slice A0_1 l0_1.length c0_1]] rfl (by (try simp only [List.map_toArray, List.map_cons, List.map_nil]); first | done | rfl | (simp only [List.length_drop, List.length_take]; rfl)) ?_; (with_reducible refine (spec_peAll.calls k a0_0 _ _ l0_1 t809 _ ?side1 ?side2 A4.out).mono ?_); (case side1 => repeat (first | exact (Kd.C_below HR0_1.out HB.out) | (with_reducible refine Kd.C_alloc ?_ _) | (with_reducible refine Kd.C_drewN ?_ _) | (with_reducible refine Kd.C_drew ?_))); (case side2 => exact HC0_1.out); rintro e w9 ⟨v810, rfl, ho0, hb⟩; refine ⟨_, rfl, ?_⟩; have n0_ := Aside0.mk (Kd.R_lower ho0 (below_size (by repeat (first | (with_reducible first | exact HB.out | apply below_alloc | apply pw_below_drewN | apply below_drew1 | refine below_set ?_ GE807.out) | exact HB.out)))); have n1_ := Aside0.mk (blk_below (g := gb807) (o := .cells #[.int .i64 a0_0, .slice A0_1 l0_1.length c0_1] 29 (0, 0)) (by (with_reducible repeat (first | refine blk_drewN ?_ _ | refine blk_drew ?_ | refine blk_alloc ?_ _)); exact BK807.out) hb); have n2_ := Aside0.mk (below_step (by repeat (first | (with_reducible first | exact HB.out | apply below_alloc | apply pw_below_drewN | apply below_drew1 | refine below_set ?_ GE807.out) | exact HB.out)) hb); clear BK807; clear HB; have HO811 := n0_; have BK807 := n1_; have HB := n2_; clear n0_ n1_ n2_; (try clear hb); (try clear hb2); (try clear hk); (try clear hi); (try clear ho0)))
   go_loopg [4, 5] k (fun kq v4 v5 w' => ∃ (x4_1 : List (List Int)) (x5_1 : List Int), Aside0 (spec_LayersOf.l0 kq x4_1 x5_1 a0_0 l0_1 = some (r1, r2)) ∧ Aside0 (kq ≤ k) ∧ Aside0 (Kd.S (Kd.slice 3 (Kd.int .i64)) 26 w' w.heap.size (fun k_ => some k_ ≠ (v5 : Value).ownBlock) v4 x4_1) ∧ Aside0 (Kd.R (Kd.int .i64) 3 w' w.heap.size (fun _ => True) v5 x5_1) ∧ Aside0 (w'.heap[gb807]? = some (.cells #[.int .i64 a0_0, (.slice A0_1 l0_1.length c0_1)] 29 (0, 0))) ∧ Aside0 (Below w.heap.size w w'))
   case atStart => exact ⟨(([] : List (List Int))), (t809), H', ⟨Nat.le_refl _⟩, ⟨by first | exact Kd.S_nil _ _ _ _ _ | exact Kd.N_nil _ _ _ _ _ | exact Kd.V_nil _ _ _ _ _ | exact Kd.Q_nil _ _ _ _ _ | exact Kd.R_nil _ _ _ _ _⟩, ⟨by (with_reducible repeat (first | apply Kd.R_alloc | apply Kd.R_drewN | apply Kd.R_drew)); exact HO811.out⟩, ⟨by (with_reducible repeat (first | refine blk_drewN ?_ _ | refine blk_drew ?_ | refine blk_alloc ?_ _)); exact BK807.out⟩, ⟨by repeat (first | (with_reducible first | exact HB.out | apply below_alloc | apply pw_below_drewN | apply below_drew1 | refine below_set ?_ GE807.out) | exact HB.out)⟩⟩
   case round =>
    clear H'
    try clear p2
    try clear c3
    try clear c4
    try clear c6
    try clear hcz6_0
    try clear hcz6_1
    try clear hcz8_0
    try clear hcz8_1
    try clear hfz6_0
    try clear hfz6_1
    try clear hfz8_0
    try clear hfz8_1
    obtain ⟨x4_1, x5_1, HA, HK1, HO_4, HO_5, BK807, HB⟩ := hrel
    cases gk with
    | zero => exact absurd HA.out (by simp [spec_LayersOf.l0])
    | succ k1 =>
     have H := HA.out
     clear HA
     simp only [spec_LayersOf.l0] at H
     replace H := Option.bind_eq_some_iff.mp H
     obtain ⟨t812, A100, H⟩ := H
     replace H : (if (t812.length : Int) = 0 then (some (x4_1, true)) else (spec_LayersOf.l1 k1 x4_1 t812 ([] : List Int) ([] : List Int) x5_1 (x5_1.length : Int) 0 a0_0 l0_1)) = some (r1, r2) := H
     have A10 := Aside0.mk A100
     clear A100
     by_cases c11 : (t812.length : Int) = 0
     ·rw [if_pos c11] at H
      have c11b0 : ((t812.length : Int) == 0) = true := beq_iff_eq.mpr c11
      have c11b1 : ((t812.length : Int) != 0) = false := bne_eq_false_iff_eq.mpr c11
      clear c11
      simp only [Option.some.injEq, Prod.mk.injEq] at H
      obtain ⟨rfl, rfl⟩ := H
      have hcz12_0 : wr.cell? ⟨gb807, 0, none⟩ = some (.int .i64 a0_0) := (blk_cell BK807.out 0).trans rfl
      have hcz12_1 : wr.cell? ⟨gb807, 1, none⟩ = some (.slice A0_1 l0_1.length c0_1) := (blk_cell BK807.out 1).trans rfl
      have hfz12_0 := blk_frozen BK807.out 0
      have hfz12_1 := blk_frozen BK807.out 1
      obtain ⟨Ao13, co13, eo13⟩ := Kd.R_slice HO_5.out
      subst eo13
      go_wp2_with (first | ((with_reducible refine gate_callee (f := 79) rfl ?_); refine goesL_ (some 18) rfl rfl Try.func79 (by kernel_rfl) rfl #[.agg #[.int .i64 a0_0, .slice A0_1 l0_1.length c0_1], .slice Ao13 x5_1.length co13] rfl (by (try simp only [List.map_toArray, List.map_cons, List.map_nil]); first | done | rfl | (simp only [List.length_drop, List.length_take]; rfl)) ?_; (with_reducible refine (spec_peFree.calls k1 a0_0 _ _ l0_1 _ _ x5_1 t812 _ ?side1 ?side2 ?side3 ?side4 A10.out).mono ?_); (case side1 => repeat (first | exact (Kd.C_below HR0_1.out HB.out) | (with_reducible refine Kd.C_alloc ?_ _) | (with_reducible refine Kd.C_drewN ?_ _) | (with_reducible refine Kd.C_drew ?_))); (case side2 => exact HC0_1.out); (case side3 => repeat (first | exact (Kd.R_reads' HO_5.out).2.2 | (with_reducible refine Kd.C_alloc ?_ _) | (with_reducible refine Kd.C_drewN ?_ _) | (with_reducible refine Kd.C_drew ?_))); (case side4 => exact (Kd.R_reads' HO_5.out).2.1); rintro e w14 ⟨v813, rfl, ho0, hb⟩; refine ⟨_, rfl, ?_⟩; have n0_ := Aside0.mk (Kd.S_elder' (by (with_reducible repeat (first | apply Kd.S_alloc | apply Kd.S_drewN | apply Kd.S_drew)); exact HO_4.out) (Kd.R_base ho0) hb); have n1_ := Aside0.mk (Kd.R_elder' (by (with_reducible repeat (first | apply Kd.R_alloc | apply Kd.R_drewN | apply Kd.R_drew)); exact HO_5.out) (Kd.R_base ho0) hb); have n2_ := Aside0.mk (Kd.R_lower (Kd.R_new' ho0 (Kd.R_lt (by (with_reducible repeat (first | apply Kd.R_alloc | apply Kd.R_drewN | apply Kd.R_drew)); exact HO_5.out))) (below_size (by repeat (first | (with_reducible first | exact HB.out | apply below_alloc | apply pw_below_drewN | apply below_drew1 | refine below_set ?_ GE807.out) | exact HB.out)))); have n3_ := Aside0.mk (blk_below (g := gb807) (o := .cells #[.int .i64 a0_0, .slice A0_1 l0_1.length c0_1] 29 (0, 0)) (by (with_reducible repeat (first | refine blk_drewN ?_ _ | refine blk_drew ?_ | refine blk_alloc ?_ _)); exact BK807.out) hb); have n4_ := Aside0.mk (below_step (by repeat (first | (with_reducible first | exact HB.out | apply below_alloc | apply pw_below_drewN | apply below_drew1 | refine below_set ?_ GE807.out) | exact HB.out)) hb); clear HO_4; clear HO_5; clear BK807; clear HB; have HO_4 := n0_; have HO_5 := n1_; have HO814 := n2_; have BK807 := n3_; have HB := n4_; clear n0_ n1_ n2_ n3_ n4_; (try clear hb); (try clear hb2); (try clear hk); (try clear hi); (try clear ho0); obtain ⟨Ao15, co15, eo15⟩ := Kd.R_slice HO814.out; subst eo15))
      go_ret2
      exact ⟨_, by first | rfl | (simp [errW_none, errW_some] <;> rfl) | (simp [*, errW_none, errW_some] <;> rfl), by (with_reducible repeat (first | apply Kd.S_alloc | apply Kd.S_drewN | apply Kd.S_drew)); exact Kd.S_mono HO_4.out (fun _ hk => trivial), by repeat (first | (with_reducible first | exact HB.out | apply below_alloc | apply pw_below_drewN | apply below_drew1 | refine below_set ?_ GE807.out) | exact HB.out)⟩
     ·rw [if_neg c11] at H
      have c11b0 : ((t812.length : Int) == 0) = false := beq_eq_false_iff_ne.mpr c11
      have c11b1 : ((t812.length : Int) != 0) = true := bne_iff_ne.mpr c11
      have c11b2 : ¬ (t812 = []) := fun h_ => c11 (by rw [h_]; rfl)
      have H' := Aside0.mk H
      clear H
      have hcz16_0 : wr.cell? ⟨gb807, 0, none⟩ = some (.int .i64 a0_0) := (blk_cell BK807.out 0).trans rfl
      have hcz16_1 : wr.cell? ⟨gb807, 1, none⟩ = some (.slice A0_1 l0_1.length c0_1) := (blk_cell BK807.out 1).trans rfl
      have hfz16_0 := blk_frozen BK807.out 0
      have hfz16_1 := blk_frozen BK807.out 1
      obtain ⟨Ao17, co17, eo17⟩ := Kd.R_slice HO_5.out
      subst eo17
      go_wp2_with (first | ((with_reducible refine gate_callee (f := 79) rfl ?_); refine goesL_ (some 18) rfl rfl Try.func79 (by kernel_rfl) rfl #[.agg #[.int .i64 a0_0, .slice A0_1 l0_1.length c0_1], .slice Ao17 x5_1.length co17] rfl (by (try simp only [List.map_toArray, List.map_cons, List.map_nil]); first | done | rfl | (simp only [List.length_drop, List.length_take]; rfl)) ?_; (with_reducible refine (spec_peFree.calls k1 a0_0 _ _ l0_1 _ _ x5_1 t812 _ ?side1 ?side2 ?side3 ?side4 A10.out).mono ?_); (case side1 => repeat (first | exact (Kd.C_below HR0_1.out HB.out) | (with_reducible refine Kd.C_alloc ?_ _) | (with_reducible refine Kd.C_drewN ?_ _) | (with_reducible refine Kd.C_drew ?_))); (case side2 => exact HC0_1.out); (case side3 => repeat (first | exact (Kd.R_reads' HO_5.out).2.2 | (with_reducible refine Kd.C_alloc ?_ _) | (with_reducible refine Kd.C_drewN ?_ _) | (with_reducible refine Kd.C_drew ?_))); (case side4 => exact (Kd.R_reads' HO_5.out).2.1); rintro e w18 ⟨v813, rfl, ho0, hb⟩; refine ⟨_, rfl, ?_⟩; have n0_ := Aside0.mk (Kd.S_elder' (by (with_reducible repeat (first | apply Kd.S_alloc | apply Kd.S_drewN | apply Kd.S_drew)); exact HO_4.out) (Kd.R_base ho0) hb); have n1_ := Aside0.mk (Kd.R_elder' (by (with_reducible repeat (first | apply Kd.R_alloc | apply Kd.R_drewN | apply Kd.R_drew)); exact HO_5.out) (Kd.R_base ho0) hb); have n2_ := Aside0.mk (Kd.R_lower (Kd.R_new' ho0 (Kd.R_lt (by (with_reducible repeat (first | apply Kd.R_alloc | apply Kd.R_drewN | apply Kd.R_drew)); exact HO_5.out))) (below_size (by repeat (first | (with_reducible first | exact HB.out | apply below_alloc | apply pw_below_drewN | apply below_drew1 | refine below_set ?_ GE807.out) | exact HB.out)))); have n3_ := Aside0.mk (blk_below (g := gb807) (o := .cells #[.int .i64 a0_0, .slice A0_1 l0_1.length c0_1] 29 (0, 0)) (by (with_reducible repeat (first | refine blk_drewN ?_ _ | refine blk_drew ?_ | refine blk_alloc ?_ _)); exact BK807.out) hb); have n4_ := Aside0.mk (below_step (by repeat (first | (with_reducible first | exact HB.out | apply below_alloc | apply pw_below_drewN | apply below_drew1 | refine below_set ?_ GE807.out) | exact HB.out)) hb); clear HO_4; clear HO_5; clear BK807; clear HB; have HO_4 := n0_; have HO_5 := n1_; have HO814 := n2_; have BK807 := n3_; have HB := n4_; clear n0_ n1_ n2_ n3_ n4_; (try clear hb); (try clear hb2); (try clear hk); (try clear hi); (try clear ho0); obtain ⟨Ao19, co19, eo19⟩ := Kd.R_slice HO814.out; subst eo19))
      go_loopg [7, 8, 25] k1 (fun kq v7 v8 v25 w' => ∃ (x7_2 : List Int) (x8_2 : List Int) (x25_2 : Int), v25 = .int .i64 x25_2 ∧ Aside0 (spec_LayersOf.l1 kq x4_1 t812 x7_2 x8_2 x5_1 (x5_1.length : Int) x25_2 a0_0 l0_1 = some (r1, r2)) ∧ Aside0 (kq ≤ k1) ∧ Aside0 (Kd.S (Kd.slice 3 (Kd.int .i64)) 26 w' w.heap.size (fun k_ => some k_ ≠ ((.slice Ao19 t812.length co19) : Value).ownBlock ∧ some k_ ≠ (v7 : Value).ownBlock ∧ some k_ ≠ (v8 : Value).ownBlock ∧ some k_ ≠ ((.slice Ao17 x5_1.length co17) : Value).ownBlock) u4 x4_1) ∧ Aside0 (Kd.R (Kd.int .i64) 3 w' w.heap.size (fun k_ => some k_ ≠ (v7 : Value).ownBlock ∧ some k_ ≠ (v8 : Value).ownBlock ∧ some k_ ≠ ((.slice Ao17 x5_1.length co17) : Value).ownBlock) (.slice Ao19 t812.length co19) t812) ∧ Aside0 (Kd.R (Kd.int .i64) 3 w' w.heap.size (fun k_ => some k_ ≠ ((.slice Ao19 t812.length co19) : Value).ownBlock ∧ some k_ ≠ (v8 : Value).ownBlock ∧ some k_ ≠ ((.slice Ao17 x5_1.length co17) : Value).ownBlock) v7 x7_2) ∧ Aside0 (Kd.R (Kd.int .i64) 3 w' w.heap.size (fun k_ => some k_ ≠ ((.slice Ao19 t812.length co19) : Value).ownBlock ∧ some k_ ≠ (v7 : Value).ownBlock ∧ some k_ ≠ ((.slice Ao17 x5_1.length co17) : Value).ownBlock) v8 x8_2) ∧ Aside0 (Kd.R (Kd.int .i64) 3 w' w.heap.size (fun k_ => some k_ ≠ ((.slice Ao19 t812.length co19) : Value).ownBlock ∧ some k_ ≠ (v7 : Value).ownBlock ∧ some k_ ≠ (v8 : Value).ownBlock) (.slice Ao17 x5_1.length co17) x5_1) ∧ Aside0 (w'.heap[gb807]? = some (.cells #[.int .i64 a0_0, (.slice A0_1 l0_1.length c0_1)] 29 (0, 0))) ∧ Aside0 (Below w.heap.size w w'))
      case atStart => exact ⟨(([] : List Int)), (([] : List Int)), (0), (by first | rfl | (simp; done) | (simp [*]; done)), H', ⟨Nat.le_refl _⟩, ⟨by (with_reducible repeat (first | apply Kd.S_alloc | apply Kd.S_drewN | apply Kd.S_drew)); exact Kd.S_mono HO_4.out (fun _ hk => ⟨hk.2, ⟨(by simp [Value.ownBlock]), ⟨(by simp [Value.ownBlock]), hk.1⟩⟩⟩)⟩, ⟨by (with_reducible repeat (first | apply Kd.R_alloc | apply Kd.R_drewN | apply Kd.R_drew)); exact Kd.R_mono HO814.out (fun _ hk => ⟨(by simp [Value.ownBlock]), ⟨(by simp [Value.ownBlock]), hk.2⟩⟩)⟩, ⟨by first | exact Kd.R_nil _ _ _ _ _ | exact Kd.N_nil _ _ _ _ _ | exact Kd.V_nil _ _ _ _ _ | exact Kd.Q_nil _ _ _ _ _ | exact Kd.S_nil _ _ _ _ _⟩, ⟨by first | exact Kd.R_nil _ _ _ _ _ | exact Kd.N_nil _ _ _ _ _ | exact Kd.V_nil _ _ _ _ _ | exact Kd.Q_nil _ _ _ _ _ | exact Kd.S_nil _ _ _ _ _⟩, ⟨by (with_reducible repeat (first | apply Kd.R_alloc | apply Kd.R_drewN | apply Kd.R_drew)); exact Kd.R_mono HO_5.out (fun _ hk => ⟨hk.2, ⟨(by simp [Value.ownBlock]), (by simp [Value.ownBlock])⟩⟩)⟩, ⟨by (with_reducible repeat (first | refine blk_drewN ?_ _ | refine blk_drew ?_ | refine blk_alloc ?_ _)); exact BK807.out⟩, ⟨by repeat (first | (with_reducible first | exact HB.out | apply below_alloc | apply pw_below_drewN | apply below_drew1 | refine below_set ?_ GE807.out) | exact HB.out)⟩⟩
      case round =>
       clear H'
       try clear c1
       try clear p2
       try clear c3
       try clear c4
       try clear c6
       try clear c7
       try clear c11
       try clear c11b0
       try clear c11b1
       try clear c11b2
       try clear hcz12_0
       try clear hcz12_1
       try clear hcz16_0
       try clear hcz16_1
       try clear hcz6_0
       try clear hcz6_1
       try clear hcz8_0
       try clear hcz8_1
       try clear hfz12_0
       try clear hfz12_1
       try clear hfz16_0
       try clear hfz16_1
       try clear hfz6_0
       try clear hfz6_1
       try clear hfz8_0
       try clear hfz8_1
       try clear p2
       obtain ⟨x7_2, x8_2, x25_2, rfl, HA, HK2, HO_4, HO_6, HO_7, HO_8, HO_23, BK807, HB⟩ := hrel
       cases gk with
       | zero => exact absurd HA.out (by simp [spec_LayersOf.l1])
       | succ k2 =>
        have H := HA.out
        clear HA
        simp only [spec_LayersOf.l1] at H
        by_cases c20 : x25_2 < (x5_1.length : Int)
        ·rw [if_pos c20] at H
         have c20b0 : decide (x25_2 < (x5_1.length : Int)) = true := decide_eq_true c20
         clear c20
         by_cases c21 : 0 ≤ x25_2
         ·rw [if_pos c21] at H
          have c21b0 : decide (0 ≤ x25_2) = true := decide_eq_true c21
          clear c21
          by_cases c22 : x25_2 < (x5_1.length : Int)
          ·rw [if_pos c22] at H
           have c22b0 : decide (x25_2 < (x5_1.length : Int)) = true := decide_eq_true c22
           clear c22
           by_cases c23 : 0 ≤ (rd x5_1 x25_2)
           ·rw [if_pos c23] at H
            have c23b0 : decide (0 ≤ (rd x5_1 x25_2)) = true := decide_eq_true c23
            clear c23
            by_cases c24 : (rd x5_1 x25_2) < (l0_1.length : Int)
            ·rw [if_pos c24] at H
             have c24b0 : decide ((rd x5_1 x25_2) < (l0_1.length : Int)) = true := decide_eq_true c24
             clear c24
             replace H := Option.bind_eq_some_iff.mp H
             obtain ⟨t817, A250, H⟩ := H
             replace H : (if t817 = true then (if x7_2.length < 17592186044416 then (spec_LayersOf.l1 k2 x4_1 t812 (x7_2 ++ [rd x5_1 x25_2]) x8_2 x5_1 (x5_1.length : Int) (wrap64 (x25_2 + 1)) a0_0 l0_1) else (none)) else (if x8_2.length < 17592186044416 then (spec_LayersOf.l1 k2 x4_1 t812 x7_2 (x8_2 ++ [rd x5_1 x25_2]) x5_1 (x5_1.length : Int) (wrap64 (x25_2 + 1)) a0_0 l0_1) else (none))) = some (r1, r2) := H
             have A25 := Aside0.mk A250
             clear A250
             by_cases c26 : t817 = true
             ·subst c26
              have H1 : (if x7_2.length < 17592186044416 then (spec_LayersOf.l1 k2 x4_1 t812 (x7_2 ++ [rd x5_1 x25_2]) x8_2 x5_1 (x5_1.length : Int) (wrap64 (x25_2 + 1)) a0_0 l0_1) else (none)) = some (r1, r2) := by rw [if_pos rfl] at H; exact H
              clear H
              have H := H1
              clear H1
              by_cases c27 : x7_2.length < 17592186044416
              ·rw [if_pos c27] at H
               have LMc27 := Aside0.mk c27
               clear c27
               obtain ⟨y818, hy818⟩ : ∃ y_ : List Int, y_ = (x7_2 ++ [rd x5_1 x25_2]) := ⟨_, rfl⟩
               replace H : (spec_LayersOf.l1 k2 x4_1 t812 y818 x8_2 x5_1 (x5_1.length : Int) (wrap64 (x25_2 + 1)) a0_0 l0_1) = some (r1, r2) := by first | (rw [hy818]; with_reducible exact H) | (have H2_ := (Option.bind_some _ _).symm.trans H; rw [hy818]; with_reducible exact H2_) | (have H2_ := (Option.bind_some _ _).symm.trans H; with_reducible exact H2_) | with_reducible exact H | (rw [hy818]; exact H) | exact H
               have Ny818 := Aside0.mk hy818
               clear hy818
               have H' := Aside0.mk H
               clear H
               have p815 : 0 ≤ (x25_2 : Int) := of_decide_eq_true (by first | (with_reducible assumption) | assumption)
               have q815 : x25_2 < (x5_1.length : Int) := of_decide_eq_true (by first | (with_reducible assumption) | assumption)
               obtain ⟨ad815, e815, hx815_0⟩ := Kd.at_int (Kd.R_reads' HO_23.out).2.2 x25_2 p815 q815
               cases e815
               replace p815 := eq_true p815
               replace q815 := eq_true q815
               have hcz28_0 : wr.cell? ⟨gb807, 0, none⟩ = some (.int .i64 a0_0) := (blk_cell BK807.out 0).trans rfl
               have hcz28_1 : wr.cell? ⟨gb807, 1, none⟩ = some (.slice A0_1 l0_1.length c0_1) := (blk_cell BK807.out 1).trans rfl
               have hfz28_0 := blk_frozen BK807.out 0
               have hfz28_1 := blk_frozen BK807.out 1
               have p816 : 0 ≤ ((rd x5_1 x25_2) : Int) := of_decide_eq_true (by first | (with_reducible assumption) | assumption)
               have q816 : (rd x5_1 x25_2) < (l0_1.length : Int) := of_decide_eq_true (by first | (with_reducible assumption) | assumption)
               obtain ⟨ad816, A816_0, c816_0, e816, hx816_0, hl816_0, hi816_0⟩ := at_L1 HR0_1.out (rd x5_1 x25_2) p816 q816
               cases e816
               replace hx816_0 := (HB.out.cell (World.block_lt_of_cell? w _ hx816_0)).trans hx816_0
               have HR816_0 := Aside0.mk hi816_0
               have HC816_0 := Aside0.mk hl816_0
               clear hi816_0 hl816_0
               replace p816 := eq_true p816
               replace q816 := eq_true q816
               go_wp2_with (first | ((with_reducible refine gate_callee (f := 97) rfl ?_); refine goesL_ (some 35) rfl rfl Try.func97 (by kernel_rfl) rfl #[.slice A816_0 (rd_L1 l0_1 (rd x5_1 x25_2)).length c816_0, .slice Ao19 t812.length co19] rfl (by (try simp only [List.map_toArray, List.map_cons, List.map_nil]); first | done | rfl | (simp only [List.length_drop, List.length_take]; rfl)) ?_; (with_reducible refine (spec_peMeet.calls k2 _ _ (rd_L1 l0_1 (rd x5_1 x25_2)) _ _ t812 true _ ?side1 ?side2 ?side3 ?side4 A25.out).mono ?_); (case side1 => repeat (first | exact (Kd.C_below HR816_0.out HB.out) | (with_reducible refine Kd.C_alloc ?_ _) | (with_reducible refine Kd.C_drewN ?_ _) | (with_reducible refine Kd.C_drew ?_))); (case side2 => exact HC816_0.out); (case side3 => repeat (first | exact (Kd.R_reads' HO_6.out).2.2 | (with_reducible refine Kd.C_alloc ?_ _) | (with_reducible refine Kd.C_drewN ?_ _) | (with_reducible refine Kd.C_drew ?_))); (case side4 => exact (Kd.R_reads' HO_6.out).2.1); rintro e w' ⟨rfl, ⟨nd, rfl⟩⟩; refine ⟨_, rfl, ?_⟩) | ((with_reducible refine gate_builtin (b := .append) (xs := #[.tmp 36, .tmp 38]) rfl ?_); at_builtin; refine Kd.R_append (Kd.int .i64) (w0 := w) w.heap.size rfl (.tmp 36) (.tmp 38) 26 3 (.int .i64 0) 8 rfl Try.underlying26 info3 rfl (by decide) (by omega) u7 x7_2 (rd x5_1 x25_2) [.int .i64 (rd x5_1 x25_2)] (fun k_ => some k_ ≠ (.slice Ao19 t812.length co19 : Value).ownBlock ∧ some k_ ≠ (u8 : Value).ownBlock ∧ some k_ ≠ (.slice (some ad815) x5_1.length co17 : Value).ownBlock) (fun _ => False) rfl rfl ?aP (fun _ hk => hk.elim) ?aF ?aO ?aB ?aS ?aL ?_; (case aP => exact rfl); (case aB => exact (by repeat (first | (with_reducible first | exact HB.out | apply below_alloc | apply pw_below_drewN | apply below_drew1 | refine below_set ?_ GE807.out) | exact HB.out))); (case aF => exact (fun k_ hk => ⟨Kd.fresh' (Kd.R_lt (by (with_reducible repeat (first | apply Kd.R_alloc | apply Kd.R_drewN | apply Kd.R_drew)); exact HO_6.out)) k_ hk, Kd.fresh' (Kd.R_lt (by (with_reducible repeat (first | apply Kd.R_alloc | apply Kd.R_drewN | apply Kd.R_drew)); exact HO_8.out)) k_ hk, Kd.fresh' (Kd.R_lt (by (with_reducible repeat (first | apply Kd.R_alloc | apply Kd.R_drewN | apply Kd.R_drew)); exact HO_23.out)) k_ hk⟩)); (case aO => exact (by (with_reducible repeat (first | apply Kd.R_alloc | apply Kd.R_drewN | apply Kd.R_drew)); exact HO_7.out)); (case aS => exact (below_size (by repeat (first | (with_reducible first | exact HB.out | apply below_alloc | apply pw_below_drewN | apply below_drew1 | refine below_set ?_ GE807.out) | exact HB.out)))); (case aL => have := LMc27.out; omega); intro v819 w29 ho hb hg hat; rw [← Ny818.out] at ho; have n0_ := Aside0.mk (Kd.S_after (ok := (fun k_ => some k_ ≠ (.slice Ao19 t812.length co19 : Value).ownBlock ∧ some k_ ≠ (u8 : Value).ownBlock ∧ some k_ ≠ (.slice (some ad815) x5_1.length co17 : Value).ownBlock)) (by (with_reducible repeat (first | apply Kd.S_alloc | apply Kd.S_drewN | apply Kd.S_drew)); exact Kd.S_mono HO_4.out (fun _ hk => ⟨⟨hk.1, ⟨hk.2.2.1, hk.2.2.2⟩⟩, hk.2.1⟩)) hg hat); have n1_ := Aside0.mk (Kd.R_after (ok := (fun k_ => some k_ ≠ (u8 : Value).ownBlock ∧ some k_ ≠ (.slice (some ad815) x5_1.length co17 : Value).ownBlock)) (by (with_reducible repeat (first | apply Kd.R_alloc | apply Kd.R_drewN | apply Kd.R_drew)); exact Kd.R_mono HO_6.out (fun _ hk => ⟨⟨hk.2.1, hk.2.2⟩, hk.1⟩)) hg hat); have n2_ := Aside0.mk (Kd.R_after (ok := (fun k_ => some k_ ≠ (.slice Ao19 t812.length co19 : Value).ownBlock ∧ some k_ ≠ (.slice (some ad815) x5_1.length co17 : Value).ownBlock)) (by (with_reducible repeat (first | apply Kd.R_alloc | apply Kd.R_drewN | apply Kd.R_drew)); exact Kd.R_mono HO_8.out (fun _ hk => ⟨⟨hk.1, hk.2.2⟩, hk.2.1⟩)) hg hat); have n3_ := Aside0.mk (Kd.R_after (ok := (fun k_ => some k_ ≠ (.slice Ao19 t812.length co19 : Value).ownBlock ∧ some k_ ≠ (u8 : Value).ownBlock)) (by (with_reducible repeat (first | apply Kd.R_alloc | apply Kd.R_drewN | apply Kd.R_drew)); exact Kd.R_mono HO_23.out (fun _ hk => ⟨⟨hk.1, hk.2.2⟩, hk.2.1⟩)) hg hat); have n4_ := Aside0.mk (blk_grown (g := gb807) (o := .cells #[.int .i64 a0_0, .slice (some ad816) l0_1.length c0_1] 29 (0, 0)) (by (with_reducible repeat (first | refine blk_drewN ?_ _ | refine blk_drew ?_ | refine blk_alloc ?_ _)); exact BK807.out) hg (Kd.R_ne HO_7.out BK807.out (by decide))); have n5_ := Aside0.mk (hb); have n6_ := Aside0.mk (ho); clear HO_4; clear HO_6; clear HO_8; clear HO_23; clear BK807; clear HB; clear HO_7; have HO_4 := n0_; have HO_6 := n1_; have HO_8 := n2_; have HO_23 := n3_; have BK807 := n4_; have HB := n5_; have HO820 := n6_; clear n0_ n1_ n2_ n3_ n4_ n5_ n6_; clear ho hb hg hat))
               go_roundg k2
               case measure => have := HK1.out; have := HK2.out; omega
               case rel => exact ⟨(y818), (x8_2), (wrap64 (x25_2 + 1)), (by first | rfl | (simp; done) | (simp [*]; done)), H', ⟨by have := HK1.out; have := HK2.out; omega⟩, ⟨by (with_reducible repeat (first | apply Kd.S_alloc | apply Kd.S_drewN | apply Kd.S_drew)); exact Kd.S_mono HO_4.out (fun _ hk => ⟨hk.1.1, ⟨hk.2, ⟨hk.1.2.1, hk.1.2.2⟩⟩⟩)⟩, ⟨by (with_reducible repeat (first | apply Kd.R_alloc | apply Kd.R_drewN | apply Kd.R_drew)); exact Kd.R_mono HO_6.out (fun _ hk => ⟨hk.2, ⟨hk.1.1, hk.1.2⟩⟩)⟩, ⟨by (with_reducible repeat (first | apply Kd.R_alloc | apply Kd.R_drewN | apply Kd.R_drew)); exact HO820.out⟩, ⟨by (with_reducible repeat (first | apply Kd.R_alloc | apply Kd.R_drewN | apply Kd.R_drew)); exact Kd.R_mono HO_8.out (fun _ hk => ⟨hk.1.1, ⟨hk.2, hk.1.2⟩⟩)⟩, ⟨by (with_reducible repeat (first | apply Kd.R_alloc | apply Kd.R_drewN | apply Kd.R_drew)); exact Kd.R_mono HO_23.out (fun _ hk => ⟨hk.1.1, ⟨hk.2, hk.1.2⟩⟩)⟩, ⟨by (with_reducible repeat (first | refine blk_drewN ?_ _ | refine blk_drew ?_ | refine blk_alloc ?_ _)); exact BK807.out⟩, ⟨by repeat (first | (with_reducible first | exact HB.out | apply below_alloc | apply pw_below_drewN | apply below_drew1 | refine below_set ?_ GE807.out) | exact HB.out)⟩⟩
              ·rw [if_neg c27] at H
               exact absurd H (by simp)
             ·replace c26 := Bool.eq_false_iff.mpr c26
              subst c26
              have H1 : (if x8_2.length < 17592186044416 then (spec_LayersOf.l1 k2 x4_1 t812 x7_2 (x8_2 ++ [rd x5_1 x25_2]) x5_1 (x5_1.length : Int) (wrap64 (x25_2 + 1)) a0_0 l0_1) else (none)) = some (r1, r2) := by rw [if_neg (show ¬ (false = true) by decide)] at H; exact H
              clear H
              have H := H1
              clear H1
              by_cases c30 : x8_2.length < 17592186044416
              ·rw [if_pos c30] at H
               have LMc30 := Aside0.mk c30
               clear c30
               obtain ⟨y821, hy821⟩ : ∃ y_ : List Int, y_ = (x8_2 ++ [rd x5_1 x25_2]) := ⟨_, rfl⟩
               replace H : (spec_LayersOf.l1 k2 x4_1 t812 x7_2 y821 x5_1 (x5_1.length : Int) (wrap64 (x25_2 + 1)) a0_0 l0_1) = some (r1, r2) := by first | (rw [hy821]; with_reducible exact H) | (have H2_ := (Option.bind_some _ _).symm.trans H; rw [hy821]; with_reducible exact H2_) | (have H2_ := (Option.bind_some _ _).symm.trans H; with_reducible exact H2_) | with_reducible exact H | (rw [hy821]; exact H) | exact H
               have Ny821 := Aside0.mk hy821
               clear hy821
               have H' := Aside0.mk H
               clear H
               have p815 : 0 ≤ (x25_2 : Int) := of_decide_eq_true (by first | (with_reducible assumption) | assumption)
               have q815 : x25_2 < (x5_1.length : Int) := of_decide_eq_true (by first | (with_reducible assumption) | assumption)
               obtain ⟨ad815, e815, hx815_0⟩ := Kd.at_int (Kd.R_reads' HO_23.out).2.2 x25_2 p815 q815
               cases e815
               replace p815 := eq_true p815
               replace q815 := eq_true q815
               have hcz31_0 : wr.cell? ⟨gb807, 0, none⟩ = some (.int .i64 a0_0) := (blk_cell BK807.out 0).trans rfl
               have hcz31_1 : wr.cell? ⟨gb807, 1, none⟩ = some (.slice A0_1 l0_1.length c0_1) := (blk_cell BK807.out 1).trans rfl
               have hfz31_0 := blk_frozen BK807.out 0
               have hfz31_1 := blk_frozen BK807.out 1
               have p816 : 0 ≤ ((rd x5_1 x25_2) : Int) := of_decide_eq_true (by first | (with_reducible assumption) | assumption)
               have q816 : (rd x5_1 x25_2) < (l0_1.length : Int) := of_decide_eq_true (by first | (with_reducible assumption) | assumption)
               obtain ⟨ad816, A816_0, c816_0, e816, hx816_0, hl816_0, hi816_0⟩ := at_L1 HR0_1.out (rd x5_1 x25_2) p816 q816
               cases e816
               replace hx816_0 := (HB.out.cell (World.block_lt_of_cell? w _ hx816_0)).trans hx816_0
               have HR816_0 := Aside0.mk hi816_0
               have HC816_0 := Aside0.mk hl816_0
               clear hi816_0 hl816_0
               replace p816 := eq_true p816
               replace q816 := eq_true q816
               go_wp2_with (first | ((with_reducible refine gate_callee (f := 97) rfl ?_); refine goesL_ (some 35) rfl rfl Try.func97 (by kernel_rfl) rfl #[.slice A816_0 (rd_L1 l0_1 (rd x5_1 x25_2)).length c816_0, .slice Ao19 t812.length co19] rfl (by (try simp only [List.map_toArray, List.map_cons, List.map_nil]); first | done | rfl | (simp only [List.length_drop, List.length_take]; rfl)) ?_; (with_reducible refine (spec_peMeet.calls k2 _ _ (rd_L1 l0_1 (rd x5_1 x25_2)) _ _ t812 false _ ?side1 ?side2 ?side3 ?side4 A25.out).mono ?_); (case side1 => repeat (first | exact (Kd.C_below HR816_0.out HB.out) | (with_reducible refine Kd.C_alloc ?_ _) | (with_reducible refine Kd.C_drewN ?_ _) | (with_reducible refine Kd.C_drew ?_))); (case side2 => exact HC816_0.out); (case side3 => repeat (first | exact (Kd.R_reads' HO_6.out).2.2 | (with_reducible refine Kd.C_alloc ?_ _) | (with_reducible refine Kd.C_drewN ?_ _) | (with_reducible refine Kd.C_drew ?_))); (case side4 => exact (Kd.R_reads' HO_6.out).2.1); rintro e w' ⟨rfl, ⟨nd, rfl⟩⟩; refine ⟨_, rfl, ?_⟩) | ((with_reducible refine gate_builtin (b := .append) (xs := #[.tmp 40, .tmp 42]) rfl ?_); at_builtin; refine Kd.R_append (Kd.int .i64) (w0 := w) w.heap.size rfl (.tmp 40) (.tmp 42) 26 3 (.int .i64 0) 8 rfl Try.underlying26 info3 rfl (by decide) (by omega) u8 x8_2 (rd x5_1 x25_2) [.int .i64 (rd x5_1 x25_2)] (fun k_ => some k_ ≠ (.slice Ao19 t812.length co19 : Value).ownBlock ∧ some k_ ≠ (u7 : Value).ownBlock ∧ some k_ ≠ (.slice (some ad815) x5_1.length co17 : Value).ownBlock) (fun _ => False) rfl rfl ?aP (fun _ hk => hk.elim) ?aF ?aO ?aB ?aS ?aL ?_; (case aP => exact rfl); (case aB => exact (by repeat (first | (with_reducible first | exact HB.out | apply below_alloc | apply pw_below_drewN | apply below_drew1 | refine below_set ?_ GE807.out) | exact HB.out))); (case aF => exact (fun k_ hk => ⟨Kd.fresh' (Kd.R_lt (by (with_reducible repeat (first | apply Kd.R_alloc | apply Kd.R_drewN | apply Kd.R_drew)); exact HO_6.out)) k_ hk, Kd.fresh' (Kd.R_lt (by (with_reducible repeat (first | apply Kd.R_alloc | apply Kd.R_drewN | apply Kd.R_drew)); exact HO_7.out)) k_ hk, Kd.fresh' (Kd.R_lt (by (with_reducible repeat (first | apply Kd.R_alloc | apply Kd.R_drewN | apply Kd.R_drew)); exact HO_23.out)) k_ hk⟩)); (case aO => exact (by (with_reducible repeat (first | apply Kd.R_alloc | apply Kd.R_drewN | apply Kd.R_drew)); exact HO_8.out)); (case aS => exact (below_size (by repeat (first | (with_reducible first | exact HB.out | apply below_alloc | apply pw_below_drewN | apply below_drew1 | refine below_set ?_ GE807.out) | exact HB.out)))); (case aL => have := LMc30.out; omega); intro v822 w32 ho hb hg hat; rw [← Ny821.out] at ho; have n0_ := Aside0.mk (Kd.S_after (ok := (fun k_ => some k_ ≠ (.slice Ao19 t812.length co19 : Value).ownBlock ∧ some k_ ≠ (u7 : Value).ownBlock ∧ some k_ ≠ (.slice (some ad815) x5_1.length co17 : Value).ownBlock)) (by (with_reducible repeat (first | apply Kd.S_alloc | apply Kd.S_drewN | apply Kd.S_drew)); exact Kd.S_mono HO_4.out (fun _ hk => ⟨⟨hk.1, ⟨hk.2.1, hk.2.2.2⟩⟩, hk.2.2.1⟩)) hg hat); have n1_ := Aside0.mk (Kd.R_after (ok := (fun k_ => some k_ ≠ (u7 : Value).ownBlock ∧ some k_ ≠ (.slice (some ad815) x5_1.length co17 : Value).ownBlock)) (by (with_reducible repeat (first | apply Kd.R_alloc | apply Kd.R_drewN | apply Kd.R_drew)); exact Kd.R_mono HO_6.out (fun _ hk => ⟨⟨hk.1, hk.2.2⟩, hk.2.1⟩)) hg hat); have n2_ := Aside0.mk (Kd.R_after (ok := (fun k_ => some k_ ≠ (.slice Ao19 t812.length co19 : Value).ownBlock ∧ some k_ ≠ (.slice (some ad815) x5_1.length co17 : Value).ownBlock)) (by (with_reducible repeat (first | apply Kd.R_alloc | apply Kd.R_drewN | apply Kd.R_drew)); exact Kd.R_mono HO_7.out (fun _ hk => ⟨⟨hk.1, hk.2.2⟩, hk.2.1⟩)) hg hat); have n3_ := Aside0.mk (Kd.R_after (ok := (fun k_ => some k_ ≠ (.slice Ao19 t812.length co19 : Value).ownBlock ∧ some k_ ≠ (u7 : Value).ownBlock)) (by (with_reducible repeat (first | apply Kd.R_alloc | apply Kd.R_drewN | apply Kd.R_drew)); exact Kd.R_mono HO_23.out (fun _ hk => ⟨⟨hk.1, hk.2.1⟩, hk.2.2⟩)) hg hat); have n4_ := Aside0.mk (blk_grown (g := gb807) (o := .cells #[.int .i64 a0_0, .slice (some ad816) l0_1.length c0_1] 29 (0, 0)) (by (with_reducible repeat (first | refine blk_drewN ?_ _ | refine blk_drew ?_ | refine blk_alloc ?_ _)); exact BK807.out) hg (Kd.R_ne HO_8.out BK807.out (by decide))); have n5_ := Aside0.mk (hb); have n6_ := Aside0.mk (ho); clear HO_4; clear HO_6; clear HO_7; clear HO_23; clear BK807; clear HB; clear HO_8; have HO_4 := n0_; have HO_6 := n1_; have HO_7 := n2_; have HO_23 := n3_; have BK807 := n4_; have HB := n5_; have HO823 := n6_; clear n0_ n1_ n2_ n3_ n4_ n5_ n6_; clear ho hb hg hat))
               go_roundg k2
               case measure => have := HK1.out; have := HK2.out; omega
               case rel => exact ⟨(x7_2), (y821), (wrap64 (x25_2 + 1)), (by first | rfl | (simp; done) | (simp [*]; done)), H', ⟨by have := HK1.out; have := HK2.out; omega⟩, ⟨by (with_reducible repeat (first | apply Kd.S_alloc | apply Kd.S_drewN | apply Kd.S_drew)); exact Kd.S_mono HO_4.out (fun _ hk => ⟨hk.1.1, ⟨hk.1.2.1, ⟨hk.2, hk.1.2.2⟩⟩⟩)⟩, ⟨by (with_reducible repeat (first | apply Kd.R_alloc | apply Kd.R_drewN | apply Kd.R_drew)); exact Kd.R_mono HO_6.out (fun _ hk => ⟨hk.1.1, ⟨hk.2, hk.1.2⟩⟩)⟩, ⟨by (with_reducible repeat (first | apply Kd.R_alloc | apply Kd.R_drewN | apply Kd.R_drew)); exact Kd.R_mono HO_7.out (fun _ hk => ⟨hk.1.1, ⟨hk.2, hk.1.2⟩⟩)⟩, ⟨by (with_reducible repeat (first | apply Kd.R_alloc | apply Kd.R_drewN | apply Kd.R_drew)); exact HO823.out⟩, ⟨by (with_reducible repeat (first | apply Kd.R_alloc | apply Kd.R_drewN | apply Kd.R_drew)); exact Kd.R_mono HO_23.out (fun _ hk => ⟨hk.1.1, ⟨hk.1.2, hk.2⟩⟩)⟩, ⟨by (with_reducible repeat (first | refine blk_drewN ?_ _ | refine blk_drew ?_ | refine blk_alloc ?_ _)); exact BK807.out⟩, ⟨by repeat (first | (with_reducible first | exact HB.out | apply below_alloc | apply pw_below_drewN | apply below_drew1 | refine below_set ?_ GE807.out) | exact HB.out)⟩⟩
              ·rw [if_neg c30] at H
               exact absurd H (by simp)
            ·rw [if_neg c24] at H
             exact absurd H (by simp)
           ·rw [if_neg c23] at H
            exact absurd H (by simp)
          ·rw [if_neg c22] at H
           exact absurd H (by simp)
         ·rw [if_neg c21] at H
          exact absurd H (by simp)
        ·rw [if_neg c20] at H
         have c20b0 : decide (x25_2 < (x5_1.length : Int)) = false := decide_eq_false c20
         clear c20
         by_cases c33 : x4_1.length < 5864062014805
         ·rw [if_pos c33] at H
          have LMc33 := Aside0.mk c33
          clear c33
          obtain ⟨y824, hy824⟩ : ∃ y_ : List (List Int), y_ = (x4_1 ++ [x7_2]) := ⟨_, rfl⟩
          replace H : (spec_LayersOf.l0 k2 y824 x8_2 a0_0 l0_1) = some (r1, r2) := by first | (rw [hy824]; with_reducible exact H) | (have H2_ := (Option.bind_some _ _).symm.trans H; rw [hy824]; with_reducible exact H2_) | (have H2_ := (Option.bind_some _ _).symm.trans H; with_reducible exact H2_) | with_reducible exact H | (rw [hy824]; exact H) | exact H
          have Ny824 := Aside0.mk hy824
          clear hy824
          have H' := Aside0.mk H
          clear H
          obtain ⟨Ao35, co35, eo35⟩ := Kd.R_slice HO_7.out
          subst eo35
          go_wp2_with (first | ((with_reducible refine gate_builtin (b := .append) (xs := #[.tmp 45, .tmp 47]) rfl ?_); at_builtin; refine Kd.S_append (Kd.slice 3 (Kd.int .i64)) (w0 := w) w.heap.size rfl (.tmp 45) (.tmp 47) 22 26 (.slice none 0 0) 24 rfl Try.underlying22 info26 rfl (by decide) (by omega) u4 x4_1 x7_2 [.slice Ao35 x7_2.length co35] (fun k_ => some k_ ≠ (.slice Ao19 t812.length co19 : Value).ownBlock ∧ some k_ ≠ (u8 : Value).ownBlock ∧ some k_ ≠ (.slice Ao17 x5_1.length co17 : Value).ownBlock) (fun k_ => some k_ = (.slice Ao35 x7_2.length co35 : Value).ownBlock) rfl rfl ?aP (fun k_ hk_ => ((Kd.R_mono (ok' := fun k_ => ((fun k_ => some k_ ≠ (.slice Ao19 t812.length co19 : Value).ownBlock ∧ some k_ ≠ (u8 : Value).ownBlock ∧ some k_ ≠ (.slice Ao17 x5_1.length co17 : Value).ownBlock)) k_ ∧ some k_ ≠ (u4 : Value).ownBlock) (Kd.R_apart' (HO_7.out) (Kd.S_typed HO_4.out) (by decide)) (fun k_ hk => ⟨⟨hk.1.1, ⟨hk.1.2.1, hk.1.2.2⟩⟩, hk.2⟩))).1 k_ hk_.symm) ?aF ?aO ?aB ?aS ?aL ?_; (case aP => exact Kd.M_row (Kd.R_mono (Kd.R_tight rfl (Kd.R_mono (ok' := fun k_ => ((fun k_ => some k_ ≠ (.slice Ao19 t812.length co19 : Value).ownBlock ∧ some k_ ≠ (u8 : Value).ownBlock ∧ some k_ ≠ (.slice Ao17 x5_1.length co17 : Value).ownBlock)) k_ ∧ some k_ ≠ (u4 : Value).ownBlock) (Kd.R_apart' (HO_7.out) (Kd.S_typed HO_4.out) (by decide)) (fun k_ hk => ⟨⟨hk.1.1, ⟨hk.1.2.1, hk.1.2.2⟩⟩, hk.2⟩))) (fun _ h_ => h_))); (case aB => exact (by repeat (first | (with_reducible first | exact HB.out | apply below_alloc | apply pw_below_drewN | apply below_drew1 | refine below_set ?_ GE807.out) | exact HB.out))); (case aF => exact (fun k_ hk => ⟨Kd.fresh' (Kd.R_lt (by (with_reducible repeat (first | apply Kd.R_alloc | apply Kd.R_drewN | apply Kd.R_drew)); exact HO_6.out)) k_ hk, Kd.fresh' (Kd.R_lt (by (with_reducible repeat (first | apply Kd.R_alloc | apply Kd.R_drewN | apply Kd.R_drew)); exact HO_8.out)) k_ hk, Kd.fresh' (Kd.R_lt (by (with_reducible repeat (first | apply Kd.R_alloc | apply Kd.R_drewN | apply Kd.R_drew)); exact HO_23.out)) k_ hk⟩)); (case aO => exact (by (with_reducible repeat (first | apply Kd.S_alloc | apply Kd.S_drewN | apply Kd.S_drew)); exact Kd.S_mono HO_4.out (fun k_ hk => ⟨⟨hk.1, ⟨hk.2.2.1, hk.2.2.2⟩⟩, fun e_ => hk.2.1 e_⟩))); (case aS => exact (below_size (by repeat (first | (with_reducible first | exact HB.out | apply below_alloc | apply pw_below_drewN | apply below_drew1 | refine below_set ?_ GE807.out) | exact HB.out)))); (case aL => have := LMc33.out; omega); intro v825 w34 ho hb hg hat; rw [← Ny824.out] at ho; have n0_ := Aside0.mk (Kd.R_over' (by (with_reducible repeat (first | apply Kd.R_alloc | apply Kd.R_drewN | apply Kd.R_drew)); exact HO_6.out) (Kd.S_typed (by (with_reducible repeat (first | apply Kd.S_alloc | apply Kd.S_drewN | apply Kd.S_drew)); exact HO_4.out)) (by decide) hg); have n1_ := Aside0.mk (Kd.R_over' (by (with_reducible repeat (first | apply Kd.R_alloc | apply Kd.R_drewN | apply Kd.R_drew)); exact HO_8.out) (Kd.S_typed (by (with_reducible repeat (first | apply Kd.S_alloc | apply Kd.S_drewN | apply Kd.S_drew)); exact HO_4.out)) (by decide) hg); have n2_ := Aside0.mk (Kd.R_over' (by (with_reducible repeat (first | apply Kd.R_alloc | apply Kd.R_drewN | apply Kd.R_drew)); exact HO_23.out) (Kd.S_typed (by (with_reducible repeat (first | apply Kd.S_alloc | apply Kd.S_drewN | apply Kd.S_drew)); exact HO_4.out)) (by decide) hg); have n3_ := Aside0.mk (blk_grown (g := gb807) (o := .cells #[.int .i64 a0_0, .slice A0_1 l0_1.length c0_1] 29 (0, 0)) (by (with_reducible repeat (first | refine blk_drewN ?_ _ | refine blk_drew ?_ | refine blk_alloc ?_ _)); exact BK807.out) hg (Kd.S_ne HO_4.out BK807.out (by decide))); have n4_ := Aside0.mk (hb); have n5_ := Aside0.mk (ho); clear HO_6; clear HO_8; clear HO_23; clear BK807; clear HB; clear HO_4; clear HO_7; have HO_6 := n0_; have HO_8 := n1_; have HO_23 := n2_; have BK807 := n3_; have HB := n4_; have HO826 := n5_; clear n0_ n1_ n2_ n3_ n4_ n5_; clear ho hb hg hat))
          go_roundg k2
          case measure => have := HK1.out; have := HK2.out; omega
          case rel => exact ⟨(y824), (x8_2), H', ⟨by have := HK1.out; have := HK2.out; omega⟩, ⟨by (with_reducible repeat (first | apply Kd.S_alloc | apply Kd.S_drewN | apply Kd.S_drew)); exact Kd.S_mono HO826.out (fun _ hk => hk.2.1)⟩, ⟨by (with_reducible repeat (first | apply Kd.R_alloc | apply Kd.R_drewN | apply Kd.R_drew)); exact Kd.R_mono HO_8.out (fun _ hk => trivial)⟩, ⟨by (with_reducible repeat (first | refine blk_drewN ?_ _ | refine blk_drew ?_ | refine blk_alloc ?_ _)); exact BK807.out⟩, ⟨by repeat (first | (with_reducible first | exact HB.out | apply below_alloc | apply pw_below_drewN | apply below_drew1 | refine below_set ?_ GE807.out) | exact HB.out)⟩⟩
         ·rw [if_neg c33] at H
          exact absurd H (by simp)
  ·replace c3 := Bool.eq_false_iff.mpr c3
   subst c3
   have H1 : (some (([] : List (List Int)), false)) = some (r1, r2) := by rw [if_neg (show ¬ (false = true) by decide)] at H; exact H
   clear H
   have H := H1
   clear H1
   simp only [Option.some.injEq, Prod.mk.injEq] at H
   obtain ⟨rfl, rfl⟩ := H
   go_enter Try.func49, Try.ntmps49
   go_wp2_with (first | ((with_reducible refine gate_dst (N := 1) rfl ?_); refine box_event ?hg (N := 1) ?hd (cs := #[.int .i64 a0_0, .slice A0_1 l0_1.length c0_1]) (t := 29) ?hr ?_; (case hd => rfl); (case hg => rfl); (case hr => first | (go_simp; done) | (go_simp; rfl)); intro gb807 hg w36 hbox hb; have n0_ := Aside0.mk (below_step (by repeat (first | (with_reducible first | exact HB.out | apply below_alloc | apply pw_below_drewN | apply below_drew1) | exact HB.out)) hb); have n1_ := Aside0.mk (hbox); have n2_ := Aside0.mk ((by rw [hg]; exact (below_size (by repeat (first | (with_reducible first | exact HB.out | apply below_alloc | apply pw_below_drewN | apply below_drew1) | exact HB.out))) : w.heap.size ≤ gb807)); have n3_ := Aside0.mk ((by rw [hg]; exact (below_size (by repeat (first | (with_reducible first | exact HB.out | apply below_alloc | apply pw_below_drewN | apply below_drew1) | exact HB.out))) : w.heap.size ≤ gb807)); clear HB; have HB := n0_; have BK807 := n1_; have GW807 := n2_; have GE807 := n3_; clear n0_ n1_ n2_ n3_; clear hb hbox hg; have hcz37_0 : w36.cell? ⟨gb807, 0, none⟩ = some (.int .i64 a0_0) := (blk_cell BK807.out 0).trans rfl; have hcz37_1 : w36.cell? ⟨gb807, 1, none⟩ = some (.slice A0_1 l0_1.length c0_1) := (blk_cell BK807.out 1).trans rfl; have hfz37_0 := blk_frozen BK807.out 0; have hfz37_1 := blk_frozen BK807.out 1) | ((with_reducible refine gate_callee (f := 67) rfl ?_); refine goesL_ (some 12) rfl rfl Try.func67 (by kernel_rfl) rfl #[.agg #[.int .i64 a0_0, .slice A0_1 l0_1.length c0_1]] rfl (by (try simp only [List.map_toArray, List.map_cons, List.map_nil]); first | done | rfl | (simp only [List.length_drop, List.length_take]; rfl)) ?_; (with_reducible refine (spec_peGood.calls k a0_0 _ _ l0_1 false _ ?side1 ?side2 A2.out).mono ?_); (case side1 => repeat (first | exact (Kd.C_below HR0_1.out HB.out) | (with_reducible refine Kd.C_alloc ?_ _) | (with_reducible refine Kd.C_drewN ?_ _) | (with_reducible refine Kd.C_drew ?_))); (case side2 => exact HC0_1.out); rintro e w38 ⟨rfl, hb⟩; refine ⟨_, rfl, ?_⟩; have n0_ := Aside0.mk (blk_below (g := gb807) (o := .cells #[.int .i64 a0_0, .slice A0_1 l0_1.length c0_1] 29 (0, 0)) (by (with_reducible repeat (first | refine blk_drewN ?_ _ | refine blk_drew ?_ | refine blk_alloc ?_ _)); exact BK807.out) hb); have n1_ := Aside0.mk (below_step (by repeat (first | (with_reducible first | exact HB.out | apply below_alloc | apply pw_below_drewN | apply below_drew1 | refine below_set ?_ GE807.out) | exact HB.out)) hb); clear BK807; clear HB; have BK807 := n0_; have HB := n1_; clear n0_ n1_; (try clear hb); (try clear hb2); (try clear hk); (try clear hi)))
   go_ret2
   exact ⟨_, by first | rfl | (simp [errW_none, errW_some] <;> rfl) | (simp [*, errW_none, errW_some] <;> rfl), by first | exact Kd.S_nil _ _ _ _ _ | exact Kd.N_nil _ _ _ _ _ | exact Kd.V_nil _ _ _ _ _ | exact Kd.Q_nil _ _ _ _ _ | exact Kd.R_nil _ _ _ _ _, by repeat (first | (with_reducible first | exact HB.out | apply below_alloc | apply pw_below_drewN | apply below_drew1 | refine below_set ?_ GE807.out) | exact HB.out)⟩
/-! ### impl_LayersOf_1: function 99 -/
def impl_LayersOf_1.f (a0 : Int) (l1_0 : List Int) : Option (Bool) := if 0 ≤ a0 then (if a0 < (l1_0.length : Int) then (some ((rd l1_0 a0) == 1)) else (none)) else (none)
set_option maxHeartbeats 8000000 in
set_option maxRecDepth 100000 in
theorem impl_LayersOf_1.calls (a0 : Int) (gb1_ : Nat) (A1_0 : Option Addr) (c1_0 : Nat) (l1_0 : List Int) (r : Bool) (w : World) (hr1_0 : Kd.C (Kd.int .i64) w A1_0 l1_0.length l1_0) (hc1_0 : l1_0.length ≤ c1_0) (hb1_ : w.heap[gb1_]? = some (.cells #[.slice A1_0 l1_0.length c1_0] 26 (0, 0))) (h : impl_LayersOf_1.f a0 l1_0 = some r) :
    Calls Try.prog 99 #[.int .i64 a0, .pointer (some ⟨gb1_, 0, none⟩)] w fun e w' => e = .returned (.bool r) ∧ Drawn0 w w' := by
  have hu26 := Try.underlying26
  have HR1_0 := Aside0.mk hr1_0
  have HC1_0 := Aside0.mk hc1_0
  clear hr1_0 hc1_0
  have BK1 := Aside0.mk hb1_
  clear hb1_
  have H : (if 0 ≤ a0 then (if a0 < (l1_0.length : Int) then (some ((rd l1_0 a0) == 1)) else (none)) else (none)) = some r := h
  clear h
  by_cases c3 : 0 ≤ a0
  ·rw [if_pos c3] at H
   have c3b0 : decide (0 ≤ a0) = true := decide_eq_true c3
   clear c3
   by_cases c4 : a0 < (l1_0.length : Int)
   ·rw [if_pos c4] at H
    have c4b0 : decide (a0 < (l1_0.length : Int)) = true := decide_eq_true c4
    clear c4
    obtain rfl := Option.some.inj H
    have hcz5_0 : w.cell? ⟨gb1_, 0, none⟩ = some (.slice A1_0 l1_0.length c1_0) := (blk_cell BK1.out 0).trans rfl
    have hfz5_0 := blk_frozen BK1.out 0
    have p827 : 0 ≤ (a0 : Int) := of_decide_eq_true (by first | (with_reducible assumption) | assumption)
    have q827 : a0 < (l1_0.length : Int) := of_decide_eq_true (by first | (with_reducible assumption) | assumption)
    obtain ⟨ad827, e827, hx827_0⟩ := Kd.at_int HR1_0.out a0 p827 q827
    cases e827
    replace p827 := eq_true p827
    replace q827 := eq_true q827
    go_enter Try.func99, Try.ntmps99
    go_wp2
    go_ret
    exact ⟨by first | rfl | (simp; done) | (simp [*]; done), by repeat (first | exact Drawn0.refl _ | apply Drawn0.step)⟩
   ·rw [if_neg c4] at H
    exact absurd H (by simp)
  ·rw [if_neg c3] at H
   exact absurd H (by simp)
/-! ### slices_IndexFunc_int_int_at_impl_LayersOf_1: function 154 -/
def slices_IndexFunc_int_int_at_impl_LayersOf_1.l0 : Nat → List Int → Int → Int → List Int → Option (Int)
  | 0, _, _, _, _ => none
  | k + 1, x0, x7, x8, x2000 => if x8 < x7 then (if 0 ≤ x8 then (if x8 < (x0.length : Int) then ((impl_LayersOf_1.f (rd x0 x8) x2000).bind fun t829 => (if t829 = true then (some x8) else (slices_IndexFunc_int_int_at_impl_LayersOf_1.l0 k x0 x7 (wrap64 (x8 + 1)) x2000))) else (none)) else (none)) else (some (-1))
def slices_IndexFunc_int_int_at_impl_LayersOf_1.f (k : Nat) (l0 : List Int) (l1_0 : List Int) : Option (Int) := slices_IndexFunc_int_int_at_impl_LayersOf_1.l0 k l0 (l0.length : Int) 0 l1_0
theorem slices_IndexFunc_int_int_at_impl_LayersOf_1.mono_l : ∀ k, (∀ y0 y1 y2 y3, LeO (slices_IndexFunc_int_int_at_impl_LayersOf_1.l0 k y0 y1 y2 y3) (slices_IndexFunc_int_int_at_impl_LayersOf_1.l0 (k + 1) y0 y1 y2 y3))
  | 0 => fun _ _ _ _ r h => by simp [slices_IndexFunc_int_int_at_impl_LayersOf_1.l0] at h
  | k + 1 => by
    have ih0 := slices_IndexFunc_int_int_at_impl_LayersOf_1.mono_l k
    · intro y0 y1 y2 y3
      unfold slices_IndexFunc_int_int_at_impl_LayersOf_1.l0
      repeat' first
      | (with_reducible exact ih0 _ _ _ _)
      | (with_reducible exact LeO.refl _)
      | (with_reducible exact LeO.none _)
      | (with_reducible refine LeO.ite ?_ ?_)
      | (with_reducible refine LeO.bind ?_ (fun _ => ?_))
      | exact ih0 _ _ _ _
      | exact LeO.none _
      | refine LeO.ite ?_ ?_
      | refine LeO.bind ?_ (fun _ => ?_)
theorem slices_IndexFunc_int_int_at_impl_LayersOf_1.mono : ∀ a0 a1 k, LeO (slices_IndexFunc_int_int_at_impl_LayersOf_1.f k a0 a1) (slices_IndexFunc_int_int_at_impl_LayersOf_1.f (k + 1) a0 a1) := by
  intro a0 a1 k
  have ih0 := slices_IndexFunc_int_int_at_impl_LayersOf_1.mono_l k
  unfold slices_IndexFunc_int_int_at_impl_LayersOf_1.f
  repeat' first
      | (with_reducible exact ih0 _ _ _ _)
      | (with_reducible exact LeO.refl _)
      | (with_reducible exact LeO.none _)
      | (with_reducible refine LeO.ite ?_ ?_)
      | (with_reducible refine LeO.bind ?_ (fun _ => ?_))
      | exact ih0 _ _ _ _
      | exact LeO.none _
      | refine LeO.ite ?_ ?_
      | refine LeO.bind ?_ (fun _ => ?_)
noncomputable def slices_IndexFunc_int_int_at_impl_LayersOf_1.L0 (y0 : List Int) (y1 : Int) (y2 : Int) (y3 : List Int) : Option (Int) := lim fun k => slices_IndexFunc_int_int_at_impl_LayersOf_1.l0 k y0 y1 y2 y3
theorem slices_IndexFunc_int_int_at_impl_LayersOf_1.L0_sup (y0 : List Int) (y1 : Int) (y2 : Int) (y3 : List Int) : Sup (fun k => slices_IndexFunc_int_int_at_impl_LayersOf_1.l0 k y0 y1 y2 y3) (slices_IndexFunc_int_int_at_impl_LayersOf_1.L0 y0 y1 y2 y3) := Sup.of_mono fun k => slices_IndexFunc_int_int_at_impl_LayersOf_1.mono_l k y0 y1 y2 y3
noncomputable def slices_IndexFunc_int_int_at_impl_LayersOf_1.F (l0 : List Int) (l1_0 : List Int) : Option (Int) := lim fun k => slices_IndexFunc_int_int_at_impl_LayersOf_1.f k l0 l1_0
theorem slices_IndexFunc_int_int_at_impl_LayersOf_1.F_sup (l0 : List Int) (l1_0 : List Int) : Sup (fun k => slices_IndexFunc_int_int_at_impl_LayersOf_1.f k l0 l1_0) (slices_IndexFunc_int_int_at_impl_LayersOf_1.F l0 l1_0) := Sup.of_mono fun k => slices_IndexFunc_int_int_at_impl_LayersOf_1.mono l0 l1_0 k
theorem slices_IndexFunc_int_int_at_impl_LayersOf_1.L0_eq (x0 : List Int) (x7 : Int) (x8 : Int) (x2000 : List Int) : slices_IndexFunc_int_int_at_impl_LayersOf_1.L0 x0 x7 x8 x2000 = if x8 < x7 then (if 0 ≤ x8 then (if x8 < (x0.length : Int) then ((impl_LayersOf_1.f (rd x0 x8) x2000).bind fun t829 => (if t829 = true then (some x8) else (slices_IndexFunc_int_int_at_impl_LayersOf_1.L0 x0 x7 (wrap64 (x8 + 1)) x2000))) else (none)) else (none)) else (some (-1)) := by
  refine Sup.unique (slices_IndexFunc_int_int_at_impl_LayersOf_1.L0_sup x0 x7 x8 x2000) (Sup.shift (fun k => slices_IndexFunc_int_int_at_impl_LayersOf_1.mono_l k x0 x7 x8 x2000) (Sup.congr (g' := fun k => if x8 < x7 then (if 0 ≤ x8 then (if x8 < (x0.length : Int) then ((impl_LayersOf_1.f (rd x0 x8) x2000).bind fun t829 => (if t829 = true then (some x8) else (slices_IndexFunc_int_int_at_impl_LayersOf_1.l0 k x0 x7 (wrap64 (x8 + 1)) x2000))) else (none)) else (none)) else (some (-1))) (fun k => by first | rfl | simp only [slices_IndexFunc_int_int_at_impl_LayersOf_1.l0]) ?_))
  repeat' first
    | (with_reducible exact slices_IndexFunc_int_int_at_impl_LayersOf_1.L0_sup _ _ _ _)
    | (with_reducible refine Sup.ite ?_ ?_)
    | (with_reducible refine Sup.bind ?_ (fun _ => ?_))
    | (with_reducible exact Sup.const _)
    | exact slices_IndexFunc_int_int_at_impl_LayersOf_1.L0_sup _ _ _ _
    | exact Sup.const _
theorem slices_IndexFunc_int_int_at_impl_LayersOf_1.F_eq (l0 : List Int) (l1_0 : List Int) : slices_IndexFunc_int_int_at_impl_LayersOf_1.F l0 l1_0 = slices_IndexFunc_int_int_at_impl_LayersOf_1.L0 l0 (l0.length : Int) 0 l1_0 := by
  refine Sup.unique (slices_IndexFunc_int_int_at_impl_LayersOf_1.F_sup l0 l1_0) (Sup.congr (g' := fun k => slices_IndexFunc_int_int_at_impl_LayersOf_1.l0 k l0 (l0.length : Int) 0 l1_0) (fun k => by first | rfl | simp only [slices_IndexFunc_int_int_at_impl_LayersOf_1.f]) ?_)
  repeat' first
    | (with_reducible exact slices_IndexFunc_int_int_at_impl_LayersOf_1.L0_sup _ _ _ _)
    | (with_reducible refine Sup.ite ?_ ?_)
    | (with_reducible refine Sup.bind ?_ (fun _ => ?_))
    | (with_reducible exact Sup.const _)
    | exact slices_IndexFunc_int_int_at_impl_LayersOf_1.L0_sup _ _ _ _
    | exact Sup.const _
set_option maxHeartbeats 8000000 in
set_option maxRecDepth 100000 in
theorem slices_IndexFunc_int_int_at_impl_LayersOf_1.calls (k : Nat) (A0 : Option Addr) (c0 : Nat) (l0 : List Int) (gb1_ : Nat) (A1_0 : Option Addr) (c1_0 : Nat) (l1_0 : List Int) (r : Int) (w : World) (hr0 : Kd.C (Kd.int .i64) w A0 l0.length l0) (hc0 : l0.length ≤ c0) (hr1_0 : Kd.C (Kd.int .i64) w A1_0 l1_0.length l1_0) (hc1_0 : l1_0.length ≤ c1_0) (hb1_ : w.heap[gb1_]? = some (.cells #[.slice A1_0 l1_0.length c1_0] 26 (0, 0))) (h : slices_IndexFunc_int_int_at_impl_LayersOf_1.f k l0 l1_0 = some r) :
    Calls Try.prog 124 #[.slice A0 l0.length c0, .func (.func 99) #[] #[.pointer (some ⟨gb1_, 0, none⟩)]] w fun e w' => e = .returned (.int .i64 r) ∧ Drawn0 w w' := by
  have HR0 := Aside0.mk hr0
  have HC0 := Aside0.mk hc0
  clear hr0 hc0
  have HR1_0 := Aside0.mk hr1_0
  have HC1_0 := Aside0.mk hc1_0
  clear hr1_0 hc1_0
  have BK1 := Aside0.mk hb1_
  clear hb1_
  have H : (slices_IndexFunc_int_int_at_impl_LayersOf_1.l0 k l0 (l0.length : Int) 0 l1_0) = some r := h
  clear h
  have H' := Aside0.mk H
  clear H
  go_enter Try.func124, Try.ntmps124
  go_wp2
  go_loopg [8] k (fun kq v8 w' => ∃ (x8_1 : Int), v8 = .int .i64 x8_1 ∧ Aside0 (slices_IndexFunc_int_int_at_impl_LayersOf_1.l0 kq l0 (l0.length : Int) x8_1 l1_0 = some r) ∧ Aside0 (kq ≤ k) ∧ Drawn0 w w')
  case atStart => exact ⟨(0), (by first | rfl | (simp; done) | (simp [*]; done)), H', ⟨Nat.le_refl _⟩, by repeat (first | exact Drawn0.refl _ | apply Drawn0.step)⟩
  case round =>
   clear H'
   try clear c1
   try clear p2
   obtain ⟨x8_1, rfl, HA, HK1, ⟨m1, rfl⟩⟩ := hrel
   cases gk with
   | zero => exact absurd HA.out (by simp [slices_IndexFunc_int_int_at_impl_LayersOf_1.l0])
   | succ k1 =>
    have H := HA.out
    clear HA
    simp only [slices_IndexFunc_int_int_at_impl_LayersOf_1.l0] at H
    by_cases c3 : x8_1 < (l0.length : Int)
    ·rw [if_pos c3] at H
     have c3b0 : decide (x8_1 < (l0.length : Int)) = true := decide_eq_true c3
     clear c3
     by_cases c4 : 0 ≤ x8_1
     ·rw [if_pos c4] at H
      have c4b0 : decide (0 ≤ x8_1) = true := decide_eq_true c4
      clear c4
      by_cases c5 : x8_1 < (l0.length : Int)
      ·rw [if_pos c5] at H
       have c5b0 : decide (x8_1 < (l0.length : Int)) = true := decide_eq_true c5
       clear c5
       replace H := Option.bind_eq_some_iff.mp H
       obtain ⟨t829, A60, H⟩ := H
       replace H : (if t829 = true then (some x8_1) else (slices_IndexFunc_int_int_at_impl_LayersOf_1.l0 k1 l0 (l0.length : Int) (wrap64 (x8_1 + 1)) l1_0)) = some r := H
       have A6 := Aside0.mk A60
       clear A60
       by_cases c7 : t829 = true
       ·subst c7
        have H1 : (some x8_1) = some r := by rw [if_pos rfl] at H; exact H
        clear H
        have H := H1
        clear H1
        obtain rfl := Option.some.inj H
        have p828 : 0 ≤ (x8_1 : Int) := of_decide_eq_true (by first | (with_reducible assumption) | assumption)
        have q828 : x8_1 < (l0.length : Int) := of_decide_eq_true (by first | (with_reducible assumption) | assumption)
        obtain ⟨ad828, e828, hx828_0⟩ := Kd.at_int HR0.out x8_1 p828 q828
        cases e828
        replace p828 := eq_true p828
        replace q828 := eq_true q828
        go_wp2_with (first | (go_at_call 99; (with_reducible refine (impl_LayersOf_1.calls (rd l0 x8_1) gb1_ A1_0 c1_0 l1_0 true _ ?side1 ?side2 ?side3 A6.out).mono ?_); (case side1 => repeat (first | exact HR1_0.out | (with_reducible refine Kd.C_alloc ?_ _) | (with_reducible refine Kd.C_drewN ?_ _) | (with_reducible refine Kd.C_drew ?_))); (case side2 => exact HC1_0.out); (case side3 => exact (by (with_reducible repeat (first | refine blk_drewN ?_ _ | refine blk_drew ?_ | refine blk_alloc ?_ _)); exact BK1.out)); rintro e w' ⟨rfl, ⟨nd, rfl⟩⟩))
        go_ret
        exact ⟨by first | rfl | (simp; done) | (simp [*]; done), by repeat (first | exact Drawn0.refl _ | apply Drawn0.step)⟩
       ·replace c7 := Bool.eq_false_iff.mpr c7
        subst c7
        have H1 : (slices_IndexFunc_int_int_at_impl_LayersOf_1.l0 k1 l0 (l0.length : Int) (wrap64 (x8_1 + 1)) l1_0) = some r := by rw [if_neg (show ¬ (false = true) by decide)] at H; exact H
        clear H
        have H := H1
        clear H1
        have H' := Aside0.mk H
        clear H
        have p828 : 0 ≤ (x8_1 : Int) := of_decide_eq_true (by first | (with_reducible assumption) | assumption)
        have q828 : x8_1 < (l0.length : Int) := of_decide_eq_true (by first | (with_reducible assumption) | assumption)
        obtain ⟨ad828, e828, hx828_0⟩ := Kd.at_int HR0.out x8_1 p828 q828
        cases e828
        replace p828 := eq_true p828
        replace q828 := eq_true q828
        go_wp2_with (first | (go_at_call 99; (with_reducible refine (impl_LayersOf_1.calls (rd l0 x8_1) gb1_ A1_0 c1_0 l1_0 false _ ?side1 ?side2 ?side3 A6.out).mono ?_); (case side1 => repeat (first | exact HR1_0.out | (with_reducible refine Kd.C_alloc ?_ _) | (with_reducible refine Kd.C_drewN ?_ _) | (with_reducible refine Kd.C_drew ?_))); (case side2 => exact HC1_0.out); (case side3 => exact (by (with_reducible repeat (first | refine blk_drewN ?_ _ | refine blk_drew ?_ | refine blk_alloc ?_ _)); exact BK1.out)); rintro e w' ⟨rfl, ⟨nd, rfl⟩⟩))
        go_roundg k1
        case measure => have := HK1.out; omega
        case rel => exact ⟨(wrap64 (x8_1 + 1)), (by first | rfl | (simp; done) | (simp [*]; done)), H', ⟨by have := HK1.out; omega⟩, by repeat (first | exact Drawn0.refl _ | apply Drawn0.step)⟩
      ·rw [if_neg c5] at H
       exact absurd H (by simp)
     ·rw [if_neg c4] at H
      exact absurd H (by simp)
    ·rw [if_neg c3] at H
     have c3b0 : decide (x8_1 < (l0.length : Int)) = false := decide_eq_false c3
     clear c3
     obtain rfl := Option.some.inj H
     go_wp2
     go_ret
     exact ⟨by first | rfl | (simp; done) | (simp [*]; done), by repeat (first | exact Drawn0.refl _ | apply Drawn0.step)⟩
/-! ### slices_ContainsFunc_int_int_at_impl_LayersOf_1: function 153 -/
def slices_ContainsFunc_int_int_at_impl_LayersOf_1.f (k : Nat) (l0 : List Int) (l1_0 : List Int) : Option (Bool) := (slices_IndexFunc_int_int_at_impl_LayersOf_1.f k l0 l1_0).bind fun t830 => (some (decide (t830 ≥ 0)))
theorem slices_ContainsFunc_int_int_at_impl_LayersOf_1.mono : ∀ a0 a1 k, LeO (slices_ContainsFunc_int_int_at_impl_LayersOf_1.f k a0 a1) (slices_ContainsFunc_int_int_at_impl_LayersOf_1.f (k + 1) a0 a1) := by
  intro a0 a1 k
  unfold slices_ContainsFunc_int_int_at_impl_LayersOf_1.f
  repeat' first
      | (with_reducible exact slices_IndexFunc_int_int_at_impl_LayersOf_1.mono _ _ _)
      | (with_reducible exact LeO.refl _)
      | (with_reducible exact LeO.none _)
      | (with_reducible refine LeO.ite ?_ ?_)
      | (with_reducible refine LeO.bind ?_ (fun _ => ?_))
      | exact slices_IndexFunc_int_int_at_impl_LayersOf_1.mono _ _ _
      | exact LeO.none _
      | refine LeO.ite ?_ ?_
      | refine LeO.bind ?_ (fun _ => ?_)
noncomputable def slices_ContainsFunc_int_int_at_impl_LayersOf_1.F (l0 : List Int) (l1_0 : List Int) : Option (Bool) := lim fun k => slices_ContainsFunc_int_int_at_impl_LayersOf_1.f k l0 l1_0
theorem slices_ContainsFunc_int_int_at_impl_LayersOf_1.F_sup (l0 : List Int) (l1_0 : List Int) : Sup (fun k => slices_ContainsFunc_int_int_at_impl_LayersOf_1.f k l0 l1_0) (slices_ContainsFunc_int_int_at_impl_LayersOf_1.F l0 l1_0) := Sup.of_mono fun k => slices_ContainsFunc_int_int_at_impl_LayersOf_1.mono l0 l1_0 k
theorem slices_ContainsFunc_int_int_at_impl_LayersOf_1.F_eq (l0 : List Int) (l1_0 : List Int) : slices_ContainsFunc_int_int_at_impl_LayersOf_1.F l0 l1_0 = (slices_IndexFunc_int_int_at_impl_LayersOf_1.F l0 l1_0).bind fun t830 => (some (decide (t830 ≥ 0))) := by
  refine Sup.unique (slices_ContainsFunc_int_int_at_impl_LayersOf_1.F_sup l0 l1_0) (Sup.congr (g' := fun k => (slices_IndexFunc_int_int_at_impl_LayersOf_1.f k l0 l1_0).bind fun t830 => (some (decide (t830 ≥ 0)))) (fun k => by first | rfl | simp only [slices_ContainsFunc_int_int_at_impl_LayersOf_1.f]) ?_)
  repeat' first
    | (with_reducible exact slices_IndexFunc_int_int_at_impl_LayersOf_1.F_sup _ _)
    | (with_reducible refine Sup.ite ?_ ?_)
    | (with_reducible refine Sup.bind ?_ (fun _ => ?_))
    | (with_reducible exact Sup.const _)
    | exact slices_IndexFunc_int_int_at_impl_LayersOf_1.F_sup _ _
    | exact Sup.const _
set_option maxHeartbeats 8000000 in
set_option maxRecDepth 100000 in
theorem slices_ContainsFunc_int_int_at_impl_LayersOf_1.calls (k : Nat) (A0 : Option Addr) (c0 : Nat) (l0 : List Int) (gb1_ : Nat) (A1_0 : Option Addr) (c1_0 : Nat) (l1_0 : List Int) (r : Bool) (w : World) (hr0 : Kd.C (Kd.int .i64) w A0 l0.length l0) (hc0 : l0.length ≤ c0) (hr1_0 : Kd.C (Kd.int .i64) w A1_0 l1_0.length l1_0) (hc1_0 : l1_0.length ≤ c1_0) (hb1_ : w.heap[gb1_]? = some (.cells #[.slice A1_0 l1_0.length c1_0] 26 (0, 0))) (h : slices_ContainsFunc_int_int_at_impl_LayersOf_1.f k l0 l1_0 = some r) :
    Calls Try.prog 98 #[.slice A0 l0.length c0, .func (.func 99) #[] #[.pointer (some ⟨gb1_, 0, none⟩)]] w fun e w' => e = .returned (.bool r) ∧ Drawn0 w w' := by
  have HR0 := Aside0.mk hr0
  have HC0 := Aside0.mk hc0
  clear hr0 hc0
  have HR1_0 := Aside0.mk hr1_0
  have HC1_0 := Aside0.mk hc1_0
  clear hr1_0 hc1_0
  have BK1 := Aside0.mk hb1_
  clear hb1_
  have H : ((slices_IndexFunc_int_int_at_impl_LayersOf_1.f k l0 l1_0).bind fun t830 => (some (decide (t830 ≥ 0)))) = some r := h
  clear h
  replace H := Option.bind_eq_some_iff.mp H
  obtain ⟨t830, A30, H⟩ := H
  replace H : (some (decide (t830 ≥ 0))) = some r := H
  have A3 := Aside0.mk A30
  clear A30
  obtain rfl := Option.some.inj H
  go_enter Try.func98, Try.ntmps98
  go_wp2_with (first | ((with_reducible refine gate_callee (f := 124) rfl ?_); refine goesL_ (some 7) rfl rfl Try.func124 (by kernel_rfl) rfl #[.slice A0 l0.length c0, .func (.func 99) #[] #[.pointer (some ⟨gb1_, 0, none⟩)]] rfl (by (try simp only [List.map_toArray, List.map_cons, List.map_nil]); first | done | rfl | (simp only [List.length_drop, List.length_take]; rfl)) ?_; (with_reducible refine (slices_IndexFunc_int_int_at_impl_LayersOf_1.calls k _ _ l0 gb1_ A1_0 c1_0 l1_0 t830 _ ?side1 ?side2 ?side3 ?side4 ?side5 A3.out).mono ?_); (case side1 => repeat (first | exact HR0.out | (with_reducible refine Kd.C_alloc ?_ _) | (with_reducible refine Kd.C_drewN ?_ _) | (with_reducible refine Kd.C_drew ?_))); (case side2 => exact HC0.out); (case side3 => repeat (first | exact HR1_0.out | (with_reducible refine Kd.C_alloc ?_ _) | (with_reducible refine Kd.C_drewN ?_ _) | (with_reducible refine Kd.C_drew ?_))); (case side4 => exact HC1_0.out); (case side5 => exact (by (with_reducible repeat (first | refine blk_drewN ?_ _ | refine blk_drew ?_ | refine blk_alloc ?_ _)); exact BK1.out)); rintro e w' ⟨rfl, ⟨nd, rfl⟩⟩; refine ⟨_, rfl, ?_⟩))
  go_ret
  exact ⟨by first | rfl | (simp; done) | (simp [*]; done), by repeat (first | exact Drawn0.refl _ | apply Drawn0.step)⟩
/-! ### impl_LayersOf: function 50 -/
mutual
def impl_LayersOf.l0 : Nat → List (List Int) → List Bool → Int → List (List Int) → Option ((List (List Int)) × Bool)
  | 0, _, _, _, _ => none
  | k + 1, x4, x5, x832000, x832001 => (impl_Hyper_degrees.f k x832000 x832001 x5).bind fun t839 => (impl_LayersOf.l1 k x4 x5 (([] : List Int)) x832001 (x832001.length : Int) 0 x832000 x832001 t839)
def impl_LayersOf.l1 : Nat → List (List Int) → List Bool → List Int → List (List Int) → Int → Int → Int → List (List Int) → List Int → Option ((List (List Int)) × Bool)
  | 0, _, _, _, _, _, _, _, _, _ => none
  | k + 1, x4, x5, x7, x21, x22, x23, x832000, x832001, x846000 => if x23 < x22 then (if 0 ≤ x23 then (if x23 < (x21.length : Int) then (if x23 < (x5.length : Int) then (if rdOf false x5 x23 = true then (impl_LayersOf.l1 k x4 x5 x7 x21 x22 (wrap64 (x23 + 1)) x832000 x832001 x846000) else ((slices_ContainsFunc_int_int_at_impl_LayersOf_1.f k (rd_L1 x21 x23) x846000).bind fun t848 => (if t848 = true then (if x7.length < 17592186044416 then (impl_LayersOf.l1 k x4 x5 (x7 ++ [x23]) x21 x22 (wrap64 (x23 + 1)) x832000 x832001 x846000) else (none)) else (impl_LayersOf.l1 k x4 x5 x7 x21 x22 (wrap64 (x23 + 1)) x832000 x832001 x846000)))) else (none)) else (none)) else (none)) else (if (x7.length : Int) = 0 then (some (x4, true)) else (impl_LayersOf.l2 k x4 x5 x7 x7 (x7.length : Int) 0 x832000 x832001))
def impl_LayersOf.l2 : Nat → List (List Int) → List Bool → List Int → List Int → Int → Int → Int → List (List Int) → Option ((List (List Int)) × Bool)
  | 0, _, _, _, _, _, _, _, _ => none
  | k + 1, x4, x5, x7, x47, x48, x49, x832000, x832001 => if x49 < x48 then (if 0 ≤ x49 then (if x49 < (x47.length : Int) then (if 0 ≤ (rd x47 x49) then (if (rd x47 x49) < (x5.length : Int) then (impl_LayersOf.l2 k x4 (x5.set ((rd x47 x49) : Int).toNat true) x7 x47 x48 (wrap64 (x49 + 1)) x832000 x832001) else (none)) else (none)) else (none)) else (none)) else (if x4.length < 5864062014805 then (impl_LayersOf.l0 k (x4 ++ [x7]) x5 x832000 x832001) else (none))
end
def impl_LayersOf.f (k : Nat) (a0_0 : Int) (l0_1 : List (List Int)) : Option ((List (List Int)) × Bool) := (impl_IsHyper.f k a0_0 l0_1).bind fun t832 => (if t832 = true then ((impl_Hyper_none.f a0_0 l0_1).bind fun t836 => (impl_LayersOf.l0 k (([] : List (List Int))) t836 a0_0 l0_1)) else (some (([] : List (List Int)), false)))
theorem impl_LayersOf.mono_l : ∀ k, (∀ y0 y1 y2 y3, LeO (impl_LayersOf.l0 k y0 y1 y2 y3) (impl_LayersOf.l0 (k + 1) y0 y1 y2 y3)) ∧ (∀ y0 y1 y2 y3 y4 y5 y6 y7 y8, LeO (impl_LayersOf.l1 k y0 y1 y2 y3 y4 y5 y6 y7 y8) (impl_LayersOf.l1 (k + 1) y0 y1 y2 y3 y4 y5 y6 y7 y8)) ∧ (∀ y0 y1 y2 y3 y4 y5 y6 y7, LeO (impl_LayersOf.l2 k y0 y1 y2 y3 y4 y5 y6 y7) (impl_LayersOf.l2 (k + 1) y0 y1 y2 y3 y4 y5 y6 y7))
  | 0 => ⟨fun _ _ _ _ r h => by simp [impl_LayersOf.l0] at h, fun _ _ _ _ _ _ _ _ _ r h => by simp [impl_LayersOf.l1] at h, fun _ _ _ _ _ _ _ _ r h => by simp [impl_LayersOf.l2] at h⟩
  | k + 1 => by
    obtain ⟨ih0, ih1, ih2⟩ := impl_LayersOf.mono_l k
    refine ⟨?_, ?_, ?_⟩
    · intro y0 y1 y2 y3
      unfold impl_LayersOf.l0
      repeat' first
      | (with_reducible exact ih0 _ _ _ _)
      | (with_reducible exact ih1 _ _ _ _ _ _ _ _ _)
      | (with_reducible exact ih2 _ _ _ _ _ _ _ _)
      | (with_reducible exact impl_Hyper_degrees.mono _ _ _ _)
      | (with_reducible exact impl_IsHyper.mono _ _ _)
      | (with_reducible exact slices_ContainsFunc_int_int_at_impl_LayersOf_1.mono _ _ _)
      | (with_reducible exact LeO.refl _)
      | (with_reducible exact LeO.none _)
      | (with_reducible refine LeO.ite ?_ ?_)
      | (with_reducible refine LeO.bind ?_ (fun _ => ?_))
      | exact ih0 _ _ _ _
      | exact ih1 _ _ _ _ _ _ _ _ _
      | exact ih2 _ _ _ _ _ _ _ _
      | exact impl_Hyper_degrees.mono _ _ _ _
      | exact impl_IsHyper.mono _ _ _
      | exact slices_ContainsFunc_int_int_at_impl_LayersOf_1.mono _ _ _
      | exact LeO.none _
      | refine LeO.ite ?_ ?_
      | refine LeO.bind ?_ (fun _ => ?_)
    · intro y0 y1 y2 y3 y4 y5 y6 y7 y8
      unfold impl_LayersOf.l1
      repeat' first
      | (with_reducible exact ih0 _ _ _ _)
      | (with_reducible exact ih1 _ _ _ _ _ _ _ _ _)
      | (with_reducible exact ih2 _ _ _ _ _ _ _ _)
      | (with_reducible exact impl_Hyper_degrees.mono _ _ _ _)
      | (with_reducible exact impl_IsHyper.mono _ _ _)
      | (with_reducible exact slices_ContainsFunc_int_int_at_impl_LayersOf_1.mono _ _ _)
      | (with_reducible exact LeO.refl _)
      | (with_reducible exact LeO.none _)
      | (with_reducible refine LeO.ite ?_ ?_)
      | (with_reducible refine LeO.bind ?_ (fun _ => ?_))
      | exact ih0 _ _ _ _
      | exact ih1 _ _ _ _ _ _ _ _ _
      | exact ih2 _ _ _ _ _ _ _ _
      | exact impl_Hyper_degrees.mono _ _ _ _
      | exact impl_IsHyper.mono _ _ _
      | exact slices_ContainsFunc_int_int_at_impl_LayersOf_1.mono _ _ _
      | exact LeO.none _
      | refine LeO.ite ?_ ?_
      | refine LeO.bind ?_ (fun _ => ?_)
    · intro y0 y1 y2 y3 y4 y5 y6 y7
      unfold impl_LayersOf.l2
      repeat' first
      | (with_reducible exact ih0 _ _ _ _)
      | (with_reducible exact ih1 _ _ _ _ _ _ _ _ _)
      | (with_reducible exact ih2 _ _ _ _ _ _ _ _)
      | (with_reducible exact impl_Hyper_degrees.mono _ _ _ _)
      | (with_reducible exact impl_IsHyper.mono _ _ _)
      | (with_reducible exact slices_ContainsFunc_int_int_at_impl_LayersOf_1.mono _ _ _)
      | (with_reducible exact LeO.refl _)
      | (with_reducible exact LeO.none _)
      | (with_reducible refine LeO.ite ?_ ?_)
      | (with_reducible refine LeO.bind ?_ (fun _ => ?_))
      | exact ih0 _ _ _ _
      | exact ih1 _ _ _ _ _ _ _ _ _
      | exact ih2 _ _ _ _ _ _ _ _
      | exact impl_Hyper_degrees.mono _ _ _ _
      | exact impl_IsHyper.mono _ _ _
      | exact slices_ContainsFunc_int_int_at_impl_LayersOf_1.mono _ _ _
      | exact LeO.none _
      | refine LeO.ite ?_ ?_
      | refine LeO.bind ?_ (fun _ => ?_)
theorem impl_LayersOf.mono : ∀ a0 a1 k, LeO (impl_LayersOf.f k a0 a1) (impl_LayersOf.f (k + 1) a0 a1) := by
  intro a0 a1 k
  obtain ⟨ih0, ih1, ih2⟩ := impl_LayersOf.mono_l k
  unfold impl_LayersOf.f
  repeat' first
      | (with_reducible exact ih0 _ _ _ _)
      | (with_reducible exact ih1 _ _ _ _ _ _ _ _ _)
      | (with_reducible exact ih2 _ _ _ _ _ _ _ _)
      | (with_reducible exact impl_Hyper_degrees.mono _ _ _ _)
      | (with_reducible exact impl_IsHyper.mono _ _ _)
      | (with_reducible exact slices_ContainsFunc_int_int_at_impl_LayersOf_1.mono _ _ _)
      | (with_reducible exact LeO.refl _)
      | (with_reducible exact LeO.none _)
      | (with_reducible refine LeO.ite ?_ ?_)
      | (with_reducible refine LeO.bind ?_ (fun _ => ?_))
      | exact ih0 _ _ _ _
      | exact ih1 _ _ _ _ _ _ _ _ _
      | exact ih2 _ _ _ _ _ _ _ _
      | exact impl_Hyper_degrees.mono _ _ _ _
      | exact impl_IsHyper.mono _ _ _
      | exact slices_ContainsFunc_int_int_at_impl_LayersOf_1.mono _ _ _
      | exact LeO.none _
      | refine LeO.ite ?_ ?_
      | refine LeO.bind ?_ (fun _ => ?_)
noncomputable def impl_LayersOf.L0 (y0 : List (List Int)) (y1 : List Bool) (y2 : Int) (y3 : List (List Int)) : Option ((List (List Int)) × Bool) := lim fun k => impl_LayersOf.l0 k y0 y1 y2 y3
theorem impl_LayersOf.L0_sup (y0 : List (List Int)) (y1 : List Bool) (y2 : Int) (y3 : List (List Int)) : Sup (fun k => impl_LayersOf.l0 k y0 y1 y2 y3) (impl_LayersOf.L0 y0 y1 y2 y3) := Sup.of_mono fun k => (impl_LayersOf.mono_l k).1 y0 y1 y2 y3
noncomputable def impl_LayersOf.L1 (y0 : List (List Int)) (y1 : List Bool) (y2 : List Int) (y3 : List (List Int)) (y4 : Int) (y5 : Int) (y6 : Int) (y7 : List (List Int)) (y8 : List Int) : Option ((List (List Int)) × Bool) := lim fun k => impl_LayersOf.l1 k y0 y1 y2 y3 y4 y5 y6 y7 y8
theorem impl_LayersOf.L1_sup (y0 : List (List Int)) (y1 : List Bool) (y2 : List Int) (y3 : List (List Int)) (y4 : Int) (y5 : Int) (y6 : Int) (y7 : List (List Int)) (y8 : List Int) : Sup (fun k => impl_LayersOf.l1 k y0 y1 y2 y3 y4 y5 y6 y7 y8) (impl_LayersOf.L1 y0 y1 y2 y3 y4 y5 y6 y7 y8) := Sup.of_mono fun k => (impl_LayersOf.mono_l k).2.1 y0 y1 y2 y3 y4 y5 y6 y7 y8
noncomputable def impl_LayersOf.L2 (y0 : List (List Int)) (y1 : List Bool) (y2 : List Int) (y3 : List Int) (y4 : Int) (y5 : Int) (y6 : Int) (y7 : List (List Int)) : Option ((List (List Int)) × Bool) := lim fun k => impl_LayersOf.l2 k y0 y1 y2 y3 y4 y5 y6 y7
theorem impl_LayersOf.L2_sup (y0 : List (List Int)) (y1 : List Bool) (y2 : List Int) (y3 : List Int) (y4 : Int) (y5 : Int) (y6 : Int) (y7 : List (List Int)) : Sup (fun k => impl_LayersOf.l2 k y0 y1 y2 y3 y4 y5 y6 y7) (impl_LayersOf.L2 y0 y1 y2 y3 y4 y5 y6 y7) := Sup.of_mono fun k => (impl_LayersOf.mono_l k).2.2 y0 y1 y2 y3 y4 y5 y6 y7
noncomputable def impl_LayersOf.F (a0_0 : Int) (l0_1 : List (List Int)) : Option ((List (List Int)) × Bool) := lim fun k => impl_LayersOf.f k a0_0 l0_1
theorem impl_LayersOf.F_sup (a0_0 : Int) (l0_1 : List (List Int)) : Sup (fun k => impl_LayersOf.f k a0_0 l0_1) (impl_LayersOf.F a0_0 l0_1) := Sup.of_mono fun k => impl_LayersOf.mono a0_0 l0_1 k
theorem impl_LayersOf.L0_eq (x4 : List (List Int)) (x5 : List Bool) (x832000 : Int) (x832001 : List (List Int)) : impl_LayersOf.L0 x4 x5 x832000 x832001 = (impl_Hyper_degrees.F x832000 x832001 x5).bind fun t839 => (impl_LayersOf.L1 x4 x5 (([] : List Int)) x832001 (x832001.length : Int) 0 x832000 x832001 t839) := by
  refine Sup.unique (impl_LayersOf.L0_sup x4 x5 x832000 x832001) (Sup.shift (fun k => (impl_LayersOf.mono_l k).1 x4 x5 x832000 x832001) (Sup.congr (g' := fun k => (impl_Hyper_degrees.f k x832000 x832001 x5).bind fun t839 => (impl_LayersOf.l1 k x4 x5 (([] : List Int)) x832001 (x832001.length : Int) 0 x832000 x832001 t839)) (fun k => by first | rfl | simp only [impl_LayersOf.l0]) ?_))
  repeat' first
    | (with_reducible exact impl_LayersOf.L0_sup _ _ _ _)
    | (with_reducible exact impl_LayersOf.L1_sup _ _ _ _ _ _ _ _ _)
    | (with_reducible exact impl_LayersOf.L2_sup _ _ _ _ _ _ _ _)
    | (with_reducible exact impl_IsHyper.F_sup _ _)
    | (with_reducible exact impl_Hyper_degrees.F_sup _ _ _)
    | (with_reducible exact slices_ContainsFunc_int_int_at_impl_LayersOf_1.F_sup _ _)
    | (with_reducible refine Sup.ite ?_ ?_)
    | (with_reducible refine Sup.bind ?_ (fun _ => ?_))
    | (with_reducible exact Sup.const _)
    | exact impl_LayersOf.L0_sup _ _ _ _
    | exact impl_LayersOf.L1_sup _ _ _ _ _ _ _ _ _
    | exact impl_LayersOf.L2_sup _ _ _ _ _ _ _ _
    | exact impl_IsHyper.F_sup _ _
    | exact impl_Hyper_degrees.F_sup _ _ _
    | exact slices_ContainsFunc_int_int_at_impl_LayersOf_1.F_sup _ _
    | exact Sup.const _
theorem impl_LayersOf.L1_eq (x4 : List (List Int)) (x5 : List Bool) (x7 : List Int) (x21 : List (List Int)) (x22 : Int) (x23 : Int) (x832000 : Int) (x832001 : List (List Int)) (x846000 : List Int) : impl_LayersOf.L1 x4 x5 x7 x21 x22 x23 x832000 x832001 x846000 = if x23 < x22 then (if 0 ≤ x23 then (if x23 < (x21.length : Int) then (if x23 < (x5.length : Int) then (if rdOf false x5 x23 = true then (impl_LayersOf.L1 x4 x5 x7 x21 x22 (wrap64 (x23 + 1)) x832000 x832001 x846000) else ((slices_ContainsFunc_int_int_at_impl_LayersOf_1.F (rd_L1 x21 x23) x846000).bind fun t848 => (if t848 = true then (if x7.length < 17592186044416 then (impl_LayersOf.L1 x4 x5 (x7 ++ [x23]) x21 x22 (wrap64 (x23 + 1)) x832000 x832001 x846000) else (none)) else (impl_LayersOf.L1 x4 x5 x7 x21 x22 (wrap64 (x23 + 1)) x832000 x832001 x846000)))) else (none)) else (none)) else (none)) else (if (x7.length : Int) = 0 then (some (x4, true)) else (impl_LayersOf.L2 x4 x5 x7 x7 (x7.length : Int) 0 x832000 x832001)) := by
  refine Sup.unique (impl_LayersOf.L1_sup x4 x5 x7 x21 x22 x23 x832000 x832001 x846000) (Sup.shift (fun k => (impl_LayersOf.mono_l k).2.1 x4 x5 x7 x21 x22 x23 x832000 x832001 x846000) (Sup.congr (g' := fun k => if x23 < x22 then (if 0 ≤ x23 then (if x23 < (x21.length : Int) then (if x23 < (x5.length : Int) then (if rdOf false x5 x23 = true then (impl_LayersOf.l1 k x4 x5 x7 x21 x22 (wrap64 (x23 + 1)) x832000 x832001 x846000) else ((slices_ContainsFunc_int_int_at_impl_LayersOf_1.f k (rd_L1 x21 x23) x846000).bind fun t848 => (if t848 = true then (if x7.length < 17592186044416 then (impl_LayersOf.l1 k x4 x5 (x7 ++ [x23]) x21 x22 (wrap64 (x23 + 1)) x832000 x832001 x846000) else (none)) else (impl_LayersOf.l1 k x4 x5 x7 x21 x22 (wrap64 (x23 + 1)) x832000 x832001 x846000)))) else (none)) else (none)) else (none)) else (if (x7.length : Int) = 0 then (some (x4, true)) else (impl_LayersOf.l2 k x4 x5 x7 x7 (x7.length : Int) 0 x832000 x832001))) (fun k => by first | rfl | simp only [impl_LayersOf.l1]) ?_))
  repeat' first
    | (with_reducible exact impl_LayersOf.L0_sup _ _ _ _)
    | (with_reducible exact impl_LayersOf.L1_sup _ _ _ _ _ _ _ _ _)
    | (with_reducible exact impl_LayersOf.L2_sup _ _ _ _ _ _ _ _)
    | (with_reducible exact impl_IsHyper.F_sup _ _)
    | (with_reducible exact impl_Hyper_degrees.F_sup _ _ _)
    | (with_reducible exact slices_ContainsFunc_int_int_at_impl_LayersOf_1.F_sup _ _)
    | (with_reducible refine Sup.ite ?_ ?_)
    | (with_reducible refine Sup.bind ?_ (fun _ => ?_))
    | (with_reducible exact Sup.const _)
    | exact impl_LayersOf.L0_sup _ _ _ _
    | exact impl_LayersOf.L1_sup _ _ _ _ _ _ _ _ _
    | exact impl_LayersOf.L2_sup _ _ _ _ _ _ _ _
    | exact impl_IsHyper.F_sup _ _
    | exact impl_Hyper_degrees.F_sup _ _ _
    | exact slices_ContainsFunc_int_int_at_impl_LayersOf_1.F_sup _ _
    | exact Sup.const _
theorem impl_LayersOf.L2_eq (x4 : List (List Int)) (x5 : List Bool) (x7 : List Int) (x47 : List Int) (x48 : Int) (x49 : Int) (x832000 : Int) (x832001 : List (List Int)) : impl_LayersOf.L2 x4 x5 x7 x47 x48 x49 x832000 x832001 = if x49 < x48 then (if 0 ≤ x49 then (if x49 < (x47.length : Int) then (if 0 ≤ (rd x47 x49) then (if (rd x47 x49) < (x5.length : Int) then (impl_LayersOf.L2 x4 (x5.set ((rd x47 x49) : Int).toNat true) x7 x47 x48 (wrap64 (x49 + 1)) x832000 x832001) else (none)) else (none)) else (none)) else (none)) else (if x4.length < 5864062014805 then (impl_LayersOf.L0 (x4 ++ [x7]) x5 x832000 x832001) else (none)) := by
  refine Sup.unique (impl_LayersOf.L2_sup x4 x5 x7 x47 x48 x49 x832000 x832001) (Sup.shift (fun k => (impl_LayersOf.mono_l k).2.2 x4 x5 x7 x47 x48 x49 x832000 x832001) (Sup.congr (g' := fun k => if x49 < x48 then (if 0 ≤ x49 then (if x49 < (x47.length : Int) then (if 0 ≤ (rd x47 x49) then (if (rd x47 x49) < (x5.length : Int) then (impl_LayersOf.l2 k x4 (x5.set ((rd x47 x49) : Int).toNat true) x7 x47 x48 (wrap64 (x49 + 1)) x832000 x832001) else (none)) else (none)) else (none)) else (none)) else (if x4.length < 5864062014805 then (impl_LayersOf.l0 k (x4 ++ [x7]) x5 x832000 x832001) else (none))) (fun k => by first | rfl | simp only [impl_LayersOf.l2]) ?_))
  repeat' first
    | (with_reducible exact impl_LayersOf.L0_sup _ _ _ _)
    | (with_reducible exact impl_LayersOf.L1_sup _ _ _ _ _ _ _ _ _)
    | (with_reducible exact impl_LayersOf.L2_sup _ _ _ _ _ _ _ _)
    | (with_reducible exact impl_IsHyper.F_sup _ _)
    | (with_reducible exact impl_Hyper_degrees.F_sup _ _ _)
    | (with_reducible exact slices_ContainsFunc_int_int_at_impl_LayersOf_1.F_sup _ _)
    | (with_reducible refine Sup.ite ?_ ?_)
    | (with_reducible refine Sup.bind ?_ (fun _ => ?_))
    | (with_reducible exact Sup.const _)
    | exact impl_LayersOf.L0_sup _ _ _ _
    | exact impl_LayersOf.L1_sup _ _ _ _ _ _ _ _ _
    | exact impl_LayersOf.L2_sup _ _ _ _ _ _ _ _
    | exact impl_IsHyper.F_sup _ _
    | exact impl_Hyper_degrees.F_sup _ _ _
    | exact slices_ContainsFunc_int_int_at_impl_LayersOf_1.F_sup _ _
    | exact Sup.const _
theorem impl_LayersOf.F_eq (a0_0 : Int) (l0_1 : List (List Int)) : impl_LayersOf.F a0_0 l0_1 = (impl_IsHyper.F a0_0 l0_1).bind fun t832 => (if t832 = true then ((impl_Hyper_none.f a0_0 l0_1).bind fun t836 => (impl_LayersOf.L0 (([] : List (List Int))) t836 a0_0 l0_1)) else (some (([] : List (List Int)), false))) := by
  refine Sup.unique (impl_LayersOf.F_sup a0_0 l0_1) (Sup.congr (g' := fun k => (impl_IsHyper.f k a0_0 l0_1).bind fun t832 => (if t832 = true then ((impl_Hyper_none.f a0_0 l0_1).bind fun t836 => (impl_LayersOf.l0 k (([] : List (List Int))) t836 a0_0 l0_1)) else (some (([] : List (List Int)), false)))) (fun k => by first | rfl | simp only [impl_LayersOf.f]) ?_)
  repeat' first
    | (with_reducible exact impl_LayersOf.L0_sup _ _ _ _)
    | (with_reducible exact impl_LayersOf.L1_sup _ _ _ _ _ _ _ _ _)
    | (with_reducible exact impl_LayersOf.L2_sup _ _ _ _ _ _ _ _)
    | (with_reducible exact impl_IsHyper.F_sup _ _)
    | (with_reducible exact impl_Hyper_degrees.F_sup _ _ _)
    | (with_reducible exact slices_ContainsFunc_int_int_at_impl_LayersOf_1.F_sup _ _)
    | (with_reducible refine Sup.ite ?_ ?_)
    | (with_reducible refine Sup.bind ?_ (fun _ => ?_))
    | (with_reducible exact Sup.const _)
    | exact impl_LayersOf.L0_sup _ _ _ _
    | exact impl_LayersOf.L1_sup _ _ _ _ _ _ _ _ _
    | exact impl_LayersOf.L2_sup _ _ _ _ _ _ _ _
    | exact impl_IsHyper.F_sup _ _
    | exact impl_Hyper_degrees.F_sup _ _ _
    | exact slices_ContainsFunc_int_int_at_impl_LayersOf_1.F_sup _ _
    | exact Sup.const _
set_option maxHeartbeats 8000000 in
set_option maxRecDepth 100000 in
theorem impl_LayersOf.calls (k : Nat) (a0_0 : Int) (A0_1 : Option Addr) (c0_1 : Nat) (l0_1 : List (List Int)) (r1 : List (List Int)) (r2 : Bool) (w : World) (hr0_1 : Kd.C (Kd.slice 3 (Kd.int .i64)) w A0_1 l0_1.length l0_1) (hc0_1 : l0_1.length ≤ c0_1) (h : impl_LayersOf.f k a0_0 l0_1 = some (r1, r2)) :
    Calls Try.prog 50 #[.agg #[.int .i64 a0_0, .slice A0_1 l0_1.length c0_1]] w fun e w' => ∃ v0_ : Value, e = .returned (.tuple #[v0_, .bool r2]) ∧ Kd.S (Kd.slice 3 (Kd.int .i64)) 26 w' w.heap.size (fun _ => True) v0_ r1 ∧ Below w.heap.size w w' := by
  have hu29 := Try.underlying29
  have hu26 := Try.underlying26
  have hu22 := Try.underlying22
  have HR0_1 := Aside0.mk hr0_1
  have HC0_1 := Aside0.mk hc0_1
  clear hr0_1 hc0_1
  have HB := Aside0.mk (Below.refl w.heap.size w)
  have H : ((impl_IsHyper.f k a0_0 l0_1).bind fun t832 => (if t832 = true then ((impl_Hyper_none.f a0_0 l0_1).bind fun t836 => (impl_LayersOf.l0 k (([] : List (List Int))) t836 a0_0 l0_1)) else (some (([] : List (List Int)), false)))) = some (r1, r2) := h
  clear h
  replace H := Option.bind_eq_some_iff.mp H
  obtain ⟨t832, A20, H⟩ := H
  replace H : (if t832 = true then ((impl_Hyper_none.f a0_0 l0_1).bind fun t836 => (impl_LayersOf.l0 k (([] : List (List Int))) t836 a0_0 l0_1)) else (some (([] : List (List Int)), false))) = some (r1, r2) := H
  have A2 := Aside0.mk A20
  clear A20
  by_cases c3 : t832 = true
  ·subst c3
   have H1 : ((impl_Hyper_none.f a0_0 l0_1).bind fun t836 => (impl_LayersOf.l0 k (([] : List (List Int))) t836 a0_0 l0_1)) = some (r1, r2) := by rw [if_pos rfl] at H; exact H
   clear H
   have H := H1
   clear H1
   obtain ⟨y833, hy833⟩ : ∃ y_ : List (List Int), y_ = (([] : List (List Int))) := ⟨_, rfl⟩
   replace H : ((impl_Hyper_none.f a0_0 l0_1).bind fun t836 => (impl_LayersOf.l0 k y833 t836 a0_0 l0_1)) = some (r1, r2) := by first | (rw [hy833]; with_reducible exact H) | (have H2_ := (Option.bind_some _ _).symm.trans H; rw [hy833]; with_reducible exact H2_) | (have H2_ := (Option.bind_some _ _).symm.trans H; with_reducible exact H2_) | with_reducible exact H | (rw [hy833]; exact H) | exact H
   have Ny833 := Aside0.mk hy833
   clear hy833
   replace H := Option.bind_eq_some_iff.mp H
   obtain ⟨t836, A40, H⟩ := H
   replace H : (impl_LayersOf.l0 k y833 t836 a0_0 l0_1) = some (r1, r2) := H
   have A4 := Aside0.mk A40
   clear A40
   have H' := Aside0.mk H
   clear H
   go_enter Try.func50, Try.ntmps50
   go_wp2_with (first | ((with_reducible refine gate_dst (N := 1) rfl ?_); refine box_event ?hg (N := 1) ?hd (cs := #[.int .i64 a0_0, .slice A0_1 l0_1.length c0_1]) (t := 29) ?hr ?_; (case hd => rfl); (case hg => rfl); (case hr => first | (go_simp; done) | (go_simp; rfl)); intro gb831 hg w5 hbox hb; have n0_ := Aside0.mk (below_step (by repeat (first | (with_reducible first | exact HB.out | apply below_alloc | apply pw_below_drewN | apply below_drew1) | exact HB.out)) hb); have n1_ := Aside0.mk (hbox); have n2_ := Aside0.mk ((by rw [hg]; exact (below_size (by repeat (first | (with_reducible first | exact HB.out | apply below_alloc | apply pw_below_drewN | apply below_drew1) | exact HB.out))) : w.heap.size ≤ gb831)); have n3_ := Aside0.mk ((by rw [hg]; exact (below_size (by repeat (first | (with_reducible first | exact HB.out | apply below_alloc | apply pw_below_drewN | apply below_drew1) | exact HB.out))) : w.heap.size ≤ gb831)); clear HB; have HB := n0_; have BK831 := n1_; have GW831 := n2_; have GE831 := n3_; clear n0_ n1_ n2_ n3_; clear hb hbox hg; have hcz6_0 : w5.cell? ⟨gb831, 0, none⟩ = some (.int .i64 a0_0) := (blk_cell BK831.out 0).trans rfl; have hcz6_1 : w5.cell? ⟨gb831, 1, none⟩ = some (.slice A0_1 l0_1.length c0_1) := (blk_cell BK831.out 1).trans rfl; have hfz6_0 := blk_frozen BK831.out 0; have hfz6_1 := blk_frozen BK831.out 1) | ((with_reducible refine gate_callee (f := 71) rfl ?_); refine goesL_ (some 13) rfl rfl Try.func71 (by kernel_rfl) rfl #[.agg #[.int .i64 a0_0, .slice A0_1 l0_1.length c0_1]] rfl (by (try simp only [List.map_toArray, List.map_cons, List.map_nil]); first | done | rfl | (simp only [List.length_drop, List.length_take]; rfl)) ?_; (with_reducible refine (impl_IsHyper.calls k a0_0 _ _ l0_1 true _ ?side1 ?side2 A2.out).mono ?_); (case side1 => repeat (first | exact (Kd.C_below HR0_1.out HB.out) | (with_reducible refine Kd.C_alloc ?_ _) | (with_reducible refine Kd.C_drewN ?_ _) | (with_reducible refine Kd.C_drew ?_))); (case side2 => exact HC0_1.out); rintro e w7 ⟨rfl, hb⟩; refine ⟨_, rfl, ?_⟩; have n0_ := Aside0.mk (blk_below (g := gb831) (o := .cells #[.int .i64 a0_0, .slice A0_1 l0_1.length c0_1] 29 (0, 0)) (by (with_reducible repeat (first | refine blk_drewN ?_ _ | refine blk_drew ?_ | refine blk_alloc ?_ _)); exact BK831.out) hb); have n1_ := Aside0.mk (below_step (by repeat (first | (with_reducible first | exact HB.out | apply below_alloc | apply pw_below_drewN | apply below_drew1 | refine below_set ?_ GE831.out) | exact HB.out)) hb); clear BK831; clear HB; have BK831 := n0_; have HB := n1_; clear n0_ n1_; (try clear hb); (try clear hb2); (try clear hk); (try clear hi)) | ((with_reducible refine gate_dst (N := 15) rfl ?_); refine Kd.S_lit (Kd.slice 3 (Kd.int .i64)) _ 26 ?hg (N := 15) ?hd (xs := ([] : List (List Int))) (inner := []) (ok := fun _ => True) (okp := fun _ => True) ?hr ?hp (fun _ hk => hk) trivial (Below.refl _ _) (Nat.le_refl _) (by simp) ?_; (case hd => rfl); (case hg => rfl); (case hr => first | (go_simp; done) | (go_simp; rfl)); (case hp => exact (Reps.none _ _)); intro v834 w8 ho9 hb hg_ hnew_; clear hg_ hnew_; (first | rw [← Ny833.out] at ho9 | (simp only [Int.reduceToNat] at ho9; rw [← Ny833.out] at ho9)); have n0_ := Aside0.mk (Kd.S_lower ho9 (below_size (by repeat (first | (with_reducible first | exact HB.out | apply below_alloc | apply pw_below_drewN | apply below_drew1 | refine below_set ?_ GE831.out) | exact HB.out)))); have n1_ := Aside0.mk (blk_below (g := gb831) (o := .cells #[.int .i64 a0_0, .slice A0_1 l0_1.length c0_1] 29 (0, 0)) (by (with_reducible repeat (first | refine blk_drewN ?_ _ | refine blk_drew ?_ | refine blk_alloc ?_ _)); exact BK831.out) hb); have n2_ := Aside0.mk (below_step (by repeat (first | (with_reducible first | exact HB.out | apply below_alloc | apply pw_below_drewN | apply below_drew1 | refine below_set ?_ GE831.out) | exact HB.out)) hb); clear BK831; clear HB; have HO835 := n0_; have BK831 := n1_; have HB := n2_; clear n0_ n1_ n2_; clear hb ho9) | ((with_reducible refine gate_callee (f := 73) rfl ?_); refine goesL_ (some 16) rfl rfl Try.func73 (by kernel_rfl) rfl #[.pointer (some ⟨gb831, 0, none⟩)] rfl (by (try simp only [List.map_toArray, List.map_cons, List.map_nil]); first | done | rfl | (simp only [List.length_drop, List.length_take]; rfl)) ?_; (with_reducible refine (impl_Hyper_none.calls gb831 a0_0 A0_1 c0_1 l0_1 t836 _ ?side1 ?side2 ?side3 A4.out).mono ?_); (case side1 => repeat (first | exact (Kd.C_below HR0_1.out HB.out) | (with_reducible refine Kd.C_alloc ?_ _) | (with_reducible refine Kd.C_drewN ?_ _) | (with_reducible refine Kd.C_drew ?_))); (case side2 => exact HC0_1.out); (case side3 => exact (by (with_reducible repeat (first | refine blk_drewN ?_ _ | refine blk_drew ?_ | refine blk_alloc ?_ _)); exact BK831.out)); rintro e w10 ⟨v837, rfl, ho0, hb⟩; refine ⟨_, rfl, ?_⟩; have n0_ := Aside0.mk (Kd.S_below (by (with_reducible repeat (first | apply Kd.S_alloc | apply Kd.S_drewN | apply Kd.S_drew)); exact HO835.out) hb); have n1_ := Aside0.mk (Kd.R_lower ho0 (below_size (by repeat (first | (with_reducible first | exact HB.out | apply below_alloc | apply pw_below_drewN | apply below_drew1 | refine below_set ?_ GE831.out) | exact HB.out)))); have n2_ := Aside0.mk (blk_below (g := gb831) (o := .cells #[.int .i64 a0_0, .slice A0_1 l0_1.length c0_1] 29 (0, 0)) (by (with_reducible repeat (first | refine blk_drewN ?_ _ | refine blk_drew ?_ | refine blk_alloc ?_ _)); exact BK831.out) hb); have n3_ := Aside0.mk (below_step (by repeat (first | (with_reducible first | exact HB.out | apply below_alloc | apply pw_below_drewN | apply below_drew1 | refine below_set ?_ GE831.out) | exact HB.out)) hb); clear HO835; clear BK831; clear HB; have HO835 := n0_; have HO838 := n1_; have BK831 := n2_; have HB := n3_; clear n0_ n1_ n2_ n3_; (try clear hb); (try clear hb2); (try clear hk); (try clear hi); (try clear ho0)))
   go_loopg [4] k (fun kq v4 w' => ∃ (x4_1 : List (List Int)) (x5_1 : List Bool), Aside0 (impl_LayersOf.l0 kq x4_1 x5_1 a0_0 l0_1 = some (r1, r2)) ∧ Aside0 (kq ≤ k) ∧ Aside0 (Kd.S (Kd.slice 3 (Kd.int .i64)) 26 w' w.heap.size (fun _ => True) v4 x4_1) ∧ Aside0 (Kd.R Kd.bool 4 w' w.heap.size (fun _ => True) v837 x5_1) ∧ Aside0 (w'.heap[gb831]? = some (.cells #[.int .i64 a0_0, (.slice A0_1 l0_1.length c0_1)] 29 (0, 0))) ∧ Aside0 (Below w.heap.size w w'))
   case atStart => exact ⟨(y833), (t836), H', ⟨Nat.le_refl _⟩, ⟨by (with_reducible repeat (first | apply Kd.S_alloc | apply Kd.S_drewN | apply Kd.S_drew)); exact HO835.out⟩, ⟨by (with_reducible repeat (first | apply Kd.R_alloc | apply Kd.R_drewN | apply Kd.R_drew)); exact HO838.out⟩, ⟨by (with_reducible repeat (first | refine blk_drewN ?_ _ | refine blk_drew ?_ | refine blk_alloc ?_ _)); exact BK831.out⟩, ⟨by repeat (first | (with_reducible first | exact HB.out | apply below_alloc | apply pw_below_drewN | apply below_drew1 | refine below_set ?_ GE831.out) | exact HB.out)⟩⟩
   case round =>
    clear H'
    try clear p2
    try clear c3
    try clear c5
    try clear c7
    try clear hcz6_0
    try clear hcz6_1
    try clear hfz6_0
    try clear hfz6_1
    obtain ⟨x4_1, x5_1, HA, HK1, HO_4, HO_5, BK831, HB⟩ := hrel
    cases gk with
    | zero => exact absurd HA.out (by simp [impl_LayersOf.l0])
    | succ k1 =>
     have H := HA.out
     clear HA
     simp only [impl_LayersOf.l0] at H
     replace H := Option.bind_eq_some_iff.mp H
     obtain ⟨t839, A110, H⟩ := H
     replace H : (impl_LayersOf.l1 k1 x4_1 x5_1 (([] : List Int)) l0_1 (l0_1.length : Int) 0 a0_0 l0_1 t839) = some (r1, r2) := H
     have A11 := Aside0.mk A110
     clear A110
     obtain ⟨y842, hy842⟩ : ∃ y_ : List Int, y_ = (([] : List Int)) := ⟨_, rfl⟩
     replace H : (impl_LayersOf.l1 k1 x4_1 x5_1 y842 l0_1 (l0_1.length : Int) 0 a0_0 l0_1 t839) = some (r1, r2) := by first | (rw [hy842]; with_reducible exact H) | (have H2_ := (Option.bind_some _ _).symm.trans H; rw [hy842]; with_reducible exact H2_) | (have H2_ := (Option.bind_some _ _).symm.trans H; with_reducible exact H2_) | with_reducible exact H | (rw [hy842]; exact H) | exact H
     have Ny842 := Aside0.mk hy842
     clear hy842
     have H' := Aside0.mk H
     clear H
     obtain ⟨Ao12, co12, eo12⟩ := Kd.R_slice HO_5.out
     subst eo12
     go_wp2_with (first | ((with_reducible refine gate_callee (f := 72) rfl ?_); refine goesL_ (some 18) rfl rfl Try.func72 (by kernel_rfl) rfl #[.pointer (some ⟨gb831, 0, none⟩), .slice Ao12 x5_1.length co12] rfl (by (try simp only [List.map_toArray, List.map_cons, List.map_nil]); first | done | rfl | (simp only [List.length_drop, List.length_take]; rfl)) ?_; (with_reducible refine (impl_Hyper_degrees.calls k1 gb831 a0_0 A0_1 c0_1 l0_1 _ _ x5_1 t839 _ ?side1 ?side2 ?side3 ?side4 ?side5 A11.out).mono ?_); (case side1 => repeat (first | exact (Kd.C_below HR0_1.out HB.out) | (with_reducible refine Kd.C_alloc ?_ _) | (with_reducible refine Kd.C_drewN ?_ _) | (with_reducible refine Kd.C_drew ?_))); (case side2 => exact HC0_1.out); (case side3 => repeat (first | exact (Kd.R_reads' HO_5.out).2.2 | (with_reducible refine Kd.C_alloc ?_ _) | (with_reducible refine Kd.C_drewN ?_ _) | (with_reducible refine Kd.C_drew ?_))); (case side4 => exact (Kd.R_reads' HO_5.out).2.1); (case side5 => exact (by (with_reducible repeat (first | refine blk_drewN ?_ _ | refine blk_drew ?_ | refine blk_alloc ?_ _)); exact BK831.out)); rintro e w13 ⟨v840, rfl, ho0, hb⟩; refine ⟨_, rfl, ?_⟩; have n0_ := Aside0.mk (Kd.S_elder' (by (with_reducible repeat (first | apply Kd.S_alloc | apply Kd.S_drewN | apply Kd.S_drew)); exact HO_4.out) (Kd.R_base ho0) hb); have n1_ := Aside0.mk (Kd.R_below (by (with_reducible repeat (first | apply Kd.R_alloc | apply Kd.R_drewN | apply Kd.R_drew)); exact HO_5.out) hb); have n2_ := Aside0.mk (Kd.R_lower ho0 (below_size (by repeat (first | (with_reducible first | exact HB.out | apply below_alloc | apply pw_below_drewN | apply below_drew1 | refine below_set ?_ GE831.out) | exact HB.out)))); have n3_ := Aside0.mk (blk_below (g := gb831) (o := .cells #[.int .i64 a0_0, .slice A0_1 l0_1.length c0_1] 29 (0, 0)) (by (with_reducible repeat (first | refine blk_drewN ?_ _ | refine blk_drew ?_ | refine blk_alloc ?_ _)); exact BK831.out) hb); have n4_ := Aside0.mk (below_step (by repeat (first | (with_reducible first | exact HB.out | apply below_alloc | apply pw_below_drewN | apply below_drew1 | refine below_set ?_ GE831.out) | exact HB.out)) hb); clear HO_4; clear HO_5; clear BK831; clear HB; have HO_4 := n0_; have HO_5 := n1_; have HO841 := n2_; have BK831 := n3_; have HB := n4_; clear n0_ n1_ n2_ n3_ n4_; (try clear hb); (try clear hb2); (try clear hk); (try clear hi); (try clear ho0)) | ((with_reducible refine gate_dst (N := 19) rfl ?_); refine Kd.R_lit (Kd.int .i64) _ 3 ?hg (N := 19) ?hd (xs := ([] : List Int)) (inner := []) (ok := fun _ => True) (okp := fun _ => True) ?hr ?hp (fun _ hk => hk) trivial (Below.refl _ _) (Nat.le_refl _) (by simp) ?_; (case hd => rfl); (case hg => rfl); (case hr => first | (go_simp; done) | (go_simp; rfl)); (case hp => exact (Reps.none _ _)); intro v843 w14 ho15 hb hg_ hnew_; clear hg_ hnew_; (first | rw [← Ny842.out] at ho15 | (simp only [Int.reduceToNat] at ho15; rw [← Ny842.out] at ho15)); have n0_ := Aside0.mk (Kd.S_elder' (by (with_reducible repeat (first | apply Kd.S_alloc | apply Kd.S_drewN | apply Kd.S_drew)); exact HO_4.out) (Kd.R_base ho15) hb); have n1_ := Aside0.mk (Kd.R_below (by (with_reducible repeat (first | apply Kd.R_alloc | apply Kd.R_drewN | apply Kd.R_drew)); exact HO_5.out) hb); have n2_ := Aside0.mk (Kd.R_elder' (by (with_reducible repeat (first | apply Kd.R_alloc | apply Kd.R_drewN | apply Kd.R_drew)); exact HO841.out) (Kd.R_base ho15) hb); have n3_ := Aside0.mk (Kd.R_lower (Kd.R_new' ho15 (Kd.R_lt (by (with_reducible repeat (first | apply Kd.R_alloc | apply Kd.R_drewN | apply Kd.R_drew)); exact HO841.out))) (below_size (by repeat (first | (with_reducible first | exact HB.out | apply below_alloc | apply pw_below_drewN | apply below_drew1 | refine below_set ?_ GE831.out) | exact HB.out)))); have n4_ := Aside0.mk (blk_below (g := gb831) (o := .cells #[.int .i64 a0_0, .slice A0_1 l0_1.length c0_1] 29 (0, 0)) (by (with_reducible repeat (first | refine blk_drewN ?_ _ | refine blk_drew ?_ | refine blk_alloc ?_ _)); exact BK831.out) hb); have n5_ := Aside0.mk (below_step (by repeat (first | (with_reducible first | exact HB.out | apply below_alloc | apply pw_below_drewN | apply below_drew1 | refine below_set ?_ GE831.out) | exact HB.out)) hb); clear HO_4; clear HO_5; clear HO841; clear BK831; clear HB; have HO_4 := n0_; have HO_5 := n1_; have HO841 := n2_; have HO844 := n3_; have BK831 := n4_; have HB := n5_; clear n0_ n1_ n2_ n3_ n4_ n5_; clear hb ho15) | ((with_reducible refine gate_dst (N := 6) rfl ?_); refine box_event ?hg (N := 6) ?hd (cs := #[.slice none 0 0]) (t := 26) ?hr ?_; (case hd => rfl); (case hg => rfl); (case hr => first | (go_simp; done) | (go_simp; rfl)); intro gb845 hg w16 hbox hb; have n0_ := Aside0.mk (Kd.S_below (Kd.S_elderB (by (with_reducible repeat (first | apply Kd.S_alloc | apply Kd.S_drewN | apply Kd.S_drew)); exact HO_4.out) gb845 (Nat.le_of_eq hg.symm)) hb); have n1_ := Aside0.mk (Kd.R_below (by (with_reducible repeat (first | apply Kd.R_alloc | apply Kd.R_drewN | apply Kd.R_drew)); exact HO_5.out) hb); have n2_ := Aside0.mk (Kd.R_below (by (with_reducible repeat (first | apply Kd.R_alloc | apply Kd.R_drewN | apply Kd.R_drew)); exact HO841.out) hb); have n3_ := Aside0.mk (Kd.R_below (by (with_reducible repeat (first | apply Kd.R_alloc | apply Kd.R_drewN | apply Kd.R_drew)); exact HO844.out) hb); have n4_ := Aside0.mk (blk_below (g := gb831) (o := .cells #[.int .i64 a0_0, .slice A0_1 l0_1.length c0_1] 29 (0, 0)) (by (with_reducible repeat (first | refine blk_drewN ?_ _ | refine blk_drew ?_ | refine blk_alloc ?_ _)); exact BK831.out) hb); have n5_ := Aside0.mk (below_step (by repeat (first | (with_reducible first | exact HB.out | apply below_alloc | apply pw_below_drewN | apply below_drew1 | refine below_set ?_ GE831.out) | exact HB.out)) hb); have n6_ := Aside0.mk (hbox); have n7_ := Aside0.mk ((by rw [hg]; exact (below_size (by repeat (first | (with_reducible first | exact HB.out | apply below_alloc | apply pw_below_drewN | apply below_drew1 | refine below_set ?_ GE831.out) | exact HB.out))) : w.heap.size ≤ gb845)); have n8_ := Aside0.mk ((by rw [hg]; exact (below_size (by repeat (first | (with_reducible first | exact HB.out | apply below_alloc | apply pw_below_drewN | apply below_drew1 | refine below_set ?_ GE831.out) | exact HB.out))) : w.heap.size ≤ gb845)); have n9_ := Aside0.mk ((by rw [hg]; exact Nat.ne_of_lt (blk_lt (g := gb831) (o := .cells #[.int .i64 a0_0, .slice A0_1 l0_1.length c0_1] 29 (0, 0)) (by (with_reducible repeat (first | refine blk_drewN ?_ _ | refine blk_drew ?_ | refine blk_alloc ?_ _)); exact BK831.out)) : gb831 ≠ gb845)); have n10_ := Aside0.mk ((by rw [hg]; exact Nat.ne_of_gt (blk_lt (g := gb831) (o := .cells #[.int .i64 a0_0, .slice A0_1 l0_1.length c0_1] 29 (0, 0)) (by (with_reducible repeat (first | refine blk_drewN ?_ _ | refine blk_drew ?_ | refine blk_alloc ?_ _)); exact BK831.out)) : gb845 ≠ gb831)); clear HO_4; clear HO_5; clear HO841; clear HO844; clear BK831; clear HB; have HO_4 := n0_; have HO_5 := n1_; have HO841 := n2_; have HO844 := n3_; have BK831 := n4_; have HB := n5_; have BK845 := n6_; have GW845 := n7_; have GE845 := n8_; have NB831_845 := n9_; have NB845_831 := n10_; clear n0_ n1_ n2_ n3_ n4_ n5_ n6_ n7_ n8_ n9_ n10_; clear hb hbox hg; obtain ⟨Ao17, co17, eo17⟩ := Kd.R_slice HO841.out; subst eo17; have hnb18 := NB845_831.out; have hnc18 := NB831_845.out; have hcz19_0 : w16.cell? ⟨gb845, 0, none⟩ = some (.slice none 0 0) := (blk_cell BK845.out 0).trans rfl; have hfz19_0 := blk_frozen BK845.out 0; have hcz20_0 : w16.cell? ⟨gb831, 0, none⟩ = some (.int .i64 a0_0) := (blk_cell BK831.out 0).trans rfl; have hcz20_1 : w16.cell? ⟨gb831, 1, none⟩ = some (.slice A0_1 l0_1.length c0_1) := (blk_cell BK831.out 1).trans rfl; have hfz20_0 := blk_frozen BK831.out 0; have hfz20_1 := blk_frozen BK831.out 1))
     go_loopg [7, 23] k1 (fun kq v7 v23 w' => ∃ (x7_2 : List Int) (x23_2 : Int), v23 = .int .i64 x23_2 ∧ Aside0 (impl_LayersOf.l1 kq x4_1 x5_1 x7_2 l0_1 (l0_1.length : Int) x23_2 a0_0 l0_1 t839 = some (r1, r2)) ∧ Aside0 (kq ≤ k1) ∧ Aside0 (Kd.S (Kd.slice 3 (Kd.int .i64)) 26 w' w.heap.size (fun k_ => some k_ ≠ (v7 : Value).ownBlock ∧ some k_ ≠ ((.slice Ao17 t839.length co17) : Value).ownBlock ∧ k_ ≠ gb845) u4 x4_1) ∧ Aside0 (Kd.R Kd.bool 4 w' w.heap.size (fun _ => True) (.slice Ao12 x5_1.length co12) x5_1) ∧ Aside0 (Kd.R (Kd.int .i64) 3 w' w.heap.size (fun k_ => some k_ ≠ ((.slice Ao17 t839.length co17) : Value).ownBlock) v7 x7_2) ∧ Aside0 (Kd.R (Kd.int .i64) 3 w' w.heap.size (fun k_ => some k_ ≠ (v7 : Value).ownBlock) (.slice Ao17 t839.length co17) t839) ∧ Aside0 (w'.heap[gb831]? = some (.cells #[.int .i64 a0_0, (.slice A0_1 l0_1.length c0_1)] 29 (0, 0))) ∧ Aside0 (w'.heap[gb845]? = some (.cells #[(.slice Ao17 t839.length co17)] 26 (0, 0))) ∧ Aside0 (Below w.heap.size w w'))
     case atStart => exact ⟨(y842), (0), (by first | rfl | (simp; done) | (simp [*]; done)), H', ⟨Nat.le_refl _⟩, ⟨by (with_reducible repeat (first | apply Kd.S_alloc | apply Kd.S_drewN | apply Kd.S_drew)); exact Kd.S_mono (Kd.S_far (p := ⟨gb845, 0, none⟩) (Kd.S_mono HO_4.out (fun k_ hk => (⟨hk, hk.2⟩ : _ ∧ k_ ≠ gb845))) (fun _ hk => hk.2) (.slice Ao17 t839.length co17)) (fun _ hk => ⟨hk.1.1.2, ⟨hk.1.1.1.2, hk.1.2⟩⟩)⟩, ⟨by (with_reducible repeat (first | apply Kd.R_alloc | apply Kd.R_drewN | apply Kd.R_drew)); exact Kd.R_mono (Kd.R_far (p := ⟨gb845, 0, none⟩) (Kd.R_types HO_5.out BK845.out (by decide)) (fun _ hk => hk.2) (.slice Ao17 t839.length co17)) (fun _ hk => trivial)⟩, ⟨by (with_reducible repeat (first | apply Kd.R_alloc | apply Kd.R_drewN | apply Kd.R_drew)); exact Kd.R_mono (Kd.R_far (p := ⟨gb845, 0, none⟩) (Kd.R_types HO844.out BK845.out (by decide)) (fun _ hk => hk.2) (.slice Ao17 t839.length co17)) (fun _ hk => hk.1.2)⟩, ⟨by (with_reducible repeat (first | apply Kd.R_alloc | apply Kd.R_drewN | apply Kd.R_drew)); exact Kd.R_mono (Kd.R_far (p := ⟨gb845, 0, none⟩) (Kd.R_types HO841.out BK845.out (by decide)) (fun _ hk => hk.2) (.slice Ao17 t839.length co17)) (fun _ hk => hk.1.2)⟩, ⟨by (with_reducible repeat (first | refine blk_drewN ?_ _ | refine blk_drew ?_ | refine blk_alloc ?_ _)); refine blk_far ?_ NB831_845.out _; (with_reducible repeat (first | refine blk_drewN ?_ _ | refine blk_drew ?_ | refine blk_alloc ?_ _)); exact BK831.out⟩, ⟨by (with_reducible repeat (first | refine blk_drewN ?_ _ | refine blk_drew ?_ | refine blk_alloc ?_ _)); refine blk_put (cs := #[.slice none 0 0]) ?_ 0 _ rfl; (with_reducible repeat (first | refine blk_drewN ?_ _ | refine blk_drew ?_ | refine blk_alloc ?_ _)); exact BK845.out⟩, ⟨by repeat (first | (with_reducible first | exact HB.out | apply below_alloc | apply pw_below_drewN | apply below_drew1 | refine below_set ?_ GE831.out | refine below_set ?_ GE845.out) | exact HB.out)⟩⟩
     case round =>
      clear H'
      try clear c1
      try clear p2
      try clear c3
      try clear c5
      try clear c7
      try clear c18
      try clear hcz19_0
      try clear hcz20_0
      try clear hcz20_1
      try clear hcz6_0
      try clear hcz6_1
      try clear hfz19_0
      try clear hfz20_0
      try clear hfz20_1
      try clear hfz6_0
      try clear hfz6_1
      try clear p2
      obtain ⟨x7_2, x23_2, rfl, HA, HK2, HO_4, HO_5, HO_7, HO_846000, BK831, BK845, HB⟩ := hrel
      cases gk with
      | zero => exact absurd HA.out (by simp [impl_LayersOf.l1])
      | succ k2 =>
       have H := HA.out
       clear HA
       simp only [impl_LayersOf.l1] at H
       by_cases c21 : x23_2 < (l0_1.length : Int)
       ·rw [if_pos c21] at H
        have c21b0 : decide (x23_2 < (l0_1.length : Int)) = true := decide_eq_true c21
        clear c21
        by_cases c22 : 0 ≤ x23_2
        ·rw [if_pos c22] at H
         have c22b0 : decide (0 ≤ x23_2) = true := decide_eq_true c22
         clear c22
         by_cases c23 : x23_2 < (l0_1.length : Int)
         ·rw [if_pos c23] at H
          have c23b0 : decide (x23_2 < (l0_1.length : Int)) = true := decide_eq_true c23
          clear c23
          by_cases c24 : x23_2 < (x5_1.length : Int)
          ·rw [if_pos c24] at H
           have c24b0 : decide (x23_2 < (x5_1.length : Int)) = true := decide_eq_true c24
           clear c24
           obtain ⟨bq25, hbq25⟩ : ∃ b_ : Bool, b_ = (rdOf false x5_1 x23_2) := ⟨_, rfl⟩
           replace H : (if bq25 = true then (impl_LayersOf.l1 k2 x4_1 x5_1 x7_2 l0_1 (l0_1.length : Int) (wrap64 (x23_2 + 1)) a0_0 l0_1 t839) else ((slices_ContainsFunc_int_int_at_impl_LayersOf_1.f k2 (rd_L1 l0_1 x23_2) t839).bind fun t848 => (if t848 = true then (if x7_2.length < 17592186044416 then (impl_LayersOf.l1 k2 x4_1 x5_1 (x7_2 ++ [x23_2]) l0_1 (l0_1.length : Int) (wrap64 (x23_2 + 1)) a0_0 l0_1 t839) else (none)) else (impl_LayersOf.l1 k2 x4_1 x5_1 x7_2 l0_1 (l0_1.length : Int) (wrap64 (x23_2 + 1)) a0_0 l0_1 t839)))) = some (r1, r2) := by rw [← hbq25] at H; exact H
           have Nbq25 := Aside0.mk hbq25
           clear hbq25
           by_cases c26 : bq25 = true
           ·subst c26
            have H1 : (impl_LayersOf.l1 k2 x4_1 x5_1 x7_2 l0_1 (l0_1.length : Int) (wrap64 (x23_2 + 1)) a0_0 l0_1 t839) = some (r1, r2) := by rw [if_pos rfl] at H; exact H
            clear H
            have H := H1
            clear H1
            have H' := Aside0.mk H
            clear H
            have p846 : 0 ≤ (x23_2 : Int) := of_decide_eq_true (by first | (with_reducible assumption) | assumption)
            have q846 : x23_2 < (l0_1.length : Int) := of_decide_eq_true (by first | (with_reducible assumption) | assumption)
            obtain ⟨ad846, A846_0, c846_0, e846, hx846_0, hl846_0, hi846_0⟩ := at_L1 HR0_1.out x23_2 p846 q846
            cases e846
            replace hx846_0 := (HB.out.cell (World.block_lt_of_cell? w _ hx846_0)).trans hx846_0
            have HR846_0 := Aside0.mk hi846_0
            have HC846_0 := Aside0.mk hl846_0
            clear hi846_0 hl846_0
            replace p846 := eq_true p846
            replace q846 := eq_true q846
            have p847 : 0 ≤ (x23_2 : Int) := of_decide_eq_true (by first | (with_reducible assumption) | assumption)
            have q847 : x23_2 < (x5_1.length : Int) := of_decide_eq_true (by first | (with_reducible assumption) | assumption)
            obtain ⟨ad847, e847, hx847_0⟩ := Kd.at_bool (Kd.R_reads' HO_5.out).2.2 x23_2 p847 q847
            (try rw [← Nbq25.out] at hx847_0)
            cases e847
            replace p847 := eq_true p847
            replace q847 := eq_true q847
            go_wp2
            go_roundg k2
            case measure => have := HK1.out; have := HK2.out; omega
            case rel => exact ⟨(x7_2), (wrap64 (x23_2 + 1)), (by first | rfl | (simp; done) | (simp [*]; done)), H', ⟨by have := HK1.out; have := HK2.out; omega⟩, ⟨by (with_reducible repeat (first | apply Kd.S_alloc | apply Kd.S_drewN | apply Kd.S_drew)); exact HO_4.out⟩, ⟨by (with_reducible repeat (first | apply Kd.R_alloc | apply Kd.R_drewN | apply Kd.R_drew)); exact HO_5.out⟩, ⟨by (with_reducible repeat (first | apply Kd.R_alloc | apply Kd.R_drewN | apply Kd.R_drew)); exact HO_7.out⟩, ⟨by (with_reducible repeat (first | apply Kd.R_alloc | apply Kd.R_drewN | apply Kd.R_drew)); exact HO_846000.out⟩, ⟨by (with_reducible repeat (first | refine blk_drewN ?_ _ | refine blk_drew ?_ | refine blk_alloc ?_ _)); exact BK831.out⟩, ⟨by (with_reducible repeat (first | refine blk_drewN ?_ _ | refine blk_drew ?_ | refine blk_alloc ?_ _)); exact BK845.out⟩, ⟨by repeat (first | (with_reducible first | exact HB.out | apply below_alloc | apply pw_below_drewN | apply below_drew1 | refine below_set ?_ GE831.out | refine below_set ?_ GE845.out) | exact HB.out)⟩⟩
           ·replace c26 := Bool.eq_false_iff.mpr c26
            subst c26
            have H1 : ((slices_ContainsFunc_int_int_at_impl_LayersOf_1.f k2 (rd_L1 l0_1 x23_2) t839).bind fun t848 => (if t848 = true then (if x7_2.length < 17592186044416 then (impl_LayersOf.l1 k2 x4_1 x5_1 (x7_2 ++ [x23_2]) l0_1 (l0_1.length : Int) (wrap64 (x23_2 + 1)) a0_0 l0_1 t839) else (none)) else (impl_LayersOf.l1 k2 x4_1 x5_1 x7_2 l0_1 (l0_1.length : Int) (wrap64 (x23_2 + 1)) a0_0 l0_1 t839))) = some (r1, r2) := by rw [if_neg (show ¬ (false = true) by decide)] at H; exact H
            clear H
            have H := H1
            clear H1
            replace H := Option.bind_eq_some_iff.mp H
            obtain ⟨t848, A270, H⟩ := H
            replace H : (if t848 = true then (if x7_2.length < 17592186044416 then (impl_LayersOf.l1 k2 x4_1 x5_1 (x7_2 ++ [x23_2]) l0_1 (l0_1.length : Int) (wrap64 (x23_2 + 1)) a0_0 l0_1 t839) else (none)) else (impl_LayersOf.l1 k2 x4_1 x5_1 x7_2 l0_1 (l0_1.length : Int) (wrap64 (x23_2 + 1)) a0_0 l0_1 t839)) = some (r1, r2) := H
            have A27 := Aside0.mk A270
            clear A270
            by_cases c28 : t848 = true
            ·subst c28
             have H1 : (if x7_2.length < 17592186044416 then (impl_LayersOf.l1 k2 x4_1 x5_1 (x7_2 ++ [x23_2]) l0_1 (l0_1.length : Int) (wrap64 (x23_2 + 1)) a0_0 l0_1 t839) else (none)) = some (r1, r2) := by rw [if_pos rfl] at H; exact H
             clear H
             have H := H1
             clear H1
             by_cases c29 : x7_2.length < 17592186044416
             ·rw [if_pos c29] at H
              have LMc29 := Aside0.mk c29
              clear c29
              obtain ⟨y849, hy849⟩ : ∃ y_ : List Int, y_ = (x7_2 ++ [x23_2]) := ⟨_, rfl⟩
              replace H : (impl_LayersOf.l1 k2 x4_1 x5_1 y849 l0_1 (l0_1.length : Int) (wrap64 (x23_2 + 1)) a0_0 l0_1 t839) = some (r1, r2) := by first | (rw [hy849]; with_reducible exact H) | (have H2_ := (Option.bind_some _ _).symm.trans H; rw [hy849]; with_reducible exact H2_) | (have H2_ := (Option.bind_some _ _).symm.trans H; with_reducible exact H2_) | with_reducible exact H | (rw [hy849]; exact H) | exact H
              have Ny849 := Aside0.mk hy849
              clear hy849
              have H' := Aside0.mk H
              clear H
              have p846 : 0 ≤ (x23_2 : Int) := of_decide_eq_true (by first | (with_reducible assumption) | assumption)
              have q846 : x23_2 < (l0_1.length : Int) := of_decide_eq_true (by first | (with_reducible assumption) | assumption)
              obtain ⟨ad846, A846_0, c846_0, e846, hx846_0, hl846_0, hi846_0⟩ := at_L1 HR0_1.out x23_2 p846 q846
              cases e846
              replace hx846_0 := (HB.out.cell (World.block_lt_of_cell? w _ hx846_0)).trans hx846_0
              have HR846_0 := Aside0.mk hi846_0
              have HC846_0 := Aside0.mk hl846_0
              clear hi846_0 hl846_0
              replace p846 := eq_true p846
              replace q846 := eq_true q846
              have p847 : 0 ≤ (x23_2 : Int) := of_decide_eq_true (by first | (with_reducible assumption) | assumption)
              have q847 : x23_2 < (x5_1.length : Int) := of_decide_eq_true (by first | (with_reducible assumption) | assumption)
              obtain ⟨ad847, e847, hx847_0⟩ := Kd.at_bool (Kd.R_reads' HO_5.out).2.2 x23_2 p847 q847
              (try rw [← Nbq25.out] at hx847_0)
              cases e847
              replace p847 := eq_true p847
              replace q847 := eq_true q847
              go_wp2_with (first | (go_at_call 98; (with_reducible refine (slices_ContainsFunc_int_int_at_impl_LayersOf_1.calls k2 _ _ (rd_L1 l0_1 x23_2) gb845 Ao17 co17 t839 true _ ?side1 ?side2 ?side3 ?side4 ?side5 A27.out).mono ?_); (case side1 => repeat (first | exact (Kd.C_below HR846_0.out HB.out) | (with_reducible refine Kd.C_alloc ?_ _) | (with_reducible refine Kd.C_drewN ?_ _) | (with_reducible refine Kd.C_drew ?_))); (case side2 => exact HC846_0.out); (case side3 => repeat (first | exact (Kd.R_reads' HO_846000.out).2.2 | (with_reducible refine Kd.C_alloc ?_ _) | (with_reducible refine Kd.C_drewN ?_ _) | (with_reducible refine Kd.C_drew ?_))); (case side4 => exact (Kd.R_reads' HO_846000.out).2.1); (case side5 => exact (by (with_reducible repeat (first | refine blk_drewN ?_ _ | refine blk_drew ?_ | refine blk_alloc ?_ _)); exact BK845.out)); rintro e w' ⟨rfl, ⟨nd, rfl⟩⟩) | ((with_reducible refine gate_builtin (b := .append) (xs := #[.tmp 38, .tmp 40]) rfl ?_); at_builtin; refine Kd.R_append (Kd.int .i64) (w0 := w) w.heap.size rfl (.tmp 38) (.tmp 40) 26 3 (.int .i64 0) 8 rfl Try.underlying26 info3 rfl (by decide) (by omega) u7 x7_2 x23_2 [.int .i64 x23_2] (fun k_ => some k_ ≠ (.slice Ao17 t839.length co17 : Value).ownBlock) (fun _ => False) rfl rfl ?aP (fun _ hk => hk.elim) ?aF ?aO ?aB ?aS ?aL ?_; (case aP => exact rfl); (case aB => exact (by repeat (first | (with_reducible first | exact HB.out | apply below_alloc | apply pw_below_drewN | apply below_drew1 | refine below_set ?_ GE831.out | refine below_set ?_ GE845.out) | exact HB.out))); (case aF => exact (fun k_ hk => Kd.fresh' (Kd.R_lt (by (with_reducible repeat (first | apply Kd.R_alloc | apply Kd.R_drewN | apply Kd.R_drew)); exact HO_846000.out)) k_ hk)); (case aO => exact (by (with_reducible repeat (first | apply Kd.R_alloc | apply Kd.R_drewN | apply Kd.R_drew)); exact HO_7.out)); (case aS => exact (below_size (by repeat (first | (with_reducible first | exact HB.out | apply below_alloc | apply pw_below_drewN | apply below_drew1 | refine below_set ?_ GE831.out | refine below_set ?_ GE845.out) | exact HB.out)))); (case aL => have := LMc29.out; omega); intro v850 w30 ho hb hg hat; rw [← Ny849.out] at ho; have n0_ := Aside0.mk (Kd.S_after (ok := (fun k_ => some k_ ≠ (.slice Ao17 t839.length co17 : Value).ownBlock ∧ k_ ≠ gb845)) (by (with_reducible repeat (first | apply Kd.S_alloc | apply Kd.S_drewN | apply Kd.S_drew)); exact Kd.S_mono HO_4.out (fun _ hk => ⟨⟨hk.2.1, hk.2.2⟩, hk.1⟩)) hg hat); have n1_ := Aside0.mk (Kd.R_over' (by (with_reducible repeat (first | apply Kd.R_alloc | apply Kd.R_drewN | apply Kd.R_drew)); exact HO_5.out) (Kd.R_typed (by (with_reducible repeat (first | apply Kd.R_alloc | apply Kd.R_drewN | apply Kd.R_drew)); exact HO_7.out)) (by decide) hg); have n2_ := Aside0.mk (Kd.R_after (ok := (fun _ => True)) (by (with_reducible repeat (first | apply Kd.R_alloc | apply Kd.R_drewN | apply Kd.R_drew)); exact Kd.R_mono HO_846000.out (fun _ hk => ⟨trivial, hk⟩)) hg hat); have n3_ := Aside0.mk (blk_grown (g := gb831) (o := .cells #[.int .i64 a0_0, .slice (some ad846) l0_1.length c0_1] 29 (0, 0)) (by (with_reducible repeat (first | refine blk_drewN ?_ _ | refine blk_drew ?_ | refine blk_alloc ?_ _)); exact BK831.out) hg (Kd.R_ne HO_7.out BK831.out (by decide))); have n4_ := Aside0.mk (blk_grown (g := gb845) (o := .cells #[.slice Ao17 t839.length co17] 26 (0, 0)) (by (with_reducible repeat (first | refine blk_drewN ?_ _ | refine blk_drew ?_ | refine blk_alloc ?_ _)); exact BK845.out) hg (Kd.R_ne HO_7.out BK845.out (by decide))); have n5_ := Aside0.mk (hb); have n6_ := Aside0.mk (ho); clear HO_4; clear HO_5; clear HO_846000; clear BK831; clear BK845; clear HB; clear HO_7; have HO_4 := n0_; have HO_5 := n1_; have HO_846000 := n2_; have BK831 := n3_; have BK845 := n4_; have HB := n5_; have HO851 := n6_; clear n0_ n1_ n2_ n3_ n4_ n5_ n6_; clear ho hb hg hat))
              go_roundg k2
              case measure => have := HK1.out; have := HK2.out; omega
              case rel => exact ⟨(y849), (wrap64 (x23_2 + 1)), (by first | rfl | (simp; done) | (simp [*]; done)), H', ⟨by have := HK1.out; have := HK2.out; omega⟩, ⟨by (with_reducible repeat (first | apply Kd.S_alloc | apply Kd.S_drewN | apply Kd.S_drew)); exact Kd.S_mono HO_4.out (fun _ hk => ⟨hk.2, ⟨hk.1.1, hk.1.2⟩⟩)⟩, ⟨by (with_reducible repeat (first | apply Kd.R_alloc | apply Kd.R_drewN | apply Kd.R_drew)); exact HO_5.out⟩, ⟨by (with_reducible repeat (first | apply Kd.R_alloc | apply Kd.R_drewN | apply Kd.R_drew)); exact HO851.out⟩, ⟨by (with_reducible repeat (first | apply Kd.R_alloc | apply Kd.R_drewN | apply Kd.R_drew)); exact Kd.R_mono HO_846000.out (fun _ hk => hk.2)⟩, ⟨by (with_reducible repeat (first | refine blk_drewN ?_ _ | refine blk_drew ?_ | refine blk_alloc ?_ _)); exact BK831.out⟩, ⟨by (with_reducible repeat (first | refine blk_drewN ?_ _ | refine blk_drew ?_ | refine blk_alloc ?_ _)); exact BK845.out⟩, ⟨by repeat (first | (with_reducible first | exact HB.out | apply below_alloc | apply pw_below_drewN | apply below_drew1 | refine below_set ?_ GE831.out | refine below_set ?_ GE845.out) | exact HB.out)⟩⟩
             ·rw [if_neg c29] at H
              exact absurd H (by simp)
            ·replace c28 := Bool.eq_false_iff.mpr c28
             subst c28
             have H1 : (impl_LayersOf.l1 k2 x4_1 x5_1 x7_2 l0_1 (l0_1.length : Int) (wrap64 (x23_2 + 1)) a0_0 l0_1 t839) = some (r1, r2) := by rw [if_neg (show ¬ (false = true) by decide)] at H; exact H
             clear H
             have H := H1
             clear H1
             have H' := Aside0.mk H
             clear H
             have p846 : 0 ≤ (x23_2 : Int) := of_decide_eq_true (by first | (with_reducible assumption) | assumption)
             have q846 : x23_2 < (l0_1.length : Int) := of_decide_eq_true (by first | (with_reducible assumption) | assumption)
             obtain ⟨ad846, A846_0, c846_0, e846, hx846_0, hl846_0, hi846_0⟩ := at_L1 HR0_1.out x23_2 p846 q846
             cases e846
             replace hx846_0 := (HB.out.cell (World.block_lt_of_cell? w _ hx846_0)).trans hx846_0
             have HR846_0 := Aside0.mk hi846_0
             have HC846_0 := Aside0.mk hl846_0
             clear hi846_0 hl846_0
             replace p846 := eq_true p846
             replace q846 := eq_true q846
             have p847 : 0 ≤ (x23_2 : Int) := of_decide_eq_true (by first | (with_reducible assumption) | assumption)
             have q847 : x23_2 < (x5_1.length : Int) := of_decide_eq_true (by first | (with_reducible assumption) | assumption)
             obtain ⟨ad847, e847, hx847_0⟩ := Kd.at_bool (Kd.R_reads' HO_5.out).2.2 x23_2 p847 q847
             (try rw [← Nbq25.out] at hx847_0)
             cases e847
             replace p847 := eq_true p847
             replace q847 := eq_true q847
             go_wp2_with (first | (go_at_call 98; (with_reducible refine (slices_ContainsFunc_int_int_at_impl_LayersOf_1.calls k2 _ _ (rd_L1 l0_1 x23_2) gb845 Ao17 co17 t839 false _ ?side1 ?side2 ?side3 ?side4 ?side5 A27.out).mono ?_); (case side1 => repeat (first | exact (Kd.C_below HR846_0.out HB.out) | (with_reducible refine Kd.C_alloc ?_ _) | (with_reducible refine Kd.C_drewN ?_ _) | (with_reducible refine Kd.C_drew ?_))); (case side2 => exact HC846_0.out); (case side3 => repeat (first | exact (Kd.R_reads' HO_846000.out).2.2 | (with_reducible refine Kd.C_alloc ?_ _) | (with_reducible refine Kd.C_drewN ?_ _) | (with_reducible refine Kd.C_drew ?_))); (case side4 => exact (Kd.R_reads' HO_846000.out).2.1); (case side5 => exact (by (with_reducible repeat (first | refine blk_drewN ?_ _ | refine blk_drew ?_ | refine blk_alloc ?_ _)); exact BK845.out)); rintro e w' ⟨rfl, ⟨nd, rfl⟩⟩))
             go_roundg k2
             case measure => have := HK1.out; have := HK2.out; omega
             case rel => exact ⟨(x7_2), (wrap64 (x23_2 + 1)), (by first | rfl | (simp; done) | (simp [*]; done)), H', ⟨by have := HK1.out; have := HK2.out; omega⟩, ⟨by (with_reducible repeat (first | apply Kd.S_alloc | apply Kd.S_drewN | apply Kd.S_drew)); exact HO_4.out⟩, ⟨by (with_reducible repeat (first | apply Kd.R_alloc | apply Kd.R_drewN | apply Kd.R_drew)); exact HO_5.out⟩, ⟨by (with_reducible repeat (first | apply Kd.R_alloc | apply Kd.R_drewN | apply Kd.R_drew)); exact HO_7.out⟩, ⟨by (with_reducible repeat (first | apply Kd.R_alloc | apply Kd.R_drewN | apply Kd.R_drew)); exact HO_846000.out⟩, ⟨by (with_reducible repeat (first | refine blk_drewN ?_ _ | refine blk_drew ?_ | refine blk_alloc ?_ _)); exact BK831.out⟩, ⟨by (with_reducible repeat (first | refine blk_drewN ?_ _ | refine blk_drew ?_ | refine blk_alloc ?_ _)); exact BK845.out⟩, ⟨by repeat (first | (with_reducible first | exact HB.out | apply below_alloc | apply pw_below_drewN | apply below_drew1 | refine below_set ?_ GE831.out | refine below_set ?_ GE845.out) | exact HB.out)⟩⟩
          ·rw [if_neg c24] at H
           exact absurd H (by simp)
         ·rw [if_neg c23] at H
          exact absurd H (by simp)
        ·rw [if_neg c22] at H
         exact absurd H (by simp)
       ·rw [if_neg c21] at H
        have c21b0 : decide (x23_2 < (l0_1.length : Int)) = false := decide_eq_false c21
        clear c21
        by_cases c31 : (x7_2.length : Int) = 0
        ·rw [if_pos c31] at H
         have c31b0 : ((x7_2.length : Int) == 0) = true := beq_iff_eq.mpr c31
         have c31b1 : ((x7_2.length : Int) != 0) = false := bne_eq_false_iff_eq.mpr c31
         clear c31
         simp only [Option.some.injEq, Prod.mk.injEq] at H
         obtain ⟨rfl, rfl⟩ := H
         obtain ⟨Ao32, co32, eo32⟩ := Kd.R_slice HO_7.out
         subst eo32
         go_wp2
         go_ret2
         exact ⟨_, by first | rfl | (simp [errW_none, errW_some] <;> rfl) | (simp [*, errW_none, errW_some] <;> rfl), by (with_reducible repeat (first | apply Kd.S_alloc | apply Kd.S_drewN | apply Kd.S_drew)); exact Kd.S_mono HO_4.out (fun _ hk => trivial), by repeat (first | (with_reducible first | exact HB.out | apply below_alloc | apply pw_below_drewN | apply below_drew1 | refine below_set ?_ GE831.out | refine below_set ?_ GE845.out) | exact HB.out)⟩
        ·rw [if_neg c31] at H
         have c31b0 : ((x7_2.length : Int) == 0) = false := beq_eq_false_iff_ne.mpr c31
         have c31b1 : ((x7_2.length : Int) != 0) = true := bne_iff_ne.mpr c31
         have c31b2 : ¬ (x7_2 = []) := fun h_ => c31 (by rw [h_]; rfl)
         have H' := Aside0.mk H
         clear H
         obtain ⟨Ao33, co33, eo33⟩ := Kd.R_slice HO_7.out
         subst eo33
         go_wp2
         go_loopg [49] k2 (fun kq v49 w' => ∃ (x5_3 : List Bool) (x49_3 : Int), v49 = .int .i64 x49_3 ∧ Aside0 (impl_LayersOf.l2 kq x4_1 x5_3 x7_2 x7_2 (x7_2.length : Int) x49_3 a0_0 l0_1 = some (r1, r2)) ∧ Aside0 (kq ≤ k2) ∧ Aside0 (Kd.S (Kd.slice 3 (Kd.int .i64)) 26 w' w.heap.size (fun k_ => some k_ ≠ ((.slice Ao33 x7_2.length co33) : Value).ownBlock ∧ some k_ ≠ ((.slice Ao17 t839.length co17) : Value).ownBlock ∧ k_ ≠ gb845) u4 x4_1) ∧ Aside0 (Kd.R Kd.bool 4 w' w.heap.size (fun _ => True) (.slice Ao12 x5_1.length co12) x5_3) ∧ Aside0 (Kd.R (Kd.int .i64) 3 w' w.heap.size (fun k_ => some k_ ≠ ((.slice Ao17 t839.length co17) : Value).ownBlock) (.slice Ao33 x7_2.length co33) x7_2) ∧ Aside0 (Kd.R (Kd.int .i64) 3 w' w.heap.size (fun k_ => some k_ ≠ ((.slice Ao33 x7_2.length co33) : Value).ownBlock) (.slice Ao17 t839.length co17) t839) ∧ Aside0 (w'.heap[gb831]? = some (.cells #[.int .i64 a0_0, (.slice A0_1 l0_1.length c0_1)] 29 (0, 0))) ∧ Aside0 (w'.heap[gb845]? = some (.cells #[(.slice Ao17 t839.length co17)] 26 (0, 0))) ∧ Aside0 (Below w.heap.size w w'))
         case atStart => exact ⟨(x5_1), (0), (by first | rfl | (simp; done) | (simp [*]; done)), H', ⟨Nat.le_refl _⟩, ⟨by (with_reducible repeat (first | apply Kd.S_alloc | apply Kd.S_drewN | apply Kd.S_drew)); exact HO_4.out⟩, ⟨by (with_reducible repeat (first | apply Kd.R_alloc | apply Kd.R_drewN | apply Kd.R_drew)); exact HO_5.out⟩, ⟨by (with_reducible repeat (first | apply Kd.R_alloc | apply Kd.R_drewN | apply Kd.R_drew)); exact HO_7.out⟩, ⟨by (with_reducible repeat (first | apply Kd.R_alloc | apply Kd.R_drewN | apply Kd.R_drew)); exact HO_846000.out⟩, ⟨by (with_reducible repeat (first | refine blk_drewN ?_ _ | refine blk_drew ?_ | refine blk_alloc ?_ _)); exact BK831.out⟩, ⟨by (with_reducible repeat (first | refine blk_drewN ?_ _ | refine blk_drew ?_ | refine blk_alloc ?_ _)); exact BK845.out⟩, ⟨by repeat (first | (with_reducible first | exact HB.out | apply below_alloc | apply pw_below_drewN | apply below_drew1 | refine below_set ?_ GE831.out | refine below_set ?_ GE845.out) | exact HB.out)⟩⟩
         case round =>
          clear H'
          try clear c1
          try clear c2
          try clear p2
          try clear q2
          try clear c3
          try clear c5
          try clear p6
          try clear c7
          try clear c8
          try clear p8
          try clear q8
          try clear hx8
          try clear c18
          try clear c21
          try clear c21b0
          try clear c22
          try clear c22b0
          try clear c23
          try clear c23b0
          try clear c24
          try clear c24b0
          try clear q25
          try clear c26
          try clear c28
          try clear c29
          try clear c31
          try clear c31b0
          try clear c31b1
          try clear c31b2
          try clear hcz19_0
          try clear hcz20_0
          try clear hcz20_1
          try clear hcz6_0
          try clear hcz6_1
          try clear hfz19_0
          try clear hfz20_0
          try clear hfz20_1
          try clear hfz6_0
          try clear hfz6_1
          try clear hx846_0
          try clear hx847_0
          try clear p2
          try clear p846
          try clear p847
          try clear q846
          try clear q847
          obtain ⟨x5_3, x49_3, rfl, HA, HK3, HO_4, HO_5, HO_7, HO_846000, BK831, BK845, HB⟩ := hrel
          have hl5_3 := (Kd.R_reads' HO_5.out).1
          rw [hl5_3] at HO_5
          (try simp only [hl5_3])
          (try simp only [hl5_3] at BK831)
          (try simp only [hl5_3] at BK845)
          (try simp only [hl5_3] at HO_4)
          (try simp only [hl5_3] at HO_7)
          (try simp only [hl5_3] at HO_846000)
          cases gk with
          | zero => exact absurd HA.out (by simp [impl_LayersOf.l2])
          | succ k3 =>
           have H := HA.out
           clear HA
           simp only [impl_LayersOf.l2] at H
           by_cases c34 : x49_3 < (x7_2.length : Int)
           ·rw [if_pos c34] at H
            have c34b0 : decide (x49_3 < (x7_2.length : Int)) = true := decide_eq_true c34
            (try (have c34z0 := c34b0; simp only [hl5_3] at c34z0))
            clear c34
            by_cases c35 : 0 ≤ x49_3
            ·rw [if_pos c35] at H
             have c35b0 : decide (0 ≤ x49_3) = true := decide_eq_true c35
             clear c35
             by_cases c36 : x49_3 < (x7_2.length : Int)
             ·rw [if_pos c36] at H
              have c36b0 : decide (x49_3 < (x7_2.length : Int)) = true := decide_eq_true c36
              (try (have c36z0 := c36b0; simp only [hl5_3] at c36z0))
              clear c36
              by_cases c37 : 0 ≤ (rd x7_2 x49_3)
              ·rw [if_pos c37] at H
               have c37b0 : decide (0 ≤ (rd x7_2 x49_3)) = true := decide_eq_true c37
               clear c37
               by_cases c38 : (rd x7_2 x49_3) < (x5_3.length : Int)
               ·rw [if_pos c38] at H
                have c38b0 : decide ((rd x7_2 x49_3) < (x5_3.length : Int)) = true := decide_eq_true c38
                (try (have c38z0 := c38b0; simp only [hl5_3] at c38z0))
                clear c38
                obtain ⟨y853, hy853⟩ : ∃ y_ : List Bool, y_ = (x5_3.set ((rd x7_2 x49_3) : Int).toNat true) := ⟨_, rfl⟩
                replace H : (impl_LayersOf.l2 k3 x4_1 y853 x7_2 x7_2 (x7_2.length : Int) (wrap64 (x49_3 + 1)) a0_0 l0_1) = some (r1, r2) := by first | (rw [hy853]; with_reducible exact H) | (have H2_ := (Option.bind_some _ _).symm.trans H; rw [hy853]; with_reducible exact H2_) | (have H2_ := (Option.bind_some _ _).symm.trans H; with_reducible exact H2_) | with_reducible exact H | (rw [hy853]; exact H) | exact H
                have Ny853 := Aside0.mk hy853
                clear hy853
                have H' := Aside0.mk H
                clear H
                have p852 : 0 ≤ (x49_3 : Int) := of_decide_eq_true (by first | (with_reducible assumption) | assumption)
                have q852 : x49_3 < (x7_2.length : Int) := of_decide_eq_true (by first | (with_reducible assumption) | assumption)
                obtain ⟨ad852, e852, hx852_0⟩ := Kd.at_int (Kd.R_reads' HO_7.out).2.2 x49_3 p852 q852
                cases e852
                replace p852 := eq_true p852
                replace q852 := eq_true q852
                have p39 : 0 ≤ ((rd x7_2 x49_3) : Int) := of_decide_eq_true (by first | (with_reducible assumption) | assumption)
                have q39 : ((rd x7_2 x49_3) : Int) < ((x5_3.length : Int) : Int) := of_decide_eq_true (by first | (with_reducible assumption) | assumption)
                obtain ⟨go39, co39, eo39, gb39, gl39, cl39, HG39⟩ := Kd.R_form HO_5.out (by omega)
                (first | cases eo39 | (injection eo39 with ea_ en_ ec_; (first | subst ea_ | (injection ea_ with ea_; subst ea_)); subst ec_; clear en_))
                have GB39 := Aside0.mk gb39
                have GG39 := Aside0.mk HG39
                clear gb39 gl39 HG39
                obtain ⟨hx39_0, hf39_0⟩ := Kd.R_celln false HO_5.out ((rd x7_2 x49_3) : Int) p39 q39
                replace p39 := eq_true p39
                replace q39 := eq_true q39
                have HP40 := Kd.R_putg HO_5.out ((rd x7_2 x49_3) : Int) true
                go_wp2_with (first | ((with_reducible refine gate_store (t := 4) (p := 55) rfl ?_); refine store_event (t := 4) (p := 55) (v := ?vo_w41) (w1 := (wr.setCell ⟨go39, ((rd x7_2 x49_3) : Int).toNat, none⟩ (.bool true))) ?hg ?ho ?hn ?hr ?_; (case ho => rfl); (case hg => rfl); (case hn => rfl); (case hr => first | (go_simp; done) | (go_simp; rfl)); intro w41 hw; have hg : wr.grownBy w41 (some go39) := (by rw [hw]; exact HP40.2); have hp_ : Kd.R Kd.bool 4 w41 w.heap.size (fun _ => True) (.slice (some ⟨go39, 0, none⟩) x5_3.length co12) y853 := (by rw [hw, Ny853.out]; exact HP40.1); clear HP40; have n0_ := Aside0.mk (Kd.S_over' (v := (.slice (some ⟨go39, 0, none⟩) x5_3.length co12)) (by (with_reducible repeat (first | apply Kd.S_alloc | apply Kd.S_drewN | apply Kd.S_drew)); exact HO_4.out) (Kd.R_typed HO_5.out) (by decide) hg); have n1_ := Aside0.mk (hp_); have n2_ := Aside0.mk (Kd.R_over' (v := (.slice (some ⟨go39, 0, none⟩) x5_3.length co12)) (by (with_reducible repeat (first | apply Kd.R_alloc | apply Kd.R_drewN | apply Kd.R_drew)); exact HO_7.out) (Kd.R_typed HO_5.out) (by decide) hg); have n3_ := Aside0.mk (Kd.R_over' (v := (.slice (some ⟨go39, 0, none⟩) x5_3.length co12)) (by (with_reducible repeat (first | apply Kd.R_alloc | apply Kd.R_drewN | apply Kd.R_drew)); exact HO_846000.out) (Kd.R_typed HO_5.out) (by decide) hg); have n4_ := Aside0.mk (blk_grown (g := gb831) (o := .cells #[.int .i64 a0_0, .slice A0_1 l0_1.length c0_1] 29 (0, 0)) (by (with_reducible repeat (first | refine blk_drewN ?_ _ | refine blk_drew ?_ | refine blk_alloc ?_ _)); exact BK831.out) hg (Kd.R_ne HO_5.out BK831.out (by decide))); have n5_ := Aside0.mk (blk_grown (g := gb845) (o := .cells #[.slice Ao17 t839.length co17] 26 (0, 0)) (by (with_reducible repeat (first | refine blk_drewN ?_ _ | refine blk_drew ?_ | refine blk_alloc ?_ _)); exact BK845.out) hg (Kd.R_ne HO_5.out BK845.out (by decide))); have n6_ := Aside0.mk ((by rw [hw]; exact below_set (HB.out) GB39.out : Below w.heap.size w w41)); clear HO_4; clear HO_5; clear HO_7; clear HO_846000; clear BK831; clear BK845; clear HB; have HO_4 := n0_; have HO_5 := n1_; have HO_7 := n2_; have HO_846000 := n3_; have BK831 := n4_; have BK845 := n5_; have HB := n6_; clear n0_ n1_ n2_ n3_ n4_ n5_ n6_; clear hg hw hp_))
                (try simp only [← hl5_3])
                go_roundg k3
                case measure => have := HK1.out; have := HK2.out; have := HK3.out; omega
                case rel => exact ⟨(y853), (wrap64 (x49_3 + 1)), (by first | rfl | (simp; done) | (simp [*]; done)), H', ⟨by have := HK1.out; have := HK2.out; have := HK3.out; omega⟩, ⟨by (try simp only [hl5_3]); (with_reducible repeat (first | apply Kd.S_alloc | apply Kd.S_drewN | apply Kd.S_drew)); exact HO_4.out⟩, ⟨by (try simp only [hl5_3]); (with_reducible repeat (first | apply Kd.R_alloc | apply Kd.R_drewN | apply Kd.R_drew)); exact HO_5.out⟩, ⟨by (try simp only [hl5_3]); (with_reducible repeat (first | apply Kd.R_alloc | apply Kd.R_drewN | apply Kd.R_drew)); exact HO_7.out⟩, ⟨by (try simp only [hl5_3]); (with_reducible repeat (first | apply Kd.R_alloc | apply Kd.R_drewN | apply Kd.R_drew)); exact HO_846000.out⟩, ⟨by (try simp only [hl5_3]); (with_reducible repeat (first | refine blk_drewN ?_ _ | refine blk_drew ?_ | refine blk_alloc ?_ _)); exact BK831.out⟩, ⟨by (try simp only [hl5_3]); (with_reducible repeat (first | refine blk_drewN ?_ _ | refine blk_drew ?_ | refine blk_alloc ?_ _)); exact BK845.out⟩, ⟨by repeat (first | (with_reducible first | exact HB.out | apply below_alloc | apply pw_below_drewN | apply below_drew1 | refine below_set ?_ GE831.out | refine below_set ?_ GE845.out) | exact HB.out)⟩⟩
               ·rw [if_neg c38] at H
                exact absurd H (by simp)
              ·rw [if_neg c37] at H
               exact absurd H (by simp)
             ·rw [if_neg c36] at H
              exact absurd H (by simp)
            ·rw [if_neg c35] at H
             exact absurd H (by simp)
           ·rw [if_neg c34] at H
            have c34b0 : decide (x49_3 < (x7_2.length : Int)) = false := decide_eq_false c34
            (try (have c34z0 := c34b0; simp only [hl5_3] at c34z0))
            clear c34
            by_cases c42 : x4_1.length < 5864062014805
            ·rw [if_pos c42] at H
             have LMc42 := Aside0.mk c42
             clear c42
             obtain ⟨y854, hy854⟩ : ∃ y_ : List (List Int), y_ = (x4_1 ++ [x7_2]) := ⟨_, rfl⟩
             replace H : (impl_LayersOf.l0 k3 y854 x5_3 a0_0 l0_1) = some (r1, r2) := by first | (rw [hy854]; with_reducible exact H) | (have H2_ := (Option.bind_some _ _).symm.trans H; rw [hy854]; with_reducible exact H2_) | (have H2_ := (Option.bind_some _ _).symm.trans H; with_reducible exact H2_) | with_reducible exact H | (rw [hy854]; exact H) | exact H
             have Ny854 := Aside0.mk hy854
             clear hy854
             have H' := Aside0.mk H
             clear H
             go_wp2_with (first | ((with_reducible refine gate_builtin (b := .append) (xs := #[.tmp 57, .tmp 59]) rfl ?_); at_builtin; refine Kd.S_append (Kd.slice 3 (Kd.int .i64)) (w0 := w) w.heap.size rfl (.tmp 57) (.tmp 59) 22 26 (.slice none 0 0) 24 rfl Try.underlying22 info26 rfl (by decide) (by omega) u4 x4_1 x7_2 [.slice Ao33 x7_2.length co33] (fun k_ => some k_ ≠ (.slice Ao17 t839.length co17 : Value).ownBlock ∧ k_ ≠ gb845) (fun k_ => some k_ = (.slice Ao33 x7_2.length co33 : Value).ownBlock) rfl rfl ?aP (fun k_ hk_ => ((Kd.R_mono (ok' := fun k_ => ((fun k_ => some k_ ≠ (.slice Ao17 t839.length co17 : Value).ownBlock ∧ k_ ≠ gb845)) k_ ∧ some k_ ≠ (u4 : Value).ownBlock) (Kd.R_types (Kd.R_apart' (HO_7.out) (Kd.S_typed HO_4.out) (by decide)) BK845.out (by decide)) (fun k_ hk => ⟨⟨hk.1.1, hk.2⟩, hk.1.2⟩))).1 k_ hk_.symm) ?aF ?aO ?aB ?aS ?aL ?_; (case aP => exact Kd.M_row (Kd.R_mono (Kd.R_tight rfl (Kd.R_mono (ok' := fun k_ => ((fun k_ => some k_ ≠ (.slice Ao17 t839.length co17 : Value).ownBlock ∧ k_ ≠ gb845)) k_ ∧ some k_ ≠ (u4 : Value).ownBlock) (Kd.R_types (Kd.R_apart' (HO_7.out) (Kd.S_typed HO_4.out) (by decide)) BK845.out (by decide)) (fun k_ hk => ⟨⟨hk.1.1, hk.2⟩, hk.1.2⟩))) (fun _ h_ => h_))); (case aB => exact (by repeat (first | (with_reducible first | exact HB.out | apply below_alloc | apply pw_below_drewN | apply below_drew1 | refine below_set ?_ GE831.out | refine below_set ?_ GE845.out) | exact HB.out))); (case aF => exact (fun k_ hk => ⟨Kd.fresh' (Kd.R_lt (by (with_reducible repeat (first | apply Kd.R_alloc | apply Kd.R_drewN | apply Kd.R_drew)); exact HO_846000.out)) k_ hk, Kd.freshB (g := gb845) (o := .cells #[.slice Ao17 t839.length co17] 26 (0, 0)) (by (with_reducible repeat (first | refine blk_drewN ?_ _ | refine blk_drew ?_ | refine blk_alloc ?_ _)); exact BK845.out) k_ hk⟩)); (case aO => exact (by (with_reducible repeat (first | apply Kd.S_alloc | apply Kd.S_drewN | apply Kd.S_drew)); exact Kd.S_mono HO_4.out (fun k_ hk => ⟨⟨hk.2.1, hk.2.2⟩, fun e_ => hk.1 e_⟩))); (case aS => exact (below_size (by repeat (first | (with_reducible first | exact HB.out | apply below_alloc | apply pw_below_drewN | apply below_drew1 | refine below_set ?_ GE831.out | refine below_set ?_ GE845.out) | exact HB.out)))); (case aL => have := LMc42.out; omega); intro v855 w43 ho hb hg hat; rw [← Ny854.out] at ho; have n0_ := Aside0.mk (Kd.R_over' (by (with_reducible repeat (first | apply Kd.R_alloc | apply Kd.R_drewN | apply Kd.R_drew)); exact HO_5.out) (Kd.S_typed (by (with_reducible repeat (first | apply Kd.S_alloc | apply Kd.S_drewN | apply Kd.S_drew)); exact HO_4.out)) (by decide) hg); have n1_ := Aside0.mk (Kd.R_over' (by (with_reducible repeat (first | apply Kd.R_alloc | apply Kd.R_drewN | apply Kd.R_drew)); exact HO_846000.out) (Kd.S_typed (by (with_reducible repeat (first | apply Kd.S_alloc | apply Kd.S_drewN | apply Kd.S_drew)); exact HO_4.out)) (by decide) hg); have n2_ := Aside0.mk (blk_grown (g := gb831) (o := .cells #[.int .i64 a0_0, .slice A0_1 l0_1.length c0_1] 29 (0, 0)) (by (with_reducible repeat (first | refine blk_drewN ?_ _ | refine blk_drew ?_ | refine blk_alloc ?_ _)); exact BK831.out) hg (Kd.S_ne HO_4.out BK831.out (by decide))); have n3_ := Aside0.mk (blk_grown (g := gb845) (o := .cells #[.slice Ao17 t839.length co17] 26 (0, 0)) (by (with_reducible repeat (first | refine blk_drewN ?_ _ | refine blk_drew ?_ | refine blk_alloc ?_ _)); exact BK845.out) hg (Kd.S_away HO_4.out (fun _ hk => hk.2.2))); have n4_ := Aside0.mk (hb); have n5_ := Aside0.mk (ho); clear HO_5; clear HO_846000; clear BK831; clear BK845; clear HB; clear HO_4; clear HO_7; have HO_5 := n0_; have HO_846000 := n1_; have BK831 := n2_; have BK845 := n3_; have HB := n4_; have HO856 := n5_; clear n0_ n1_ n2_ n3_ n4_ n5_; clear ho hb hg hat))
             (try simp only [← hl5_3])
             go_roundg k3
             case measure => have := HK1.out; have := HK2.out; have := HK3.out; omega
             case rel => exact ⟨(y854), (x5_3), H', ⟨by have := HK1.out; have := HK2.out; have := HK3.out; omega⟩, ⟨by (try simp only [hl5_3]); (with_reducible repeat (first | apply Kd.S_alloc | apply Kd.S_drewN | apply Kd.S_drew)); exact Kd.S_mono HO856.out (fun _ hk => trivial)⟩, ⟨by (try simp only [hl5_3]); (with_reducible repeat (first | apply Kd.R_alloc | apply Kd.R_drewN | apply Kd.R_drew)); exact HO_5.out⟩, ⟨by (try simp only [hl5_3]); (with_reducible repeat (first | refine blk_drewN ?_ _ | refine blk_drew ?_ | refine blk_alloc ?_ _)); exact BK831.out⟩, ⟨by repeat (first | (with_reducible first | exact HB.out | apply below_alloc | apply pw_below_drewN | apply below_drew1 | refine below_set ?_ GE831.out | refine below_set ?_ GE845.out) | exact HB.out)⟩⟩
            ·rw [if_neg c42] at H
             exact absurd H (by simp)
  ·replace c3 := Bool.eq_false_iff.mpr c3
   subst c3
   have H1 : (some (([] : List (List Int)), false)) = some (r1, r2) := by rw [if_neg (show ¬ (false = true) by decide)] at H; exact H
   clear H
   have H := H1
   clear H1
   simp only [Option.some.injEq, Prod.mk.injEq] at H
   obtain ⟨rfl, rfl⟩ := H
   go_enter Try.func50, Try.ntmps50
   go_wp2_with (first | ((with_reducible refine gate_dst (N := 1) rfl ?_); refine box_event ?hg (N := 1) ?hd (cs := #[.int .i64 a0_0, .slice A0_1 l0_1.length c0_1]) (t := 29) ?hr ?_; (case hd => rfl); (case hg => rfl); (case hr => first | (go_simp; done) | (go_simp; rfl)); intro gb831 hg w44 hbox hb; have n0_ := Aside0.mk (below_step (by repeat (first | (with_reducible first | exact HB.out | apply below_alloc | apply pw_below_drewN | apply below_drew1) | exact HB.out)) hb); have n1_ := Aside0.mk (hbox); have n2_ := Aside0.mk ((by rw [hg]; exact (below_size (by repeat (first | (with_reducible first | exact HB.out | apply below_alloc | apply pw_below_drewN | apply below_drew1) | exact HB.out))) : w.heap.size ≤ gb831)); have n3_ := Aside0.mk ((by rw [hg]; exact (below_size (by repeat (first | (with_reducible first | exact HB.out | apply below_alloc | apply pw_below_drewN | apply below_drew1) | exact HB.out))) : w.heap.size ≤ gb831)); clear HB; have HB := n0_; have BK831 := n1_; have GW831 := n2_; have GE831 := n3_; clear n0_ n1_ n2_ n3_; clear hb hbox hg; have hcz45_0 : w44.cell? ⟨gb831, 0, none⟩ = some (.int .i64 a0_0) := (blk_cell BK831.out 0).trans rfl; have hcz45_1 : w44.cell? ⟨gb831, 1, none⟩ = some (.slice A0_1 l0_1.length c0_1) := (blk_cell BK831.out 1).trans rfl; have hfz45_0 := blk_frozen BK831.out 0; have hfz45_1 := blk_frozen BK831.out 1) | ((with_reducible refine gate_callee (f := 71) rfl ?_); refine goesL_ (some 13) rfl rfl Try.func71 (by kernel_rfl) rfl #[.agg #[.int .i64 a0_0, .slice A0_1 l0_1.length c0_1]] rfl (by (try simp only [List.map_toArray, List.map_cons, List.map_nil]); first | done | rfl | (simp only [List.length_drop, List.length_take]; rfl)) ?_; (with_reducible refine (impl_IsHyper.calls k a0_0 _ _ l0_1 false _ ?side1 ?side2 A2.out).mono ?_); (case side1 => repeat (first | exact (Kd.C_below HR0_1.out HB.out) | (with_reducible refine Kd.C_alloc ?_ _) | (with_reducible refine Kd.C_drewN ?_ _) | (with_reducible refine Kd.C_drew ?_))); (case side2 => exact HC0_1.out); rintro e w46 ⟨rfl, hb⟩; refine ⟨_, rfl, ?_⟩; have n0_ := Aside0.mk (blk_below (g := gb831) (o := .cells #[.int .i64 a0_0, .slice A0_1 l0_1.length c0_1] 29 (0, 0)) (by (with_reducible repeat (first | refine blk_drewN ?_ _ | refine blk_drew ?_ | refine blk_alloc ?_ _)); exact BK831.out) hb); have n1_ := Aside0.mk (below_step (by repeat (first | (with_reducible first | exact HB.out | apply below_alloc | apply pw_below_drewN | apply below_drew1 | refine below_set ?_ GE831.out) | exact HB.out)) hb); clear BK831; clear HB; have BK831 := n0_; have HB := n1_; clear n0_ n1_; (try clear hb); (try clear hb2); (try clear hk); (try clear hi)))
   go_ret2
   exact ⟨_, by first | rfl | (simp [errW_none, errW_some] <;> rfl) | (simp [*, errW_none, errW_some] <;> rfl), by first | exact Kd.S_nil _ _ _ _ _ | exact Kd.N_nil _ _ _ _ _ | exact Kd.V_nil _ _ _ _ _ | exact Kd.Q_nil _ _ _ _ _ | exact Kd.R_nil _ _ _ _ _, by repeat (first | (with_reducible first | exact HB.out | apply below_alloc | apply pw_below_drewN | apply below_drew1 | refine below_set ?_ GE831.out) | exact HB.out)⟩
end Go.Proofs.Ytlcedciocmjggaa.X
