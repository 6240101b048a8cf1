/- Written by a program of this session: what functions of the given program compute, and that their calls do so. -/
import Derived.Test.YthafknjaljhibaaXx0
import Derived.Test.YthafknjaljhibaaXg1a
import Derived.Test.YthafknjaljhibaaXg1b
import Derived.Test.YthafknjaljhibaaXg1c
import Derived.Test.YthafknjaljhibaaXs
namespace Go.Proofs.Ythafknjaljhibaa.X
open Go.RowKit Go.Proofs.YthafknjaljhibaaW.PrintWords Go.Proofs.YthafknjaljhibaaW.PrintLast Go.Proofs.YthafknjaljhibaaW.PrintMore
attribute [local go_sem] max2_int min2_int max_two min_two max_three min_three max_four min_four   -- for this text's walks alone
set_option linter.unusedVariables false
set_option linter.unusedSimpArgs false
/-! ### laws_heldIntSS: function 12 -/
def laws_heldIntSS.l0 : Nat → List (List Int) → Int → Int → Option (Int)
  | 0, _, _, _ => none
  | k + 1, x0, x1, x5 => if x5 < (x0.length : Int) then (if 0 ≤ x5 then ((laws_heldIntS.f k (rd_L1 x0 x5) x1).bind fun t273 => (if t273 < 0 then (some (-1)) else (laws_heldIntSS.l0 k x0 t273 (wrap64 (x5 + 1))))) else (none)) else (some x1)
def laws_heldIntSS.f (k : Nat) (l0 : List (List Int)) (a1 : Int) : Option (Int) := laws_heldIntSS.l0 k l0 a1 0
theorem laws_heldIntSS.mono_l : ∀ k, (∀ y0 y1 y2, LeO (laws_heldIntSS.l0 k y0 y1 y2) (laws_heldIntSS.l0 (k + 1) y0 y1 y2))
  | 0 => fun _ _ _ r h => by simp [laws_heldIntSS.l0] at h
  | k + 1 => by
    have ih0 := laws_heldIntSS.mono_l k
    · intro y0 y1 y2
      unfold laws_heldIntSS.l0
      repeat' first
      | (with_reducible exact ih0 _ _ _)
      | (with_reducible exact laws_heldIntS.mono _ _ _)
      | (with_reducible exact LeO.refl _)
      | (with_reducible exact LeO.none _)
      | (with_reducible refine LeO.ite ?_ ?_)
      | (with_reducible refine LeO.bind ?_ (fun _ => ?_))
      | exact ih0 _ _ _
      | exact laws_heldIntS.mono _ _ _
      | exact LeO.none _
      | refine LeO.ite ?_ ?_
      | refine LeO.bind ?_ (fun _ => ?_)
theorem laws_heldIntSS.mono : ∀ a0 a1 k, LeO (laws_heldIntSS.f k a0 a1) (laws_heldIntSS.f (k + 1) a0 a1) := by
  intro a0 a1 k
  have ih0 := laws_heldIntSS.mono_l k
  unfold laws_heldIntSS.f
  repeat' first
      | (with_reducible exact ih0 _ _ _)
      | (with_reducible exact laws_heldIntS.mono _ _ _)
      | (with_reducible exact LeO.refl _)
      | (with_reducible exact LeO.none _)
      | (with_reducible refine LeO.ite ?_ ?_)
      | (with_reducible refine LeO.bind ?_ (fun _ => ?_))
      | exact ih0 _ _ _
      | exact laws_heldIntS.mono _ _ _
      | exact LeO.none _
      | refine LeO.ite ?_ ?_
      | refine LeO.bind ?_ (fun _ => ?_)
noncomputable def laws_heldIntSS.L0 (y0 : List (List Int)) (y1 : Int) (y2 : Int) : Option (Int) := lim fun k => laws_heldIntSS.l0 k y0 y1 y2
theorem laws_heldIntSS.L0_sup (y0 : List (List Int)) (y1 : Int) (y2 : Int) : Sup (fun k => laws_heldIntSS.l0 k y0 y1 y2) (laws_heldIntSS.L0 y0 y1 y2) := Sup.of_mono fun k => laws_heldIntSS.mono_l k y0 y1 y2
noncomputable def laws_heldIntSS.F (l0 : List (List Int)) (a1 : Int) : Option (Int) := lim fun k => laws_heldIntSS.f k l0 a1
theorem laws_heldIntSS.F_sup (l0 : List (List Int)) (a1 : Int) : Sup (fun k => laws_heldIntSS.f k l0 a1) (laws_heldIntSS.F l0 a1) := Sup.of_mono fun k => laws_heldIntSS.mono l0 a1 k
theorem laws_heldIntSS.L0_eq (x0 : List (List Int)) (x1 : Int) (x5 : Int) : laws_heldIntSS.L0 x0 x1 x5 = if x5 < (x0.length : Int) then (if 0 ≤ x5 then ((laws_heldIntS.F (rd_L1 x0 x5) x1).bind fun t273 => (if t273 < 0 then (some (-1)) else (laws_heldIntSS.L0 x0 t273 (wrap64 (x5 + 1))))) else (none)) else (some x1) := by
  refine Sup.unique (laws_heldIntSS.L0_sup x0 x1 x5) (Sup.shift (fun k => laws_heldIntSS.mono_l k x0 x1 x5) (Sup.congr (g' := fun k => if x5 < (x0.length : Int) then (if 0 ≤ x5 then ((laws_heldIntS.f k (rd_L1 x0 x5) x1).bind fun t273 => (if t273 < 0 then (some (-1)) else (laws_heldIntSS.l0 k x0 t273 (wrap64 (x5 + 1))))) else (none)) else (some x1)) (fun k => by first | rfl | simp only [laws_heldIntSS.l0]) ?_))
  repeat' first
    | (with_reducible exact laws_heldIntSS.L0_sup _ _ _)
    | (with_reducible exact laws_heldIntS.F_sup _ _)
    | (with_reducible refine Sup.ite ?_ ?_)
    | (with_reducible refine Sup.bind ?_ (fun _ => ?_))
    | (with_reducible exact Sup.const _)
    | exact laws_heldIntSS.L0_sup _ _ _
    | exact laws_heldIntS.F_sup _ _
    | exact Sup.const _
theorem laws_heldIntSS.F_eq (l0 : List (List Int)) (a1 : Int) : laws_heldIntSS.F l0 a1 = laws_heldIntSS.L0 l0 a1 0 := by
  refine Sup.unique (laws_heldIntSS.F_sup l0 a1) (Sup.congr (g' := fun k => laws_heldIntSS.l0 k l0 a1 0) (fun k => by first | rfl | simp only [laws_heldIntSS.f]) ?_)
  repeat' first
    | (with_reducible exact laws_heldIntSS.L0_sup _ _ _)
    | (with_reducible exact laws_heldIntS.F_sup _ _)
    | (with_reducible refine Sup.ite ?_ ?_)
    | (with_reducible refine Sup.bind ?_ (fun _ => ?_))
    | (with_reducible exact Sup.const _)
    | exact laws_heldIntSS.L0_sup _ _ _
    | exact laws_heldIntS.F_sup _ _
    | exact Sup.const _
set_option maxHeartbeats 8000000 in
set_option maxRecDepth 100000 in
theorem laws_heldIntSS.calls (k : Nat) (A0 : Option Addr) (c0 : Nat) (l0 : List (List Int)) (a1 : Int) (r : Int) (w : World) (hr0 : Kd.C (Kd.slice 3 (Kd.int .i64)) w A0 l0.length l0) (hc0 : l0.length ≤ c0) (h : laws_heldIntSS.f k l0 a1 = some r) :
    Calls Try.prog 12 #[.slice A0 l0.length c0, .int .i64 a1] w fun e w' => e = .returned (.int .i64 r) ∧ Drawn0 w w' := by
  have hu36 := Try.underlying36
  have HR0 := Aside0.mk hr0
  have HC0 := Aside0.mk hc0
  clear hr0 hc0
  have H : (laws_heldIntSS.l0 k l0 a1 0) = some r := h
  clear h
  have H' := Aside0.mk H
  clear H
  go_enter Try.func12, Try.ntmps12
  go_wp2
  go_loopg [1, 5] k (fun kq v1 v5 w' => ∃ (x1_1 : Int) (x5_1 : Int), v1 = .int .i64 x1_1 ∧ v5 = .int .i64 x5_1 ∧ Aside0 (laws_heldIntSS.l0 kq l0 x1_1 x5_1 = some r) ∧ Aside0 (kq ≤ k) ∧ Drawn0 w w')
  case atStart => exact ⟨(a1), (0), rg_, rg_, H', ⟨Nat.le_refl _⟩, by repeat (first | exact Drawn0.refl _ | apply Drawn0.step)⟩
  case round =>
   clear H'
   try clear c1
   try clear p2
   obtain ⟨x1_1, x5_1, rfl, rfl, HA, HK1, ⟨m1, rfl⟩⟩ := hrel
   cases gk with
   | zero => exact absurd HA.out (by simp [laws_heldIntSS.l0])
   | succ k1 =>
    have H := HA.out
    clear HA
    simp only [laws_heldIntSS.l0] at H
    by_cases c3 : x5_1 < (l0.length : Int)
    ·rw [if_pos c3] at H
     have c3b0 : decide (x5_1 < (l0.length : Int)) = true := decide_eq_true c3
     clear c3
     by_cases c4 : 0 ≤ x5_1
     ·rw [if_pos c4] at H
      have c4b0 : decide (0 ≤ x5_1) = true := decide_eq_true c4
      clear c4
      replace H := Option.bind_eq_some_iff.mp H
      obtain ⟨t273, A50, H⟩ := H
      replace H : (if t273 < 0 then (some (-1)) else (laws_heldIntSS.l0 k1 l0 t273 (wrap64 (x5_1 + 1)))) = some r := H
      have A5 := Aside0.mk A50
      clear A50
      by_cases c6 : t273 < 0
      ·rw [if_pos c6] at H
       have c6b0 : decide (t273 < 0) = true := decide_eq_true c6
       clear c6
       obtain rfl := Option.some.inj H
       have p272 : 0 ≤ (x5_1 : Int) := of_decide_eq_true as_
       have q272 : x5_1 < (l0.length : Int) := of_decide_eq_true as_
       obtain ⟨ad272, A272_0, c272_0, e272, hx272_0, hl272_0, hi272_0⟩ := at_L1 HR0.out x5_1 p272 q272
       cases e272
       have HR272_0 := Aside0.mk hi272_0
       have HC272_0 := Aside0.mk hl272_0
       clear hi272_0 hl272_0
       replace p272 := eq_true p272
       replace q272 := eq_true q272
       go_wp2_with (first | ((with_reducible refine gate_callee (f := 21) rfl ?_); refine gl_ 17 Try.func21 #[.slice A272_0 (rd_L1 l0 x5_1).length c272_0, .int .i64 x1_1] ?_; (with_reducible refine (laws_heldIntS.calls k1 _ _ (rd_L1 l0 x5_1) x1_1 t273 _ ?side1 ?side2 A5.out).mono ?_); (case side1 => exact kE_ HR272_0); (case side2 => exact HC272_0.out); rintro e w' ⟨rfl, ⟨nd, rfl⟩⟩; refine ⟨_, rfl, ?_⟩))
       go_ret
       exact ⟨rg_, by repeat (first | exact Drawn0.refl _ | apply Drawn0.step)⟩
      ·rw [if_neg c6] at H
       have c6b0 : decide (t273 < 0) = false := decide_eq_false c6
       clear c6
       have H' := Aside0.mk H
       clear H
       have p272 : 0 ≤ (x5_1 : Int) := of_decide_eq_true as_
       have q272 : x5_1 < (l0.length : Int) := of_decide_eq_true as_
       obtain ⟨ad272, A272_0, c272_0, e272, hx272_0, hl272_0, hi272_0⟩ := at_L1 HR0.out x5_1 p272 q272
       cases e272
       have HR272_0 := Aside0.mk hi272_0
       have HC272_0 := Aside0.mk hl272_0
       clear hi272_0 hl272_0
       replace p272 := eq_true p272
       replace q272 := eq_true q272
       go_wp2_with (first | ((with_reducible refine gate_callee (f := 21) rfl ?_); refine gl_ 17 Try.func21 #[.slice A272_0 (rd_L1 l0 x5_1).length c272_0, .int .i64 x1_1] ?_; (with_reducible refine (laws_heldIntS.calls k1 _ _ (rd_L1 l0 x5_1) x1_1 t273 _ ?side1 ?side2 A5.out).mono ?_); (case side1 => exact kE_ HR272_0); (case side2 => exact HC272_0.out); rintro e w' ⟨rfl, ⟨nd, rfl⟩⟩; refine ⟨_, rfl, ?_⟩))
       go_roundg k1
       case measure => have := HK1.out; omega
       case rel => exact ⟨(t273), (wrap64 (x5_1 + 1)), rg_, rg_, H', ⟨by have := HK1.out; omega⟩, by repeat (first | exact Drawn0.refl _ | apply Drawn0.step)⟩
     ·rw [if_neg c4] at H
      exact absurd H (by simp)
    ·rw [if_neg c3] at H
     have c3b0 : decide (x5_1 < (l0.length : Int)) = false := decide_eq_false c3
     clear c3
     obtain rfl := Option.some.inj H
     go_wp2
     go_ret
     exact ⟨rg_, by repeat (first | exact Drawn0.refl _ | apply Drawn0.step)⟩
/-! ### laws_FnExactHyperParts: function 3 -/
def laws_FnExactHyperParts.f (k : Nat) (a0_0 : Int) (l0_1 : List (List Int)) : Option (Bool) := (laws_szHyper.f k a0_0 l0_1 1048576).bind fun t275 => (if t275 < 0 then (some true) else ((laws_toHyper.f k a0_0 l0_1).bind fun bt276 => ((spec_HyperParts.f k bt276.1 bt276.2).bind fun bt280 => ((laws_toHyper.f k a0_0 l0_1).bind fun bt284 => ((impl_HyperParts.f k bt284.1 bt284.2).bind fun bt289 => ((laws_eqIntSS.f k bt289.1 bt280.1).bind fun t293 => (if t293 = true then (if (bt289.2 != bt280.2) = true then (none) else ((laws_toHyper.f k a0_0 l0_1).bind fun bt294 => ((laws_eqHyper.f k bt284.1 bt284.2 bt294.1 bt294.2).bind fun t298 => (if t298 = true then ((laws_markHyper.f k bt284.1 bt284.2 1).bind fun bt299 => (if bt299.1 < 0 then (none) else ((laws_eqIntSS.f k bt289.1 bt280.1).bind fun t301 => (if t301 = true then ((laws_markIntSS.f k bt289.1 1).bind fun bt302 => ((laws_heldIntSS.f k bt302.2 1).bind fun t304 => (if t304 < 0 then (none) else (if t304 = bt302.1 then ((laws_toHyper.f k a0_0 l0_1).bind fun bt305 => ((impl_HyperParts.f k bt305.1 bt305.2).bind fun bt309 => ((laws_eqIntSS.f k bt309.1 bt280.1).bind fun t313 => (if t313 = true then (if (bt309.2 != bt280.2) = true then (none) else ((laws_heldIntSS.f k bt302.2 1).bind fun t314 => (if t314 < 0 then (none) else (if t314 = bt302.1 then (some true) else (none))))) else (none))))) else (none))))) else (none))))) else (none))))) else (none))))))))
theorem laws_FnExactHyperParts.mono : ∀ a0 a1 k, LeO (laws_FnExactHyperParts.f k a0 a1) (laws_FnExactHyperParts.f (k + 1) a0 a1) := by
  intro a0 a1 k
  unfold laws_FnExactHyperParts.f
  repeat' first
      | (with_reducible exact impl_HyperParts.mono _ _ _)
      | (with_reducible exact laws_eqHyper.mono _ _ _ _ _)
      | (with_reducible exact laws_eqIntSS.mono _ _ _)
      | (with_reducible exact laws_heldIntSS.mono _ _ _)
      | (with_reducible exact laws_markHyper.mono _ _ _ _)
      | (with_reducible exact laws_markIntSS.mono _ _ _)
      | (with_reducible exact laws_szHyper.mono _ _ _ _)
      | (with_reducible exact laws_toHyper.mono _ _ _)
      | (with_reducible exact spec_HyperParts.mono _ _ _)
      | (with_reducible exact LeO.refl _)
      | (with_reducible exact LeO.none _)
      | (with_reducible refine LeO.ite ?_ ?_)
      | (with_reducible refine LeO.bind ?_ (fun _ => ?_))
      | exact impl_HyperParts.mono _ _ _
      | exact laws_eqHyper.mono _ _ _ _ _
      | exact laws_eqIntSS.mono _ _ _
      | exact laws_heldIntSS.mono _ _ _
      | exact laws_markHyper.mono _ _ _ _
      | exact laws_markIntSS.mono _ _ _
      | exact laws_szHyper.mono _ _ _ _
      | exact laws_toHyper.mono _ _ _
      | exact spec_HyperParts.mono _ _ _
      | exact LeO.none _
      | refine LeO.ite ?_ ?_
      | refine LeO.bind ?_ (fun _ => ?_)
noncomputable def laws_FnExactHyperParts.F (a0_0 : Int) (l0_1 : List (List Int)) : Option (Bool) := lim fun k => laws_FnExactHyperParts.f k a0_0 l0_1
theorem laws_FnExactHyperParts.F_sup (a0_0 : Int) (l0_1 : List (List Int)) : Sup (fun k => laws_FnExactHyperParts.f k a0_0 l0_1) (laws_FnExactHyperParts.F a0_0 l0_1) := Sup.of_mono fun k => laws_FnExactHyperParts.mono a0_0 l0_1 k
theorem laws_FnExactHyperParts.F_eq (a0_0 : Int) (l0_1 : List (List Int)) : laws_FnExactHyperParts.F a0_0 l0_1 = (laws_szHyper.F a0_0 l0_1 1048576).bind fun t275 => (if t275 < 0 then (some true) else ((laws_toHyper.F a0_0 l0_1).bind fun bt276 => ((spec_HyperParts.F bt276.1 bt276.2).bind fun bt280 => ((laws_toHyper.F a0_0 l0_1).bind fun bt284 => ((impl_HyperParts.F bt284.1 bt284.2).bind fun bt289 => ((laws_eqIntSS.F bt289.1 bt280.1).bind fun t293 => (if t293 = true then (if (bt289.2 != bt280.2) = true then (none) else ((laws_toHyper.F a0_0 l0_1).bind fun bt294 => ((laws_eqHyper.F bt284.1 bt284.2 bt294.1 bt294.2).bind fun t298 => (if t298 = true then ((laws_markHyper.F bt284.1 bt284.2 1).bind fun bt299 => (if bt299.1 < 0 then (none) else ((laws_eqIntSS.F bt289.1 bt280.1).bind fun t301 => (if t301 = true then ((laws_markIntSS.F bt289.1 1).bind fun bt302 => ((laws_heldIntSS.F bt302.2 1).bind fun t304 => (if t304 < 0 then (none) else (if t304 = bt302.1 then ((laws_toHyper.F a0_0 l0_1).bind fun bt305 => ((impl_HyperParts.F bt305.1 bt305.2).bind fun bt309 => ((laws_eqIntSS.F bt309.1 bt280.1).bind fun t313 => (if t313 = true then (if (bt309.2 != bt280.2) = true then (none) else ((laws_heldIntSS.F bt302.2 1).bind fun t314 => (if t314 < 0 then (none) else (if t314 = bt302.1 then (some true) else (none))))) else (none))))) else (none))))) else (none))))) else (none))))) else (none)))))))) := by
  refine Sup.unique (laws_FnExactHyperParts.F_sup a0_0 l0_1) (Sup.congr (g' := fun k => (laws_szHyper.f k a0_0 l0_1 1048576).bind fun t275 => (if t275 < 0 then (some true) else ((laws_toHyper.f k a0_0 l0_1).bind fun bt276 => ((spec_HyperParts.f k bt276.1 bt276.2).bind fun bt280 => ((laws_toHyper.f k a0_0 l0_1).bind fun bt284 => ((impl_HyperParts.f k bt284.1 bt284.2).bind fun bt289 => ((laws_eqIntSS.f k bt289.1 bt280.1).bind fun t293 => (if t293 = true then (if (bt289.2 != bt280.2) = true then (none) else ((laws_toHyper.f k a0_0 l0_1).bind fun bt294 => ((laws_eqHyper.f k bt284.1 bt284.2 bt294.1 bt294.2).bind fun t298 => (if t298 = true then ((laws_markHyper.f k bt284.1 bt284.2 1).bind fun bt299 => (if bt299.1 < 0 then (none) else ((laws_eqIntSS.f k bt289.1 bt280.1).bind fun t301 => (if t301 = true then ((laws_markIntSS.f k bt289.1 1).bind fun bt302 => ((laws_heldIntSS.f k bt302.2 1).bind fun t304 => (if t304 < 0 then (none) else (if t304 = bt302.1 then ((laws_toHyper.f k a0_0 l0_1).bind fun bt305 => ((impl_HyperParts.f k bt305.1 bt305.2).bind fun bt309 => ((laws_eqIntSS.f k bt309.1 bt280.1).bind fun t313 => (if t313 = true then (if (bt309.2 != bt280.2) = true then (none) else ((laws_heldIntSS.f k bt302.2 1).bind fun t314 => (if t314 < 0 then (none) else (if t314 = bt302.1 then (some true) else (none))))) else (none))))) else (none))))) else (none))))) else (none))))) else (none))))))))) (fun k => by first | rfl | simp only [laws_FnExactHyperParts.f]) ?_)
  repeat' first
    | (with_reducible exact laws_szHyper.F_sup _ _ _)
    | (with_reducible exact spec_HyperParts.F_sup _ _)
    | (with_reducible exact laws_toHyper.F_sup _ _)
    | (with_reducible exact impl_HyperParts.F_sup _ _)
    | (with_reducible exact laws_eqIntSS.F_sup _ _)
    | (with_reducible exact laws_eqHyper.F_sup _ _ _ _)
    | (with_reducible exact laws_markHyper.F_sup _ _ _)
    | (with_reducible exact laws_markIntSS.F_sup _ _)
    | (with_reducible exact laws_heldIntSS.F_sup _ _)
    | (with_reducible refine Sup.ite ?_ ?_)
    | (with_reducible refine Sup.bind ?_ (fun _ => ?_))
    | (with_reducible exact Sup.const _)
    | exact laws_szHyper.F_sup _ _ _
    | exact spec_HyperParts.F_sup _ _
    | exact laws_toHyper.F_sup _ _
    | exact impl_HyperParts.F_sup _ _
    | exact laws_eqIntSS.F_sup _ _
    | exact laws_eqHyper.F_sup _ _ _ _
    | exact laws_markHyper.F_sup _ _ _
    | exact laws_markIntSS.F_sup _ _
    | exact laws_heldIntSS.F_sup _ _
    | exact Sup.const _
set_option maxHeartbeats 8000000 in
set_option maxRecDepth 100000 in
theorem laws_FnExactHyperParts.calls (k : Nat) (a0_0 : Int) (A0_1 : Option Addr) (c0_1 : Nat) (l0_1 : List (List Int)) (r : Bool) (w : World) (hr0_1 : Kd.C (Kd.slice 3 (Kd.int .i64)) w A0_1 l0_1.length l0_1) (hc0_1 : l0_1.length ≤ c0_1) (h : laws_FnExactHyperParts.f k a0_0 l0_1 = some r) :
    Calls Try.prog 3 #[.agg #[.int .i64 a0_0, .slice A0_1 l0_1.length c0_1]] w fun e w' => e = .returned (.bool r) ∧ Below w.heap.size w w' := by
  have hu24 := Try.underlying24
  have hu28 := Try.underlying28
  have HR0_1 := Aside0.mk hr0_1
  have HC0_1 := Aside0.mk hc0_1
  clear hr0_1 hc0_1
  have HB := Aside0.mk (Below.refl w.heap.size w)
  have H : ((laws_szHyper.f k a0_0 l0_1 1048576).bind fun t275 => (if t275 < 0 then (some true) else ((laws_toHyper.f k a0_0 l0_1).bind fun bt276 => ((spec_HyperParts.f k bt276.1 bt276.2).bind fun bt280 => ((laws_toHyper.f k a0_0 l0_1).bind fun bt284 => ((impl_HyperParts.f k bt284.1 bt284.2).bind fun bt289 => ((laws_eqIntSS.f k bt289.1 bt280.1).bind fun t293 => (if t293 = true then (if (bt289.2 != bt280.2) = true then (none) else ((laws_toHyper.f k a0_0 l0_1).bind fun bt294 => ((laws_eqHyper.f k bt284.1 bt284.2 bt294.1 bt294.2).bind fun t298 => (if t298 = true then ((laws_markHyper.f k bt284.1 bt284.2 1).bind fun bt299 => (if bt299.1 < 0 then (none) else ((laws_eqIntSS.f k bt289.1 bt280.1).bind fun t301 => (if t301 = true then ((laws_markIntSS.f k bt289.1 1).bind fun bt302 => ((laws_heldIntSS.f k bt302.2 1).bind fun t304 => (if t304 < 0 then (none) else (if t304 = bt302.1 then ((laws_toHyper.f k a0_0 l0_1).bind fun bt305 => ((impl_HyperParts.f k bt305.1 bt305.2).bind fun bt309 => ((laws_eqIntSS.f k bt309.1 bt280.1).bind fun t313 => (if t313 = true then (if (bt309.2 != bt280.2) = true then (none) else ((laws_heldIntSS.f k bt302.2 1).bind fun t314 => (if t314 < 0 then (none) else (if t314 = bt302.1 then (some true) else (none))))) else (none))))) else (none))))) else (none))))) else (none))))) else (none))))))))) = some r := h
  clear h
  replace H := Option.bind_eq_some_iff.mp H
  obtain ⟨t275, A20, H⟩ := H
  replace H : (if t275 < 0 then (some true) else ((laws_toHyper.f k a0_0 l0_1).bind fun bt276 => ((spec_HyperParts.f k bt276.1 bt276.2).bind fun bt280 => ((laws_toHyper.f k a0_0 l0_1).bind fun bt284 => ((impl_HyperParts.f k bt284.1 bt284.2).bind fun bt289 => ((laws_eqIntSS.f k bt289.1 bt280.1).bind fun t293 => (if t293 = true then (if (bt289.2 != bt280.2) = true then (none) else ((laws_toHyper.f k a0_0 l0_1).bind fun bt294 => ((laws_eqHyper.f k bt284.1 bt284.2 bt294.1 bt294.2).bind fun t298 => (if t298 = true then ((laws_markHyper.f k bt284.1 bt284.2 1).bind fun bt299 => (if bt299.1 < 0 then (none) else ((laws_eqIntSS.f k bt289.1 bt280.1).bind fun t301 => (if t301 = true then ((laws_markIntSS.f k bt289.1 1).bind fun bt302 => ((laws_heldIntSS.f k bt302.2 1).bind fun t304 => (if t304 < 0 then (none) else (if t304 = bt302.1 then ((laws_toHyper.f k a0_0 l0_1).bind fun bt305 => ((impl_HyperParts.f k bt305.1 bt305.2).bind fun bt309 => ((laws_eqIntSS.f k bt309.1 bt280.1).bind fun t313 => (if t313 = true then (if (bt309.2 != bt280.2) = true then (none) else ((laws_heldIntSS.f k bt302.2 1).bind fun t314 => (if t314 < 0 then (none) else (if t314 = bt302.1 then (some true) else (none))))) else (none))))) else (none))))) else (none))))) else (none))))) else (none)))))))) = some r := H
  have A2 := Aside0.mk A20
  clear A20
  by_cases c3 : t275 < 0
  ·rw [if_pos c3] at H
   have c3b0 : decide (t275 < 0) = true := decide_eq_true c3
   clear c3
   obtain rfl := Option.some.inj H
   go_enter Try.func3, Try.ntmps3
   go_wp2_with (first | ((with_reducible refine gate_dst (N := 1) rfl ?_); refine bx_ 1 #[.int .i64 a0_0, .slice A0_1 l0_1.length c0_1] 24 ?_; intro gb274 hg w4 hbox hb; have BK274 := Aside0.mk (hbox); have GW274 := Aside0.mk ((ge_ hg)); have GE274 := Aside0.mk ((ge_ hg)); replace HB := Aside0.mk (below_step hB_ hb); clear hb hbox hg; have hcz5_0 : w4.cell? ⟨gb274, 0, none⟩ = some (.int .i64 a0_0) := (blk_cell BK274.out 0).trans rfl; have hcz5_1 : w4.cell? ⟨gb274, 1, none⟩ = some (.slice A0_1 l0_1.length c0_1) := (blk_cell BK274.out 1).trans rfl; have hfz5_0 := blk_frozen BK274.out 0; have hfz5_1 := blk_frozen BK274.out 1) | ((with_reducible refine gate_callee (f := 4) rfl ?_); refine gl_ 16 Try.func4 #[.agg #[.int .i64 a0_0, .slice A0_1 l0_1.length c0_1], .int .i64 1048576] ?_; (with_reducible refine (laws_szHyper.calls k a0_0 _ _ l0_1 1048576 t275 _ ?side1 ?side2 A2.out).mono ?_); (case side1 => exact kC_ HR0_1); (case side2 => exact HC0_1.out); rintro e w6 ⟨rfl, hb⟩; refine ⟨_, rfl, ?_⟩; replace BK274 := Aside0.mk (blk_below (kB_ BK274) hb); replace HB := Aside0.mk (below_step hB_ hb); (try clear hb); (try clear hb2); (try clear hk); (try clear hi)))
   go_ret
   exact ⟨rf_, hB_⟩
  ·rw [if_neg c3] at H
   have c3b0 : decide (t275 < 0) = false := decide_eq_false c3
   clear c3
   replace H := Option.bind_eq_some_iff.mp H
   obtain ⟨⟨t276, t277⟩, A70, H⟩ := H
   replace H : ((spec_HyperParts.f k t276 t277).bind fun bt280 => ((laws_toHyper.f k a0_0 l0_1).bind fun bt284 => ((impl_HyperParts.f k bt284.1 bt284.2).bind fun bt289 => ((laws_eqIntSS.f k bt289.1 bt280.1).bind fun t293 => (if t293 = true then (if (bt289.2 != bt280.2) = true then (none) else ((laws_toHyper.f k a0_0 l0_1).bind fun bt294 => ((laws_eqHyper.f k bt284.1 bt284.2 bt294.1 bt294.2).bind fun t298 => (if t298 = true then ((laws_markHyper.f k bt284.1 bt284.2 1).bind fun bt299 => (if bt299.1 < 0 then (none) else ((laws_eqIntSS.f k bt289.1 bt280.1).bind fun t301 => (if t301 = true then ((laws_markIntSS.f k bt289.1 1).bind fun bt302 => ((laws_heldIntSS.f k bt302.2 1).bind fun t304 => (if t304 < 0 then (none) else (if t304 = bt302.1 then ((laws_toHyper.f k a0_0 l0_1).bind fun bt305 => ((impl_HyperParts.f k bt305.1 bt305.2).bind fun bt309 => ((laws_eqIntSS.f k bt309.1 bt280.1).bind fun t313 => (if t313 = true then (if (bt309.2 != bt280.2) = true then (none) else ((laws_heldIntSS.f k bt302.2 1).bind fun t314 => (if t314 < 0 then (none) else (if t314 = bt302.1 then (some true) else (none))))) else (none))))) else (none))))) else (none))))) else (none))))) else (none)))))) = some r := H
   have A7 := Aside0.mk A70
   clear A70
   replace H := Option.bind_eq_some_iff.mp H
   obtain ⟨⟨t280, t283⟩, A80, H⟩ := H
   replace H : ((laws_toHyper.f k a0_0 l0_1).bind fun bt284 => ((impl_HyperParts.f k bt284.1 bt284.2).bind fun bt289 => ((laws_eqIntSS.f k bt289.1 t280).bind fun t293 => (if t293 = true then (if (bt289.2 != t283) = true then (none) else ((laws_toHyper.f k a0_0 l0_1).bind fun bt294 => ((laws_eqHyper.f k bt284.1 bt284.2 bt294.1 bt294.2).bind fun t298 => (if t298 = true then ((laws_markHyper.f k bt284.1 bt284.2 1).bind fun bt299 => (if bt299.1 < 0 then (none) else ((laws_eqIntSS.f k bt289.1 t280).bind fun t301 => (if t301 = true then ((laws_markIntSS.f k bt289.1 1).bind fun bt302 => ((laws_heldIntSS.f k bt302.2 1).bind fun t304 => (if t304 < 0 then (none) else (if t304 = bt302.1 then ((laws_toHyper.f k a0_0 l0_1).bind fun bt305 => ((impl_HyperParts.f k bt305.1 bt305.2).bind fun bt309 => ((laws_eqIntSS.f k bt309.1 t280).bind fun t313 => (if t313 = true then (if (bt309.2 != t283) = true then (none) else ((laws_heldIntSS.f k bt302.2 1).bind fun t314 => (if t314 < 0 then (none) else (if t314 = bt302.1 then (some true) else (none))))) else (none))))) else (none))))) else (none))))) else (none))))) else (none))))) = some r := H
   have A8 := Aside0.mk A80
   clear A80
   replace H := Option.bind_eq_some_iff.mp H
   obtain ⟨⟨t284, t285⟩, A90, H⟩ := H
   replace H : ((impl_HyperParts.f k t284 t285).bind fun bt289 => ((laws_eqIntSS.f k bt289.1 t280).bind fun t293 => (if t293 = true then (if (bt289.2 != t283) = true then (none) else ((laws_toHyper.f k a0_0 l0_1).bind fun bt294 => ((laws_eqHyper.f k t284 t285 bt294.1 bt294.2).bind fun t298 => (if t298 = true then ((laws_markHyper.f k t284 t285 1).bind fun bt299 => (if bt299.1 < 0 then (none) else ((laws_eqIntSS.f k bt289.1 t280).bind fun t301 => (if t301 = true then ((laws_markIntSS.f k bt289.1 1).bind fun bt302 => ((laws_heldIntSS.f k bt302.2 1).bind fun t304 => (if t304 < 0 then (none) else (if t304 = bt302.1 then ((laws_toHyper.f k a0_0 l0_1).bind fun bt305 => ((impl_HyperParts.f k bt305.1 bt305.2).bind fun bt309 => ((laws_eqIntSS.f k bt309.1 t280).bind fun t313 => (if t313 = true then (if (bt309.2 != t283) = true then (none) else ((laws_heldIntSS.f k bt302.2 1).bind fun t314 => (if t314 < 0 then (none) else (if t314 = bt302.1 then (some true) else (none))))) else (none))))) else (none))))) else (none))))) else (none))))) else (none)))) = some r := H
   have A9 := Aside0.mk A90
   clear A90
   replace H := Option.bind_eq_some_iff.mp H
   obtain ⟨⟨t289, t292⟩, A100, H⟩ := H
   replace H : ((laws_eqIntSS.f k t289 t280).bind fun t293 => (if t293 = true then (if (t292 != t283) = true then (none) else ((laws_toHyper.f k a0_0 l0_1).bind fun bt294 => ((laws_eqHyper.f k t284 t285 bt294.1 bt294.2).bind fun t298 => (if t298 = true then ((laws_markHyper.f k t284 t285 1).bind fun bt299 => (if bt299.1 < 0 then (none) else ((laws_eqIntSS.f k t289 t280).bind fun t301 => (if t301 = true then ((laws_markIntSS.f k t289 1).bind fun bt302 => ((laws_heldIntSS.f k bt302.2 1).bind fun t304 => (if t304 < 0 then (none) else (if t304 = bt302.1 then ((laws_toHyper.f k a0_0 l0_1).bind fun bt305 => ((impl_HyperParts.f k bt305.1 bt305.2).bind fun bt309 => ((laws_eqIntSS.f k bt309.1 t280).bind fun t313 => (if t313 = true then (if (bt309.2 != t283) = true then (none) else ((laws_heldIntSS.f k bt302.2 1).bind fun t314 => (if t314 < 0 then (none) else (if t314 = bt302.1 then (some true) else (none))))) else (none))))) else (none))))) else (none))))) else (none))))) else (none))) = some r := H
   have A10 := Aside0.mk A100
   clear A100
   replace H := Option.bind_eq_some_iff.mp H
   obtain ⟨t293, A110, H⟩ := H
   replace H : (if t293 = true then (if (t292 != t283) = true then (none) else ((laws_toHyper.f k a0_0 l0_1).bind fun bt294 => ((laws_eqHyper.f k t284 t285 bt294.1 bt294.2).bind fun t298 => (if t298 = true then ((laws_markHyper.f k t284 t285 1).bind fun bt299 => (if bt299.1 < 0 then (none) else ((laws_eqIntSS.f k t289 t280).bind fun t301 => (if t301 = true then ((laws_markIntSS.f k t289 1).bind fun bt302 => ((laws_heldIntSS.f k bt302.2 1).bind fun t304 => (if t304 < 0 then (none) else (if t304 = bt302.1 then ((laws_toHyper.f k a0_0 l0_1).bind fun bt305 => ((impl_HyperParts.f k bt305.1 bt305.2).bind fun bt309 => ((laws_eqIntSS.f k bt309.1 t280).bind fun t313 => (if t313 = true then (if (bt309.2 != t283) = true then (none) else ((laws_heldIntSS.f k bt302.2 1).bind fun t314 => (if t314 < 0 then (none) else (if t314 = bt302.1 then (some true) else (none))))) else (none))))) else (none))))) else (none))))) else (none))))) else (none)) = some r := H
   have A11 := Aside0.mk A110
   clear A110
   by_cases c12 : t293 = true
   ·subst c12
    have H1 : (if (t292 != t283) = true then (none) else ((laws_toHyper.f k a0_0 l0_1).bind fun bt294 => ((laws_eqHyper.f k t284 t285 bt294.1 bt294.2).bind fun t298 => (if t298 = true then ((laws_markHyper.f k t284 t285 1).bind fun bt299 => (if bt299.1 < 0 then (none) else ((laws_eqIntSS.f k t289 t280).bind fun t301 => (if t301 = true then ((laws_markIntSS.f k t289 1).bind fun bt302 => ((laws_heldIntSS.f k bt302.2 1).bind fun t304 => (if t304 < 0 then (none) else (if t304 = bt302.1 then ((laws_toHyper.f k a0_0 l0_1).bind fun bt305 => ((impl_HyperParts.f k bt305.1 bt305.2).bind fun bt309 => ((laws_eqIntSS.f k bt309.1 t280).bind fun t313 => (if t313 = true then (if (bt309.2 != t283) = true then (none) else ((laws_heldIntSS.f k bt302.2 1).bind fun t314 => (if t314 < 0 then (none) else (if t314 = bt302.1 then (some true) else (none))))) else (none))))) else (none))))) else (none))))) else (none))))) = some r := by rw [if_pos rfl] at H; exact H
    clear H
    have H := H1
    clear H1
    by_cases c13 : (t292 != t283) = true
    ·rw [if_pos c13] at H
     exact absurd H (by simp)
    ·rw [if_neg c13] at H
     have c13b0 : (t292 != t283) = false := by simpa using c13
     (try (have c13b1 : decide (t292 = t283) = true := by simpa using c13))
     (try (have c13b2 : (t292 == t283) = true := by simpa using c13))
     clear c13
     replace H := Option.bind_eq_some_iff.mp H
     obtain ⟨⟨t294, t295⟩, A140, H⟩ := H
     replace H : ((laws_eqHyper.f k t284 t285 t294 t295).bind fun t298 => (if t298 = true then ((laws_markHyper.f k t284 t285 1).bind fun bt299 => (if bt299.1 < 0 then (none) else ((laws_eqIntSS.f k t289 t280).bind fun t301 => (if t301 = true then ((laws_markIntSS.f k t289 1).bind fun bt302 => ((laws_heldIntSS.f k bt302.2 1).bind fun t304 => (if t304 < 0 then (none) else (if t304 = bt302.1 then ((laws_toHyper.f k a0_0 l0_1).bind fun bt305 => ((impl_HyperParts.f k bt305.1 bt305.2).bind fun bt309 => ((laws_eqIntSS.f k bt309.1 t280).bind fun t313 => (if t313 = true then (if (bt309.2 != t283) = true then (none) else ((laws_heldIntSS.f k bt302.2 1).bind fun t314 => (if t314 < 0 then (none) else (if t314 = bt302.1 then (some true) else (none))))) else (none))))) else (none))))) else (none))))) else (none))) = some r := H
     have A14 := Aside0.mk A140
     clear A140
     replace H := Option.bind_eq_some_iff.mp H
     obtain ⟨t298, A150, H⟩ := H
     replace H : (if t298 = true then ((laws_markHyper.f k t284 t285 1).bind fun bt299 => (if bt299.1 < 0 then (none) else ((laws_eqIntSS.f k t289 t280).bind fun t301 => (if t301 = true then ((laws_markIntSS.f k t289 1).bind fun bt302 => ((laws_heldIntSS.f k bt302.2 1).bind fun t304 => (if t304 < 0 then (none) else (if t304 = bt302.1 then ((laws_toHyper.f k a0_0 l0_1).bind fun bt305 => ((impl_HyperParts.f k bt305.1 bt305.2).bind fun bt309 => ((laws_eqIntSS.f k bt309.1 t280).bind fun t313 => (if t313 = true then (if (bt309.2 != t283) = true then (none) else ((laws_heldIntSS.f k bt302.2 1).bind fun t314 => (if t314 < 0 then (none) else (if t314 = bt302.1 then (some true) else (none))))) else (none))))) else (none))))) else (none))))) else (none)) = some r := H
     have A15 := Aside0.mk A150
     clear A150
     by_cases c16 : t298 = true
     ·subst c16
      have H1 : ((laws_markHyper.f k t284 t285 1).bind fun bt299 => (if bt299.1 < 0 then (none) else ((laws_eqIntSS.f k t289 t280).bind fun t301 => (if t301 = true then ((laws_markIntSS.f k t289 1).bind fun bt302 => ((laws_heldIntSS.f k bt302.2 1).bind fun t304 => (if t304 < 0 then (none) else (if t304 = bt302.1 then ((laws_toHyper.f k a0_0 l0_1).bind fun bt305 => ((impl_HyperParts.f k bt305.1 bt305.2).bind fun bt309 => ((laws_eqIntSS.f k bt309.1 t280).bind fun t313 => (if t313 = true then (if (bt309.2 != t283) = true then (none) else ((laws_heldIntSS.f k bt302.2 1).bind fun t314 => (if t314 < 0 then (none) else (if t314 = bt302.1 then (some true) else (none))))) else (none))))) else (none))))) else (none))))) = some r := by rw [if_pos rfl] at H; exact H
      clear H
      have H := H1
      clear H1
      replace H := Option.bind_eq_some_iff.mp H
      obtain ⟨⟨t299, t300⟩, A170, H⟩ := H
      replace H : (if t299 < 0 then (none) else ((laws_eqIntSS.f k t289 t280).bind fun t301 => (if t301 = true then ((laws_markIntSS.f k t289 1).bind fun bt302 => ((laws_heldIntSS.f k bt302.2 1).bind fun t304 => (if t304 < 0 then (none) else (if t304 = bt302.1 then ((laws_toHyper.f k a0_0 l0_1).bind fun bt305 => ((impl_HyperParts.f k bt305.1 bt305.2).bind fun bt309 => ((laws_eqIntSS.f k bt309.1 t280).bind fun t313 => (if t313 = true then (if (bt309.2 != t283) = true then (none) else ((laws_heldIntSS.f k bt302.2 1).bind fun t314 => (if t314 < 0 then (none) else (if t314 = bt302.1 then (some true) else (none))))) else (none))))) else (none))))) else (none)))) = some r := H
      have A17 := Aside0.mk A170
      clear A170
      by_cases c18 : t299 < 0
      ·rw [if_pos c18] at H
       exact absurd H (by simp)
      ·rw [if_neg c18] at H
       have c18b0 : decide (t299 < 0) = false := decide_eq_false c18
       clear c18
       replace H := Option.bind_eq_some_iff.mp H
       obtain ⟨t301, A190, H⟩ := H
       replace H : (if t301 = true then ((laws_markIntSS.f k t289 1).bind fun bt302 => ((laws_heldIntSS.f k bt302.2 1).bind fun t304 => (if t304 < 0 then (none) else (if t304 = bt302.1 then ((laws_toHyper.f k a0_0 l0_1).bind fun bt305 => ((impl_HyperParts.f k bt305.1 bt305.2).bind fun bt309 => ((laws_eqIntSS.f k bt309.1 t280).bind fun t313 => (if t313 = true then (if (bt309.2 != t283) = true then (none) else ((laws_heldIntSS.f k bt302.2 1).bind fun t314 => (if t314 < 0 then (none) else (if t314 = bt302.1 then (some true) else (none))))) else (none))))) else (none))))) else (none)) = some r := H
       have A19 := Aside0.mk A190
       clear A190
       by_cases c20 : t301 = true
       ·subst c20
        have H1 : ((laws_markIntSS.f k t289 1).bind fun bt302 => ((laws_heldIntSS.f k bt302.2 1).bind fun t304 => (if t304 < 0 then (none) else (if t304 = bt302.1 then ((laws_toHyper.f k a0_0 l0_1).bind fun bt305 => ((impl_HyperParts.f k bt305.1 bt305.2).bind fun bt309 => ((laws_eqIntSS.f k bt309.1 t280).bind fun t313 => (if t313 = true then (if (bt309.2 != t283) = true then (none) else ((laws_heldIntSS.f k bt302.2 1).bind fun t314 => (if t314 < 0 then (none) else (if t314 = bt302.1 then (some true) else (none))))) else (none))))) else (none))))) = some r := by rw [if_pos rfl] at H; exact H
        clear H
        have H := H1
        clear H1
        replace H := Option.bind_eq_some_iff.mp H
        obtain ⟨⟨t302, t303⟩, A210, H⟩ := H
        replace H : ((laws_heldIntSS.f k t303 1).bind fun t304 => (if t304 < 0 then (none) else (if t304 = t302 then ((laws_toHyper.f k a0_0 l0_1).bind fun bt305 => ((impl_HyperParts.f k bt305.1 bt305.2).bind fun bt309 => ((laws_eqIntSS.f k bt309.1 t280).bind fun t313 => (if t313 = true then (if (bt309.2 != t283) = true then (none) else ((laws_heldIntSS.f k t303 1).bind fun t314 => (if t314 < 0 then (none) else (if t314 = t302 then (some true) else (none))))) else (none))))) else (none)))) = some r := H
        have A21 := Aside0.mk A210
        clear A210
        replace H := Option.bind_eq_some_iff.mp H
        obtain ⟨t304, A220, H⟩ := H
        replace H : (if t304 < 0 then (none) else (if t304 = t302 then ((laws_toHyper.f k a0_0 l0_1).bind fun bt305 => ((impl_HyperParts.f k bt305.1 bt305.2).bind fun bt309 => ((laws_eqIntSS.f k bt309.1 t280).bind fun t313 => (if t313 = true then (if (bt309.2 != t283) = true then (none) else ((laws_heldIntSS.f k t303 1).bind fun t314 => (if t314 < 0 then (none) else (if t314 = t302 then (some true) else (none))))) else (none))))) else (none))) = some r := H
        have A22 := Aside0.mk A220
        clear A220
        by_cases c23 : t304 < 0
        ·rw [if_pos c23] at H
         exact absurd H (by simp)
        ·rw [if_neg c23] at H
         have c23b0 : decide (t304 < 0) = false := decide_eq_false c23
         clear c23
         by_cases c24 : t304 = t302
         ·rw [if_pos c24] at H
          have c24b0 : (t304 == t302) = true := beq_iff_eq.mpr c24
          have c24b1 : (t304 != t302) = false := bne_eq_false_iff_eq.mpr c24
          clear c24
          replace H := Option.bind_eq_some_iff.mp H
          obtain ⟨⟨t305, t306⟩, A250, H⟩ := H
          replace H : ((impl_HyperParts.f k t305 t306).bind fun bt309 => ((laws_eqIntSS.f k bt309.1 t280).bind fun t313 => (if t313 = true then (if (bt309.2 != t283) = true then (none) else ((laws_heldIntSS.f k t303 1).bind fun t314 => (if t314 < 0 then (none) else (if t314 = t302 then (some true) else (none))))) else (none)))) = some r := H
          have A25 := Aside0.mk A250
          clear A250
          replace H := Option.bind_eq_some_iff.mp H
          obtain ⟨⟨t309, t312⟩, A260, H⟩ := H
          replace H : ((laws_eqIntSS.f k t309 t280).bind fun t313 => (if t313 = true then (if (t312 != t283) = true then (none) else ((laws_heldIntSS.f k t303 1).bind fun t314 => (if t314 < 0 then (none) else (if t314 = t302 then (some true) else (none))))) else (none))) = some r := H
          have A26 := Aside0.mk A260
          clear A260
          replace H := Option.bind_eq_some_iff.mp H
          obtain ⟨t313, A270, H⟩ := H
          replace H : (if t313 = true then (if (t312 != t283) = true then (none) else ((laws_heldIntSS.f k t303 1).bind fun t314 => (if t314 < 0 then (none) else (if t314 = t302 then (some true) else (none))))) else (none)) = some r := H
          have A27 := Aside0.mk A270
          clear A270
          by_cases c28 : t313 = true
          ·subst c28
           have H1 : (if (t312 != t283) = true then (none) else ((laws_heldIntSS.f k t303 1).bind fun t314 => (if t314 < 0 then (none) else (if t314 = t302 then (some true) else (none))))) = some r := by rw [if_pos rfl] at H; exact H
           clear H
           have H := H1
           clear H1
           by_cases c29 : (t312 != t283) = true
           ·rw [if_pos c29] at H
            exact absurd H (by simp)
           ·rw [if_neg c29] at H
            have c29b0 : (t312 != t283) = false := by simpa using c29
            (try (have c29b1 : decide (t312 = t283) = true := by simpa using c29))
            (try (have c29b2 : (t312 == t283) = true := by simpa using c29))
            clear c29
            replace H := Option.bind_eq_some_iff.mp H
            obtain ⟨t314, A300, H⟩ := H
            replace H : (if t314 < 0 then (none) else (if t314 = t302 then (some true) else (none))) = some r := H
            have A30 := Aside0.mk A300
            clear A300
            by_cases c31 : t314 < 0
            ·rw [if_pos c31] at H
             exact absurd H (by simp)
            ·rw [if_neg c31] at H
             have c31b0 : decide (t314 < 0) = false := decide_eq_false c31
             clear c31
             by_cases c32 : t314 = t302
             ·rw [if_pos c32] at H
              have c32b0 : (t314 == t302) = true := beq_iff_eq.mpr c32
              have c32b1 : (t314 != t302) = false := bne_eq_false_iff_eq.mpr c32
              clear c32
              obtain rfl := Option.some.inj H
              go_enter Try.func3, Try.ntmps3
              go_wp2_with (first | ((with_reducible refine gate_dst (N := 1) rfl ?_); refine bx_ 1 #[.int .i64 a0_0, .slice A0_1 l0_1.length c0_1] 24 ?_; intro gb274 hg w33 hbox hb; replace HB := Aside0.mk (below_step hB_ hb); have BKgb274 := Aside0.mk (show w33.heap[gb274]? = some (.cells #[.int .i64 a0_0, .slice A0_1 l0_1.length c0_1] 24 (0, 0)) from hbox); have GLgb274 := Aside0.mk (show w.heap.size ≤ gb274 from (by rw [hg]; exact Nat.le_refl _)); have GUgb274 := Aside0.mk (show gb274 < w33.heap.size from blk_lt hbox); have LEw33 := Aside0.mk (show w.heap.size ≤ w33.heap.size from hb.size); clear hb hbox hg; (try clear hcz_gb274_0); (try clear hfz_gb274_0); have hcz_gb274_0 : w33.cell? ⟨gb274, 0, none⟩ = some (.int .i64 a0_0) := (blk_cell BKgb274.out 0).trans rfl; have hfz_gb274_0 := blk_frozen BKgb274.out 0; (try clear hcz_gb274_1); (try clear hfz_gb274_1); have hcz_gb274_1 : w33.cell? ⟨gb274, 1, none⟩ = some (.slice A0_1 l0_1.length c0_1) := (blk_cell BKgb274.out 1).trans rfl; have hfz_gb274_1 := blk_frozen BKgb274.out 1) | ((with_reducible refine gate_callee (f := 4) rfl ?_); refine gl_ 16 Try.func4 #[.agg #[.int .i64 a0_0, .slice A0_1 l0_1.length c0_1], .int .i64 1048576] ?_; (with_reducible refine (laws_szHyper.calls k a0_0 _ _ l0_1 1048576 t275 _ ?side1 ?side2 A2.out).mono ?_); (case side1 => exact kC_ HR0_1); (case side2 => exact HC0_1.out); rintro e w34 ⟨rfl, hb⟩; refine ⟨_, rfl, ?_⟩; have n0_ := Aside0.mk (show w34.heap[gb274]? = some (.cells #[.int .i64 a0_0, .slice A0_1 l0_1.length c0_1] 24 (0, 0)) from blk_below (kB_ BKgb274) hb); have n1_ := Aside0.mk (below_step hB_ hb); have LEw34 := Aside0.mk (show w33.heap.size ≤ w34.heap.size from hb.size); clear BKgb274; clear HB; have BKgb274 := n0_; have HB := n1_; clear n0_ n1_; (try clear hb); (try clear hcz_gb274_0); (try clear hfz_gb274_0); have hcz_gb274_0 : w34.cell? ⟨gb274, 0, none⟩ = some (.int .i64 a0_0) := (blk_cell BKgb274.out 0).trans rfl; have hfz_gb274_0 := blk_frozen BKgb274.out 0; (try clear hcz_gb274_1); (try clear hfz_gb274_1); have hcz_gb274_1 : w34.cell? ⟨gb274, 1, none⟩ = some (.slice A0_1 l0_1.length c0_1) := (blk_cell BKgb274.out 1).trans rfl; have hfz_gb274_1 := blk_frozen BKgb274.out 1) | ((with_reducible refine gate_callee (f := 6) rfl ?_); refine gl_ 21 Try.func6 #[.agg #[.int .i64 a0_0, .slice A0_1 l0_1.length c0_1]] ?_; (with_reducible refine (laws_toHyper.calls k a0_0 _ _ l0_1 t276 t277 _ ?side1 ?side2 A7.out).mono ?_); (case side1 => exact kC_ HR0_1); (case side2 => exact HC0_1.out); rintro e w35 ⟨v278, rfl, ho0, hb⟩; refine ⟨_, rfl, ?_⟩; have n0_ := Aside0.mk (show w35.heap[gb274]? = some (.cells #[.int .i64 a0_0, .slice A0_1 l0_1.length c0_1] 24 (0, 0)) from blk_below (kB_ BKgb274) hb); have n1_ := Aside0.mk (show Kd.S (Kd.slice 3 (Kd.int .i64)) 36 w35 w.heap.size (fun k_ => w34.heap.size ≤ k_ ∧ k_ < w35.heap.size) v278 t277 from lw_S ho0 (below_size hB_)); have n2_ := Aside0.mk (below_step hB_ hb); have LEw35 := Aside0.mk (show w34.heap.size ≤ w35.heap.size from hb.size); clear BKgb274; clear HB; have BKgb274 := n0_; have HO279 := n1_; have HB := n2_; clear n0_ n1_ n2_; (try clear hb); (try clear ho0); obtain ⟨Aoo36, coo36, eoo36⟩ := Kd.R_slice (Kd.S_R HO279.out); subst eoo36; (try clear hcz_gb274_0); (try clear hfz_gb274_0); have hcz_gb274_0 : w35.cell? ⟨gb274, 0, none⟩ = some (.int .i64 a0_0) := (blk_cell BKgb274.out 0).trans rfl; have hfz_gb274_0 := blk_frozen BKgb274.out 0; (try clear hcz_gb274_1); (try clear hfz_gb274_1); have hcz_gb274_1 : w35.cell? ⟨gb274, 1, none⟩ = some (.slice A0_1 l0_1.length c0_1) := (blk_cell BKgb274.out 1).trans rfl; have hfz_gb274_1 := blk_frozen BKgb274.out 1) | ((with_reducible refine gate_callee (f := 5) rfl ?_); refine gl_ 22 Try.func5 #[.agg #[.int .i64 t276, .slice Aoo36 t277.length coo36]] ?_; (with_reducible refine (spec_HyperParts.calls k t276 _ _ t277 t280 t283 _ ?side1 ?side2 A8.out).mono ?_); (case side1 => repeat (first | exact (Kd.R_reads' (Kd.S_R HO279.out)).2.2 | (with_reducible refine Kd.C_alloc ?_ _) | (with_reducible refine Kd.C_drewN ?_ _) | (with_reducible refine Kd.C_drew ?_))); (case side2 => exact (Kd.R_reads' (Kd.S_R HO279.out)).2.1); rintro e w37 ⟨v281, rfl, ho0, hb⟩; refine ⟨_, rfl, ?_⟩; have n0_ := Aside0.mk (show Kd.S (Kd.slice 3 (Kd.int .i64)) 36 w37 w.heap.size (fun k_ => w34.heap.size ≤ k_ ∧ k_ < w35.heap.size) (.slice Aoo36 t277.length coo36) t277 from Kd.S_below (by (with_reducible repeat (first | apply Kd.S_alloc | apply Kd.S_drewN | apply Kd.S_drew)); exact HO279.out) hb); have n1_ := Aside0.mk (show w37.heap[gb274]? = some (.cells #[.int .i64 a0_0, .slice A0_1 l0_1.length c0_1] 24 (0, 0)) from blk_below (kB_ BKgb274) hb); have n2_ := Aside0.mk (show Kd.S (Kd.slice 3 (Kd.int .i64)) 36 w37 w.heap.size (fun k_ => w35.heap.size ≤ k_ ∧ k_ < w37.heap.size) v281 t280 from lw_S ho0 (below_size hB_)); have n3_ := Aside0.mk (below_step hB_ hb); have LEw37 := Aside0.mk (show w35.heap.size ≤ w37.heap.size from hb.size); clear HO279; clear BKgb274; clear HB; have HO279 := n0_; have BKgb274 := n1_; have HO282 := n2_; have HB := n3_; clear n0_ n1_ n2_ n3_; (try clear hb); (try clear ho0); obtain ⟨Aoo38, coo38, eoo38⟩ := Kd.R_slice (Kd.S_R HO282.out); subst eoo38; (try clear hcz_gb274_0); (try clear hfz_gb274_0); have hcz_gb274_0 : w37.cell? ⟨gb274, 0, none⟩ = some (.int .i64 a0_0) := (blk_cell BKgb274.out 0).trans rfl; have hfz_gb274_0 := blk_frozen BKgb274.out 0; (try clear hcz_gb274_1); (try clear hfz_gb274_1); have hcz_gb274_1 : w37.cell? ⟨gb274, 1, none⟩ = some (.slice A0_1 l0_1.length c0_1) := (blk_cell BKgb274.out 1).trans rfl; have hfz_gb274_1 := blk_frozen BKgb274.out 1) | ((with_reducible refine gate_callee (f := 6) rfl ?_); refine gl_ 26 Try.func6 #[.agg #[.int .i64 a0_0, .slice A0_1 l0_1.length c0_1]] ?_; (with_reducible refine (laws_toHyper.calls k a0_0 _ _ l0_1 t284 t285 _ ?side1 ?side2 A9.out).mono ?_); (case side1 => exact kC_ HR0_1); (case side2 => exact HC0_1.out); rintro e w39 ⟨v286, rfl, ho0, hb⟩; refine ⟨_, rfl, ?_⟩; have n0_ := Aside0.mk (show Kd.S (Kd.slice 3 (Kd.int .i64)) 36 w39 w.heap.size (fun k_ => w34.heap.size ≤ k_ ∧ k_ < w35.heap.size) (.slice Aoo36 t277.length coo36) t277 from Kd.S_below (by (with_reducible repeat (first | apply Kd.S_alloc | apply Kd.S_drewN | apply Kd.S_drew)); exact HO279.out) hb); have n1_ := Aside0.mk (show Kd.S (Kd.slice 3 (Kd.int .i64)) 36 w39 w.heap.size (fun k_ => w35.heap.size ≤ k_ ∧ k_ < w37.heap.size) (.slice Aoo38 t280.length coo38) t280 from Kd.S_below (by (with_reducible repeat (first | apply Kd.S_alloc | apply Kd.S_drewN | apply Kd.S_drew)); exact HO282.out) hb); have n2_ := Aside0.mk (show w39.heap[gb274]? = some (.cells #[.int .i64 a0_0, .slice A0_1 l0_1.length c0_1] 24 (0, 0)) from blk_below (kB_ BKgb274) hb); have n3_ := Aside0.mk (show Kd.S (Kd.slice 3 (Kd.int .i64)) 36 w39 w.heap.size (fun k_ => w37.heap.size ≤ k_ ∧ k_ < w39.heap.size) v286 t285 from lw_S ho0 (below_size hB_)); have n4_ := Aside0.mk (below_step hB_ hb); have LEw39 := Aside0.mk (show w37.heap.size ≤ w39.heap.size from hb.size); clear HO279; clear HO282; clear BKgb274; clear HB; have HO279 := n0_; have HO282 := n1_; have BKgb274 := n2_; have HO287 := n3_; have HB := n4_; clear n0_ n1_ n2_ n3_ n4_; (try clear hb); (try clear ho0); obtain ⟨Aoo40, coo40, eoo40⟩ := Kd.R_slice (Kd.S_R HO287.out); subst eoo40; (try clear hcz_gb274_0); (try clear hfz_gb274_0); have hcz_gb274_0 : w39.cell? ⟨gb274, 0, none⟩ = some (.int .i64 a0_0) := (blk_cell BKgb274.out 0).trans rfl; have hfz_gb274_0 := blk_frozen BKgb274.out 0; (try clear hcz_gb274_1); (try clear hfz_gb274_1); have hcz_gb274_1 : w39.cell? ⟨gb274, 1, none⟩ = some (.slice A0_1 l0_1.length c0_1) := (blk_cell BKgb274.out 1).trans rfl; have hfz_gb274_1 := blk_frozen BKgb274.out 1) | ((with_reducible refine gate_dst (N := 6) rfl ?_); refine bx_ 6 #[.int .i64 0, .slice none 0 0] 28 ?_; intro gb288 hg w41 hbox hb; replace HO279 := Aside0.mk (show Kd.S (Kd.slice 3 (Kd.int .i64)) 36 w41 w.heap.size (fun k_ => w34.heap.size ≤ k_ ∧ k_ < w35.heap.size) (.slice Aoo36 t277.length coo36) t277 from Kd.S_below (by (with_reducible repeat (first | apply Kd.S_alloc | apply Kd.S_drewN | apply Kd.S_drew)); exact HO279.out) hb); replace HO282 := Aside0.mk (show Kd.S (Kd.slice 3 (Kd.int .i64)) 36 w41 w.heap.size (fun k_ => w35.heap.size ≤ k_ ∧ k_ < w37.heap.size) (.slice Aoo38 t280.length coo38) t280 from Kd.S_below (by (with_reducible repeat (first | apply Kd.S_alloc | apply Kd.S_drewN | apply Kd.S_drew)); exact HO282.out) hb); replace HO287 := Aside0.mk (show Kd.S (Kd.slice 3 (Kd.int .i64)) 36 w41 w.heap.size (fun k_ => w37.heap.size ≤ k_ ∧ k_ < w39.heap.size) (.slice Aoo40 t285.length coo40) t285 from Kd.S_below (by (with_reducible repeat (first | apply Kd.S_alloc | apply Kd.S_drewN | apply Kd.S_drew)); exact HO287.out) hb); replace BKgb274 := Aside0.mk (show w41.heap[gb274]? = some (.cells #[.int .i64 a0_0, .slice A0_1 l0_1.length c0_1] 24 (0, 0)) from blk_below (kB_ BKgb274) hb); replace HB := Aside0.mk (below_step hB_ hb); have BKgb288 := Aside0.mk (show w41.heap[gb288]? = some (.cells #[.int .i64 0, .slice none 0 0] 28 (0, 0)) from hbox); have GLgb288 := Aside0.mk (show w39.heap.size ≤ gb288 from (by rw [hg]; exact Nat.le_refl _)); have GUgb288 := Aside0.mk (show gb288 < w41.heap.size from blk_lt hbox); have LEw41 := Aside0.mk (show w39.heap.size ≤ w41.heap.size from hb.size); clear hb hbox hg; (try clear hcz_gb274_0); (try clear hfz_gb274_0); have hcz_gb274_0 : w41.cell? ⟨gb274, 0, none⟩ = some (.int .i64 a0_0) := (blk_cell BKgb274.out 0).trans rfl; have hfz_gb274_0 := blk_frozen BKgb274.out 0; (try clear hcz_gb274_1); (try clear hfz_gb274_1); have hcz_gb274_1 : w41.cell? ⟨gb274, 1, none⟩ = some (.slice A0_1 l0_1.length c0_1) := (blk_cell BKgb274.out 1).trans rfl; have hfz_gb274_1 := blk_frozen BKgb274.out 1; (try clear hcz_gb288_0); (try clear hfz_gb288_0); have hcz_gb288_0 : w41.cell? ⟨gb288, 0, none⟩ = some (.int .i64 0) := (blk_cell BKgb288.out 0).trans rfl; have hfz_gb288_0 := blk_frozen BKgb288.out 0; (try clear hcz_gb288_1); (try clear hfz_gb288_1); have hcz_gb288_1 : w41.cell? ⟨gb288, 1, none⟩ = some (.slice none 0 0) := (blk_cell BKgb288.out 1).trans rfl; have hfz_gb288_1 := blk_frozen BKgb288.out 1) | ((with_reducible refine gate_store (t := 28) (p := 6) rfl ?_); refine store_event (t := 28) (p := 6) (v := ?vo_w42) (w1 := ((w41.setCell ⟨gb288, 0, none⟩ (.int .i64 t284)).setCell ⟨gb288, 1, none⟩ (.slice Aoo40 t285.length coo40))) ?hg ?ho ?hn ?hr ?_; (case ho => rfl); (case hg => rfl); (case hn => rfl); (case hr => first | (go_simp; done) | (go_simp; rfl)); intro w42 hw; have hkp : Kept w41 w42 (fun k_ => gb288 ≤ k_ ∧ k_ < gb288 + 1) := (by rw [hw]; exact Kept.setCell (Kept.setCell (Kept.refl _ _) (.inl ⟨Nat.le_refl _, Nat.lt_succ_self _⟩) _) (.inl ⟨Nat.le_refl _, Nat.lt_succ_self _⟩) _); replace HO279 := Aside0.mk (show Kd.S (Kd.slice 3 (Kd.int .i64)) 36 w42 w.heap.size (fun k_ => w34.heap.size ≤ k_ ∧ k_ < w35.heap.size) (.slice Aoo36 t277.length coo36) t277 from lw_keptS HO279.out hkp (by have hLEw33_ := LEw33.out; have hLEw34_ := LEw34.out; have hLEw35_ := LEw35.out; have hLEw37_ := LEw37.out; have hLEw39_ := LEw39.out; have hLEw41_ := LEw41.out; have hGLgb274_ := GLgb274.out; have hGUgb274_ := GUgb274.out; have hGLgb288_ := GLgb288.out; have hGUgb288_ := GUgb288.out; omega)); replace HO282 := Aside0.mk (show Kd.S (Kd.slice 3 (Kd.int .i64)) 36 w42 w.heap.size (fun k_ => w35.heap.size ≤ k_ ∧ k_ < w37.heap.size) (.slice Aoo38 t280.length coo38) t280 from lw_keptS HO282.out hkp (by have hLEw33_ := LEw33.out; have hLEw34_ := LEw34.out; have hLEw35_ := LEw35.out; have hLEw37_ := LEw37.out; have hLEw39_ := LEw39.out; have hLEw41_ := LEw41.out; have hGLgb274_ := GLgb274.out; have hGUgb274_ := GUgb274.out; have hGLgb288_ := GLgb288.out; have hGUgb288_ := GUgb288.out; omega)); replace HO287 := Aside0.mk (show Kd.S (Kd.slice 3 (Kd.int .i64)) 36 w42 w.heap.size (fun k_ => w37.heap.size ≤ k_ ∧ k_ < w39.heap.size) (.slice Aoo40 t285.length coo40) t285 from lw_keptS HO287.out hkp (by have hLEw33_ := LEw33.out; have hLEw34_ := LEw34.out; have hLEw35_ := LEw35.out; have hLEw37_ := LEw37.out; have hLEw39_ := LEw39.out; have hLEw41_ := LEw41.out; have hGLgb274_ := GLgb274.out; have hGUgb274_ := GUgb274.out; have hGLgb288_ := GLgb288.out; have hGUgb288_ := GUgb288.out; omega)); replace BKgb274 := Aside0.mk (show w42.heap[gb274]? = some (.cells #[.int .i64 a0_0, .slice A0_1 l0_1.length c0_1] 24 (0, 0)) from blk_kept BKgb274.out hkp (fun hs_ => by have h1_ : gb288 ≤ gb274 ∧ gb274 < gb288 + 1 := hs_; have hLEw33_ := LEw33.out; have hLEw34_ := LEw34.out; have hLEw35_ := LEw35.out; have hLEw37_ := LEw37.out; have hLEw39_ := LEw39.out; have hLEw41_ := LEw41.out; have hGLgb274_ := GLgb274.out; have hGUgb274_ := GUgb274.out; have hGLgb288_ := GLgb288.out; have hGUgb288_ := GUgb288.out; omega)); replace BKgb288 := Aside0.mk (show w42.heap[gb288]? = some (.cells #[.int .i64 t284, .slice Aoo40 t285.length coo40] 28 (0, 0)) from (by rw [hw]; refine blk_put (cs := #[.int .i64 t284, .slice none 0 0]) ?_ 1 _ rfl; refine blk_put (cs := #[.int .i64 0, .slice none 0 0]) ?_ 0 _ rfl; exact BKgb288.out)); replace HB := Aside0.mk (show Below w.heap.size w w42 from (by rw [hw]; exact below_set (below_set hB_ (by have hLEw33_ := LEw33.out; have hLEw34_ := LEw34.out; have hLEw35_ := LEw35.out; have hLEw37_ := LEw37.out; have hLEw39_ := LEw39.out; have hLEw41_ := LEw41.out; have hGLgb274_ := GLgb274.out; have hGUgb274_ := GUgb274.out; have hGLgb288_ := GLgb288.out; have hGUgb288_ := GUgb288.out; omega)) (by have hLEw33_ := LEw33.out; have hLEw34_ := LEw34.out; have hLEw35_ := LEw35.out; have hLEw37_ := LEw37.out; have hLEw39_ := LEw39.out; have hLEw41_ := LEw41.out; have hGLgb274_ := GLgb274.out; have hGUgb274_ := GUgb274.out; have hGLgb288_ := GLgb288.out; have hGUgb288_ := GUgb288.out; omega))); have LEw42 := Aside0.mk (show w41.heap.size ≤ w42.heap.size from hkp.1); clear hkp hw; (try clear hcz_gb274_0); (try clear hfz_gb274_0); have hcz_gb274_0 : w42.cell? ⟨gb274, 0, none⟩ = some (.int .i64 a0_0) := (blk_cell BKgb274.out 0).trans rfl; have hfz_gb274_0 := blk_frozen BKgb274.out 0; (try clear hcz_gb274_1); (try clear hfz_gb274_1); have hcz_gb274_1 : w42.cell? ⟨gb274, 1, none⟩ = some (.slice A0_1 l0_1.length c0_1) := (blk_cell BKgb274.out 1).trans rfl; have hfz_gb274_1 := blk_frozen BKgb274.out 1; (try clear hcz_gb288_0); (try clear hfz_gb288_0); have hcz_gb288_0 : w42.cell? ⟨gb288, 0, none⟩ = some (.int .i64 t284) := (blk_cell BKgb288.out 0).trans rfl; have hfz_gb288_0 := blk_frozen BKgb288.out 0; (try clear hcz_gb288_1); (try clear hfz_gb288_1); have hcz_gb288_1 : w42.cell? ⟨gb288, 1, none⟩ = some (.slice Aoo40 t285.length coo40) := (blk_cell BKgb288.out 1).trans rfl; have hfz_gb288_1 := blk_frozen BKgb288.out 1) | ((with_reducible refine gate_callee (f := 7) rfl ?_); refine gl_ 29 Try.func7 #[.agg #[.int .i64 t284, .slice Aoo40 t285.length coo40]] ?_; (with_reducible refine (impl_HyperParts.calls k t284 _ _ t285 t289 t292 _ ?side1 ?side2 A10.out).mono ?_); (case side1 => repeat (first | exact (Kd.R_reads' (Kd.S_R HO287.out)).2.2 | (with_reducible refine Kd.C_alloc ?_ _) | (with_reducible refine Kd.C_drewN ?_ _) | (with_reducible refine Kd.C_drew ?_))); (case side2 => exact (Kd.R_reads' (Kd.S_R HO287.out)).2.1); rintro e w43 ⟨v290, rfl, ho0, hb⟩; refine ⟨_, rfl, ?_⟩; have n0_ := Aside0.mk (show Kd.S (Kd.slice 3 (Kd.int .i64)) 36 w43 w.heap.size (fun k_ => w34.heap.size ≤ k_ ∧ k_ < w35.heap.size) (.slice Aoo36 t277.length coo36) t277 from Kd.S_below (by (with_reducible repeat (first | apply Kd.S_alloc | apply Kd.S_drewN | apply Kd.S_drew)); exact HO279.out) hb); have n1_ := Aside0.mk (show Kd.S (Kd.slice 3 (Kd.int .i64)) 36 w43 w.heap.size (fun k_ => w35.heap.size ≤ k_ ∧ k_ < w37.heap.size) (.slice Aoo38 t280.length coo38) t280 from Kd.S_below (by (with_reducible repeat (first | apply Kd.S_alloc | apply Kd.S_drewN | apply Kd.S_drew)); exact HO282.out) hb); have n2_ := Aside0.mk (show Kd.S (Kd.slice 3 (Kd.int .i64)) 36 w43 w.heap.size (fun k_ => w37.heap.size ≤ k_ ∧ k_ < w39.heap.size) (.slice Aoo40 t285.length coo40) t285 from Kd.S_below (by (with_reducible repeat (first | apply Kd.S_alloc | apply Kd.S_drewN | apply Kd.S_drew)); exact HO287.out) hb); have n3_ := Aside0.mk (show w43.heap[gb274]? = some (.cells #[.int .i64 a0_0, .slice A0_1 l0_1.length c0_1] 24 (0, 0)) from blk_below (kB_ BKgb274) hb); have n4_ := Aside0.mk (show w43.heap[gb288]? = some (.cells #[.int .i64 t284, .slice Aoo40 t285.length coo40] 28 (0, 0)) from blk_below (kB_ BKgb288) hb); have n5_ := Aside0.mk (show Kd.S (Kd.slice 3 (Kd.int .i64)) 36 w43 w.heap.size (fun k_ => w42.heap.size ≤ k_ ∧ k_ < w43.heap.size) v290 t289 from lw_S ho0 (below_size hB_)); have n6_ := Aside0.mk (below_step hB_ hb); have LEw43 := Aside0.mk (show w42.heap.size ≤ w43.heap.size from hb.size); clear HO279; clear HO282; clear HO287; clear BKgb274; clear BKgb288; clear HB; have HO279 := n0_; have HO282 := n1_; have HO287 := n2_; have BKgb274 := n3_; have BKgb288 := n4_; have HO291 := n5_; have HB := n6_; clear n0_ n1_ n2_ n3_ n4_ n5_ n6_; (try clear hb); (try clear ho0); obtain ⟨Aoo44, coo44, eoo44⟩ := Kd.R_slice (Kd.S_R HO291.out); subst eoo44; (try clear hcz_gb274_0); (try clear hfz_gb274_0); have hcz_gb274_0 : w43.cell? ⟨gb274, 0, none⟩ = some (.int .i64 a0_0) := (blk_cell BKgb274.out 0).trans rfl; have hfz_gb274_0 := blk_frozen BKgb274.out 0; (try clear hcz_gb274_1); (try clear hfz_gb274_1); have hcz_gb274_1 : w43.cell? ⟨gb274, 1, none⟩ = some (.slice A0_1 l0_1.length c0_1) := (blk_cell BKgb274.out 1).trans rfl; have hfz_gb274_1 := blk_frozen BKgb274.out 1; (try clear hcz_gb288_0); (try clear hfz_gb288_0); have hcz_gb288_0 : w43.cell? ⟨gb288, 0, none⟩ = some (.int .i64 t284) := (blk_cell BKgb288.out 0).trans rfl; have hfz_gb288_0 := blk_frozen BKgb288.out 0; (try clear hcz_gb288_1); (try clear hfz_gb288_1); have hcz_gb288_1 : w43.cell? ⟨gb288, 1, none⟩ = some (.slice Aoo40 t285.length coo40) := (blk_cell BKgb288.out 1).trans rfl; have hfz_gb288_1 := blk_frozen BKgb288.out 1) | ((with_reducible refine gate_callee (f := 8) rfl ?_); refine gl_ 34 Try.func8 #[.slice Aoo44 t289.length coo44, .slice Aoo38 t280.length coo38] ?_; (with_reducible refine (laws_eqIntSS.calls k _ _ t289 _ _ t280 true _ ?side1 ?side2 ?side3 ?side4 A11.out).mono ?_); (case side1 => repeat (first | exact (Kd.R_reads' (Kd.S_R HO291.out)).2.2 | (with_reducible refine Kd.C_alloc ?_ _) | (with_reducible refine Kd.C_drewN ?_ _) | (with_reducible refine Kd.C_drew ?_))); (case side2 => exact (Kd.R_reads' (Kd.S_R HO291.out)).2.1); (case side3 => repeat (first | exact (Kd.R_reads' (Kd.S_R HO282.out)).2.2 | (with_reducible refine Kd.C_alloc ?_ _) | (with_reducible refine Kd.C_drewN ?_ _) | (with_reducible refine Kd.C_drew ?_))); (case side4 => exact (Kd.R_reads' (Kd.S_R HO282.out)).2.1); rintro e w45 ⟨rfl, hd⟩; refine ⟨_, rfl, ?_⟩; have hb := Drawn0.below hd; replace HO279 := Aside0.mk (show Kd.S (Kd.slice 3 (Kd.int .i64)) 36 w45 w.heap.size (fun k_ => w34.heap.size ≤ k_ ∧ k_ < w35.heap.size) (.slice Aoo36 t277.length coo36) t277 from Kd.S_below HO279.out hb); replace HO282 := Aside0.mk (show Kd.S (Kd.slice 3 (Kd.int .i64)) 36 w45 w.heap.size (fun k_ => w35.heap.size ≤ k_ ∧ k_ < w37.heap.size) (.slice Aoo38 t280.length coo38) t280 from Kd.S_below HO282.out hb); replace HO287 := Aside0.mk (show Kd.S (Kd.slice 3 (Kd.int .i64)) 36 w45 w.heap.size (fun k_ => w37.heap.size ≤ k_ ∧ k_ < w39.heap.size) (.slice Aoo40 t285.length coo40) t285 from Kd.S_below HO287.out hb); replace HO291 := Aside0.mk (show Kd.S (Kd.slice 3 (Kd.int .i64)) 36 w45 w.heap.size (fun k_ => w42.heap.size ≤ k_ ∧ k_ < w43.heap.size) (.slice Aoo44 t289.length coo44) t289 from Kd.S_below HO291.out hb); replace BKgb274 := Aside0.mk (show w45.heap[gb274]? = some (.cells #[.int .i64 a0_0, .slice A0_1 l0_1.length c0_1] 24 (0, 0)) from blk_below BKgb274.out hb); replace BKgb288 := Aside0.mk (show w45.heap[gb288]? = some (.cells #[.int .i64 t284, .slice Aoo40 t285.length coo40] 28 (0, 0)) from blk_below BKgb288.out hb); replace HB := Aside0.mk (below_step HB.out hb); have LEw45 := Aside0.mk (show w43.heap.size ≤ w45.heap.size from hb.size); clear hb hd; (try clear hcz_gb274_0); (try clear hfz_gb274_0); have hcz_gb274_0 : w45.cell? ⟨gb274, 0, none⟩ = some (.int .i64 a0_0) := (blk_cell BKgb274.out 0).trans rfl; have hfz_gb274_0 := blk_frozen BKgb274.out 0; (try clear hcz_gb274_1); (try clear hfz_gb274_1); have hcz_gb274_1 : w45.cell? ⟨gb274, 1, none⟩ = some (.slice A0_1 l0_1.length c0_1) := (blk_cell BKgb274.out 1).trans rfl; have hfz_gb274_1 := blk_frozen BKgb274.out 1; (try clear hcz_gb288_0); (try clear hfz_gb288_0); have hcz_gb288_0 : w45.cell? ⟨gb288, 0, none⟩ = some (.int .i64 t284) := (blk_cell BKgb288.out 0).trans rfl; have hfz_gb288_0 := blk_frozen BKgb288.out 0; (try clear hcz_gb288_1); (try clear hfz_gb288_1); have hcz_gb288_1 : w45.cell? ⟨gb288, 1, none⟩ = some (.slice Aoo40 t285.length coo40) := (blk_cell BKgb288.out 1).trans rfl; have hfz_gb288_1 := blk_frozen BKgb288.out 1))
              replace HO279 := Aside0.mk (Kd.S_drew HO279.out)
              replace HO282 := Aside0.mk (Kd.S_drew HO282.out)
              replace HO287 := Aside0.mk (Kd.S_drew HO287.out)
              replace HO291 := Aside0.mk (Kd.S_drew HO291.out)
              replace BKgb274 := Aside0.mk (blk_drew BKgb274.out)
              replace BKgb288 := Aside0.mk (blk_drew BKgb288.out)
              replace HB := Aside0.mk (below_drew1 HB.out)
              have LEw46 := Aside0.mk (show w45.heap.size ≤ w45.drew.heap.size from Nat.le_refl _)
              try clear hcz_gb274_0
              try clear hfz_gb274_0
              try clear hcz_gb274_1
              try clear hfz_gb274_1
              try clear hcz_gb288_0
              try clear hfz_gb288_0
              try clear hcz_gb288_1
              try clear hfz_gb288_1
              refine start_ (n := 5) (S := fun w' => w'.cell? ⟨gb274, 0, none⟩ = some (.int .i64 a0_0) ∧ w'.cell? ⟨gb274, 1, none⟩ = some (.slice A0_1 l0_1.length c0_1) ∧ w'.cell? ⟨gb288, 0, none⟩ = some (.int .i64 t284) ∧ w'.cell? ⟨gb288, 1, none⟩ = some (.slice Aoo40 t285.length coo40)) (ds := []) #[false, false, false, false, false] (by kernel_rfl) rfl rfl ⟨(blk_cell BKgb274.out 0).trans rfl, (blk_cell BKgb274.out 1).trans rfl, (blk_cell BKgb288.out 0).trans rfl, (blk_cell BKgb288.out 1).trans rfl⟩ (fun hHeld => ?_)
              generalize w45.drew = w46 at HO279 HO282 HO287 HO291 BKgb274 BKgb288 HB LEw46 hHeld ⊢
              refine take_ (i := 0) (N := (some 41)) (v := ?_) (a' := ?_) (bsA 5 1) rfl rfl (by kernel_rfl) (fun _ _ _ h => h) (Or.inl ⟨by rfl, ?_⟩) hHeld ?_ ?_
              rotate_left
              ·rintro w' ⟨s0, s1, s2, s3⟩
               go_simp
               with_reducible rfl
              rotate_left
              ·simp only [Act.put, List.setIfInBounds_toArray, List.set_cons_zero, List.set_cons_succ, i64_w]
               rfl
              refine take_ (i := 1) (N := (some 42)) (v := ?_) (a' := ?_) (bsA 5 3) rfl rfl (by kernel_rfl) (fun _ _ _ h => h) (Or.inl ⟨by rfl, ?_⟩) hHeld ?_ ?_
              rotate_left
              ·rintro w' ⟨s0, s1, s2, s3⟩
               go_simp
               with_reducible rfl
              rotate_left
              ·simp only [Act.put, List.setIfInBounds_toArray, List.set_cons_zero, List.set_cons_succ, i64_w]
               rfl
              refine one_ (i := 2) (N := (some 43)) (bsA 5 7) rfl rfl (by kernel_rfl) (by decide) (fun K hK => ?_)
              refine goes_ Try.func6 (by kernel_rfl) rfl #[.agg #[.int .i64 a0_0, .slice A0_1 l0_1.length c0_1]] (by rfl) rfl rfl (by (try simp only [List.map_toArray, List.map_cons, List.map_nil]); first | done | rfl | (simp only [List.length_drop, List.length_take]; rfl)) ?_
              (with_reducible refine (laws_toHyper.calls k a0_0 _ _ l0_1 t294 t295 _ ?side1 ?side2 A14.out).mono ?_)
              (case side1 => exact kC_ HR0_1)
              (case side2 => exact HC0_1.out)
              rintro e w47 ⟨v296, rfl, ho0, hb⟩
              refine ⟨_, rfl, ?_⟩
              have n0_ := Aside0.mk (show Kd.S (Kd.slice 3 (Kd.int .i64)) 36 w47 w.heap.size (fun k_ => w34.heap.size ≤ k_ ∧ k_ < w35.heap.size) (.slice Aoo36 t277.length coo36) t277 from Kd.S_below (by (with_reducible repeat (first | apply Kd.S_alloc | apply Kd.S_drewN | apply Kd.S_drew)); exact HO279.out) hb)
              have n1_ := Aside0.mk (show Kd.S (Kd.slice 3 (Kd.int .i64)) 36 w47 w.heap.size (fun k_ => w35.heap.size ≤ k_ ∧ k_ < w37.heap.size) (.slice Aoo38 t280.length coo38) t280 from Kd.S_below (by (with_reducible repeat (first | apply Kd.S_alloc | apply Kd.S_drewN | apply Kd.S_drew)); exact HO282.out) hb)
              have n2_ := Aside0.mk (show Kd.S (Kd.slice 3 (Kd.int .i64)) 36 w47 w.heap.size (fun k_ => w37.heap.size ≤ k_ ∧ k_ < w39.heap.size) (.slice Aoo40 t285.length coo40) t285 from Kd.S_below (by (with_reducible repeat (first | apply Kd.S_alloc | apply Kd.S_drewN | apply Kd.S_drew)); exact HO287.out) hb)
              have n3_ := Aside0.mk (show Kd.S (Kd.slice 3 (Kd.int .i64)) 36 w47 w.heap.size (fun k_ => w42.heap.size ≤ k_ ∧ k_ < w43.heap.size) (.slice Aoo44 t289.length coo44) t289 from Kd.S_below (by (with_reducible repeat (first | apply Kd.S_alloc | apply Kd.S_drewN | apply Kd.S_drew)); exact HO291.out) hb)
              have n4_ := Aside0.mk (show w47.heap[gb274]? = some (.cells #[.int .i64 a0_0, .slice A0_1 l0_1.length c0_1] 24 (0, 0)) from blk_below (kB_ BKgb274) hb)
              have n5_ := Aside0.mk (show w47.heap[gb288]? = some (.cells #[.int .i64 t284, .slice Aoo40 t285.length coo40] 28 (0, 0)) from blk_below (kB_ BKgb288) hb)
              have n6_ := Aside0.mk (show Kd.S (Kd.slice 3 (Kd.int .i64)) 36 w47 w.heap.size (fun k_ => w46.heap.size ≤ k_ ∧ k_ < w47.heap.size) v296 t295 from lw_S ho0 (below_size hB_))
              have n7_ := Aside0.mk (below_step hB_ hb)
              have LEw47 := Aside0.mk (show w46.heap.size ≤ w47.heap.size from hb.size)
              clear HO279
              clear HO282
              clear HO287
              clear HO291
              clear BKgb274
              clear BKgb288
              clear HB
              have HO279 := n0_
              have HO282 := n1_
              have HO287 := n2_
              have HO291 := n3_
              have BKgb274 := n4_
              have BKgb288 := n5_
              have HO297 := n6_
              have HB := n7_
              clear n0_ n1_ n2_ n3_ n4_ n5_ n6_ n7_
              (try clear hb)
              (try clear ho0)
              obtain ⟨Aoo48, coo48, eoo48⟩ := Kd.R_slice (Kd.S_R HO297.out)
              subst eoo48
              refine hK _ _ ⟨(blk_cell BKgb274.out 0).trans rfl, (blk_cell BKgb274.out 1).trans rfl, (blk_cell BKgb288.out 0).trans rfl, (blk_cell BKgb288.out 1).trans rfl⟩ (fun hHeld => ?_)
              clear hK K
              refine norm_ (a' := ?_) ?_ ?_
              rotate_left
              ·show Act.put _ (some 43) _ = _
               simp only [Act.put, List.setIfInBounds_toArray, List.set_cons_zero, List.set_cons_succ, i64_w]
               rfl
              refine one_ (i := 3) (N := (some 44)) (bsA 5 15) rfl rfl (by kernel_rfl) (by decide) (fun K hK => ?_)
              refine goes_ Try.func9 (by kernel_rfl) rfl #[.agg #[.int .i64 t284, .slice Aoo40 t285.length coo40], .agg #[.int .i64 t294, .slice Aoo48 t295.length coo48]] (by rfl) rfl rfl (by (try simp only [List.map_toArray, List.map_cons, List.map_nil]); first | done | rfl | (simp only [List.length_drop, List.length_take]; rfl)) ?_
              (with_reducible refine (laws_eqHyper.calls k t284 _ _ t285 t294 _ _ t295 true _ ?side1 ?side2 ?side3 ?side4 A15.out).mono ?_)
              (case side1 => repeat (first | exact (Kd.R_reads' (Kd.S_R HO287.out)).2.2 | (with_reducible refine Kd.C_alloc ?_ _) | (with_reducible refine Kd.C_drewN ?_ _) | (with_reducible refine Kd.C_drew ?_)))
              (case side2 => exact (Kd.R_reads' (Kd.S_R HO287.out)).2.1)
              (case side3 => repeat (first | exact (Kd.R_reads' (Kd.S_R HO297.out)).2.2 | (with_reducible refine Kd.C_alloc ?_ _) | (with_reducible refine Kd.C_drewN ?_ _) | (with_reducible refine Kd.C_drew ?_)))
              (case side4 => exact (Kd.R_reads' (Kd.S_R HO297.out)).2.1)
              rintro e w49 ⟨rfl, hb⟩
              refine ⟨_, rfl, ?_⟩
              have n0_ := Aside0.mk (show Kd.S (Kd.slice 3 (Kd.int .i64)) 36 w49 w.heap.size (fun k_ => w34.heap.size ≤ k_ ∧ k_ < w35.heap.size) (.slice Aoo36 t277.length coo36) t277 from Kd.S_below (by (with_reducible repeat (first | apply Kd.S_alloc | apply Kd.S_drewN | apply Kd.S_drew)); exact HO279.out) hb)
              have n1_ := Aside0.mk (show Kd.S (Kd.slice 3 (Kd.int .i64)) 36 w49 w.heap.size (fun k_ => w35.heap.size ≤ k_ ∧ k_ < w37.heap.size) (.slice Aoo38 t280.length coo38) t280 from Kd.S_below (by (with_reducible repeat (first | apply Kd.S_alloc | apply Kd.S_drewN | apply Kd.S_drew)); exact HO282.out) hb)
              have n2_ := Aside0.mk (show Kd.S (Kd.slice 3 (Kd.int .i64)) 36 w49 w.heap.size (fun k_ => w37.heap.size ≤ k_ ∧ k_ < w39.heap.size) (.slice Aoo40 t285.length coo40) t285 from Kd.S_below (by (with_reducible repeat (first | apply Kd.S_alloc | apply Kd.S_drewN | apply Kd.S_drew)); exact HO287.out) hb)
              have n3_ := Aside0.mk (show Kd.S (Kd.slice 3 (Kd.int .i64)) 36 w49 w.heap.size (fun k_ => w42.heap.size ≤ k_ ∧ k_ < w43.heap.size) (.slice Aoo44 t289.length coo44) t289 from Kd.S_below (by (with_reducible repeat (first | apply Kd.S_alloc | apply Kd.S_drewN | apply Kd.S_drew)); exact HO291.out) hb)
              have n4_ := Aside0.mk (show Kd.S (Kd.slice 3 (Kd.int .i64)) 36 w49 w.heap.size (fun k_ => w46.heap.size ≤ k_ ∧ k_ < w47.heap.size) (.slice Aoo48 t295.length coo48) t295 from Kd.S_below (by (with_reducible repeat (first | apply Kd.S_alloc | apply Kd.S_drewN | apply Kd.S_drew)); exact HO297.out) hb)
              have n5_ := Aside0.mk (show w49.heap[gb274]? = some (.cells #[.int .i64 a0_0, .slice A0_1 l0_1.length c0_1] 24 (0, 0)) from blk_below (kB_ BKgb274) hb)
              have n6_ := Aside0.mk (show w49.heap[gb288]? = some (.cells #[.int .i64 t284, .slice Aoo40 t285.length coo40] 28 (0, 0)) from blk_below (kB_ BKgb288) hb)
              have n7_ := Aside0.mk (below_step hB_ hb)
              have LEw49 := Aside0.mk (show w47.heap.size ≤ w49.heap.size from hb.size)
              clear HO279
              clear HO282
              clear HO287
              clear HO291
              clear HO297
              clear BKgb274
              clear BKgb288
              clear HB
              have HO279 := n0_
              have HO282 := n1_
              have HO287 := n2_
              have HO291 := n3_
              have HO297 := n4_
              have BKgb274 := n5_
              have BKgb288 := n6_
              have HB := n7_
              clear n0_ n1_ n2_ n3_ n4_ n5_ n6_ n7_
              (try clear hb)
              refine hK _ _ ⟨(blk_cell BKgb274.out 0).trans rfl, (blk_cell BKgb274.out 1).trans rfl, (blk_cell BKgb288.out 0).trans rfl, (blk_cell BKgb288.out 1).trans rfl⟩ (fun hHeld => ?_)
              clear hK K
              refine norm_ (a' := ?_) ?_ ?_
              rotate_left
              ·show Act.put _ (some 44) _ = _
               simp only [Act.put, List.setIfInBounds_toArray, List.set_cons_zero, List.set_cons_succ, i64_w]
               rfl
              refine pure_ (i := 4) (N := (some 45)) (v := ?_) (a' := ?_) (bsA 5 31) rfl rfl (by kernel_rfl) (fun _ _ _ h => h) (Or.inl ⟨by rfl, ?_⟩) ?_ ?_
              rotate_left
              ·intro w'
               go_simp
               with_reducible rfl
              rotate_left
              ·simp only [Act.put, List.setIfInBounds_toArray, List.set_cons_zero, List.set_cons_succ, i64_w]
               rfl
              refine done_ (by kernel_rfl) ?_
              (try clear hcz_gb274_0)
              (try clear hfz_gb274_0)
              have hcz_gb274_0 : w49.cell? ⟨gb274, 0, none⟩ = some (.int .i64 a0_0) := (blk_cell BKgb274.out 0).trans rfl
              have hfz_gb274_0 := blk_frozen BKgb274.out 0
              (try clear hcz_gb274_1)
              (try clear hfz_gb274_1)
              have hcz_gb274_1 : w49.cell? ⟨gb274, 1, none⟩ = some (.slice A0_1 l0_1.length c0_1) := (blk_cell BKgb274.out 1).trans rfl
              have hfz_gb274_1 := blk_frozen BKgb274.out 1
              (try clear hcz_gb288_0)
              (try clear hfz_gb288_0)
              have hcz_gb288_0 : w49.cell? ⟨gb288, 0, none⟩ = some (.int .i64 t284) := (blk_cell BKgb288.out 0).trans rfl
              have hfz_gb288_0 := blk_frozen BKgb288.out 0
              (try clear hcz_gb288_1)
              (try clear hfz_gb288_1)
              have hcz_gb288_1 : w49.cell? ⟨gb288, 1, none⟩ = some (.slice Aoo40 t285.length coo40) := (blk_cell BKgb288.out 1).trans rfl
              have hfz_gb288_1 := blk_frozen BKgb288.out 1
              go_wp2_with (first | ((with_reducible refine gate_callee (f := 10) rfl ?_); refine gl_ 48 Try.func10 #[.agg #[.int .i64 t284, .slice Aoo40 t285.length coo40], .int .i64 1] ?_; (with_reducible refine (laws_markHyper.calls k t284 (fun k_ => w37.heap.size ≤ k_ ∧ k_ < w39.heap.size) (.slice Aoo40 t285.length coo40) t285 1 t299 t300 w _ ?side1 ?side2 A17.out).mono ?_); (case side1 => exact hB_); (case side2 => (with_reducible repeat (first | apply Kd.S_alloc | apply Kd.S_drewN | apply Kd.S_drew)); exact HO287.out); rintro e w50 ⟨rfl, hy0, hb, hkp⟩; refine ⟨_, rfl, ?_⟩; have n0_ := Aside0.mk (show Kd.S (Kd.slice 3 (Kd.int .i64)) 36 w50 w.heap.size (fun k_ => w34.heap.size ≤ k_ ∧ k_ < w35.heap.size) (.slice Aoo36 t277.length coo36) t277 from lw_keptS (by (with_reducible repeat (first | apply Kd.S_alloc | apply Kd.S_drewN | apply Kd.S_drew)); exact HO279.out) hkp (by have hLEw33_ := LEw33.out; have hLEw34_ := LEw34.out; have hLEw35_ := LEw35.out; have hLEw37_ := LEw37.out; have hLEw39_ := LEw39.out; have hLEw41_ := LEw41.out; have hLEw42_ := LEw42.out; have hLEw43_ := LEw43.out; have hLEw45_ := LEw45.out; have hLEw46_ := LEw46.out; have hLEw47_ := LEw47.out; have hLEw49_ := LEw49.out; have hGLgb274_ := GLgb274.out; have hGUgb274_ := GUgb274.out; have hGLgb288_ := GLgb288.out; have hGUgb288_ := GUgb288.out; omega)); have n1_ := Aside0.mk (show Kd.S (Kd.slice 3 (Kd.int .i64)) 36 w50 w.heap.size (fun k_ => w35.heap.size ≤ k_ ∧ k_ < w37.heap.size) (.slice Aoo38 t280.length coo38) t280 from lw_keptS (by (with_reducible repeat (first | apply Kd.S_alloc | apply Kd.S_drewN | apply Kd.S_drew)); exact HO282.out) hkp (by have hLEw33_ := LEw33.out; have hLEw34_ := LEw34.out; have hLEw35_ := LEw35.out; have hLEw37_ := LEw37.out; have hLEw39_ := LEw39.out; have hLEw41_ := LEw41.out; have hLEw42_ := LEw42.out; have hLEw43_ := LEw43.out; have hLEw45_ := LEw45.out; have hLEw46_ := LEw46.out; have hLEw47_ := LEw47.out; have hLEw49_ := LEw49.out; have hGLgb274_ := GLgb274.out; have hGUgb274_ := GUgb274.out; have hGLgb288_ := GLgb288.out; have hGUgb288_ := GUgb288.out; omega)); have n2_ := Aside0.mk (show Kd.S (Kd.slice 3 (Kd.int .i64)) 36 w50 w.heap.size (fun k_ => w37.heap.size ≤ k_ ∧ k_ < w39.heap.size) (.slice Aoo40 t285.length coo40) t300 from hy0); have n3_ := Aside0.mk (show Kd.S (Kd.slice 3 (Kd.int .i64)) 36 w50 w.heap.size (fun k_ => w42.heap.size ≤ k_ ∧ k_ < w43.heap.size) (.slice Aoo44 t289.length coo44) t289 from lw_keptS (by (with_reducible repeat (first | apply Kd.S_alloc | apply Kd.S_drewN | apply Kd.S_drew)); exact HO291.out) hkp (by have hLEw33_ := LEw33.out; have hLEw34_ := LEw34.out; have hLEw35_ := LEw35.out; have hLEw37_ := LEw37.out; have hLEw39_ := LEw39.out; have hLEw41_ := LEw41.out; have hLEw42_ := LEw42.out; have hLEw43_ := LEw43.out; have hLEw45_ := LEw45.out; have hLEw46_ := LEw46.out; have hLEw47_ := LEw47.out; have hLEw49_ := LEw49.out; have hGLgb274_ := GLgb274.out; have hGUgb274_ := GUgb274.out; have hGLgb288_ := GLgb288.out; have hGUgb288_ := GUgb288.out; omega)); have n4_ := Aside0.mk (show Kd.S (Kd.slice 3 (Kd.int .i64)) 36 w50 w.heap.size (fun k_ => w46.heap.size ≤ k_ ∧ k_ < w47.heap.size) (.slice Aoo48 t295.length coo48) t295 from lw_keptS (by (with_reducible repeat (first | apply Kd.S_alloc | apply Kd.S_drewN | apply Kd.S_drew)); exact HO297.out) hkp (by have hLEw33_ := LEw33.out; have hLEw34_ := LEw34.out; have hLEw35_ := LEw35.out; have hLEw37_ := LEw37.out; have hLEw39_ := LEw39.out; have hLEw41_ := LEw41.out; have hLEw42_ := LEw42.out; have hLEw43_ := LEw43.out; have hLEw45_ := LEw45.out; have hLEw46_ := LEw46.out; have hLEw47_ := LEw47.out; have hLEw49_ := LEw49.out; have hGLgb274_ := GLgb274.out; have hGUgb274_ := GUgb274.out; have hGLgb288_ := GLgb288.out; have hGUgb288_ := GUgb288.out; omega)); have n5_ := Aside0.mk (show w50.heap[gb274]? = some (.cells #[.int .i64 a0_0, .slice A0_1 l0_1.length c0_1] 24 (0, 0)) from blk_kept (kB_ BKgb274) hkp (fun hs_ => by have h1_ : w37.heap.size ≤ gb274 ∧ gb274 < w39.heap.size := hs_; have hLEw33_ := LEw33.out; have hLEw34_ := LEw34.out; have hLEw35_ := LEw35.out; have hLEw37_ := LEw37.out; have hLEw39_ := LEw39.out; have hLEw41_ := LEw41.out; have hLEw42_ := LEw42.out; have hLEw43_ := LEw43.out; have hLEw45_ := LEw45.out; have hLEw46_ := LEw46.out; have hLEw47_ := LEw47.out; have hLEw49_ := LEw49.out; have hGLgb274_ := GLgb274.out; have hGUgb274_ := GUgb274.out; have hGLgb288_ := GLgb288.out; have hGUgb288_ := GUgb288.out; omega)); have n6_ := Aside0.mk (show w50.heap[gb288]? = some (.cells #[.int .i64 t284, .slice Aoo40 t285.length coo40] 28 (0, 0)) from blk_kept (kB_ BKgb288) hkp (fun hs_ => by have h1_ : w37.heap.size ≤ gb288 ∧ gb288 < w39.heap.size := hs_; have hLEw33_ := LEw33.out; have hLEw34_ := LEw34.out; have hLEw35_ := LEw35.out; have hLEw37_ := LEw37.out; have hLEw39_ := LEw39.out; have hLEw41_ := LEw41.out; have hLEw42_ := LEw42.out; have hLEw43_ := LEw43.out; have hLEw45_ := LEw45.out; have hLEw46_ := LEw46.out; have hLEw47_ := LEw47.out; have hLEw49_ := LEw49.out; have hGLgb274_ := GLgb274.out; have hGUgb274_ := GUgb274.out; have hGLgb288_ := GLgb288.out; have hGUgb288_ := GUgb288.out; omega)); have n7_ := Aside0.mk (hb); have LEw50 := Aside0.mk (show w49.heap.size ≤ w50.heap.size from hkp.1); clear HO279; clear HO282; clear HO287; clear HO291; clear HO297; clear BKgb274; clear BKgb288; clear HB; have HO279 := n0_; have HO282 := n1_; have HO287 := n2_; have HO291 := n3_; have HO297 := n4_; have BKgb274 := n5_; have BKgb288 := n6_; have HB := n7_; clear n0_ n1_ n2_ n3_ n4_ n5_ n6_ n7_; (try clear hb); (try clear hkp); (try clear hkq); (try clear hy0); (try clear hcz_gb274_0); (try clear hfz_gb274_0); have hcz_gb274_0 : w50.cell? ⟨gb274, 0, none⟩ = some (.int .i64 a0_0) := (blk_cell BKgb274.out 0).trans rfl; have hfz_gb274_0 := blk_frozen BKgb274.out 0; (try clear hcz_gb274_1); (try clear hfz_gb274_1); have hcz_gb274_1 : w50.cell? ⟨gb274, 1, none⟩ = some (.slice A0_1 l0_1.length c0_1) := (blk_cell BKgb274.out 1).trans rfl; have hfz_gb274_1 := blk_frozen BKgb274.out 1; (try clear hcz_gb288_0); (try clear hfz_gb288_0); have hcz_gb288_0 : w50.cell? ⟨gb288, 0, none⟩ = some (.int .i64 t284) := (blk_cell BKgb288.out 0).trans rfl; have hfz_gb288_0 := blk_frozen BKgb288.out 0; (try clear hcz_gb288_1); (try clear hfz_gb288_1); have hcz_gb288_1 : w50.cell? ⟨gb288, 1, none⟩ = some (.slice Aoo40 t285.length coo40) := (blk_cell BKgb288.out 1).trans rfl; have hfz_gb288_1 := blk_frozen BKgb288.out 1) | (go_at_call 8; refine calls_of_args (args' := #[.slice Aoo44 t289.length coo44, .slice Aoo38 t280.length coo38]) (by first | rfl) ?_; (with_reducible refine (laws_eqIntSS.calls k _ _ t289 _ _ t280 true _ ?side1 ?side2 ?side3 ?side4 A19.out).mono ?_); (case side1 => repeat (first | exact (Kd.R_reads' (Kd.S_R HO291.out)).2.2 | (with_reducible refine Kd.C_alloc ?_ _) | (with_reducible refine Kd.C_drewN ?_ _) | (with_reducible refine Kd.C_drew ?_))); (case side2 => exact (Kd.R_reads' (Kd.S_R HO291.out)).2.1); (case side3 => repeat (first | exact (Kd.R_reads' (Kd.S_R HO282.out)).2.2 | (with_reducible refine Kd.C_alloc ?_ _) | (with_reducible refine Kd.C_drewN ?_ _) | (with_reducible refine Kd.C_drew ?_))); (case side4 => exact (Kd.R_reads' (Kd.S_R HO282.out)).2.1); rintro e w51 ⟨rfl, hd⟩; have hb := Drawn0.below hd; replace HO279 := Aside0.mk (show Kd.S (Kd.slice 3 (Kd.int .i64)) 36 w51 w.heap.size (fun k_ => w34.heap.size ≤ k_ ∧ k_ < w35.heap.size) (.slice Aoo36 t277.length coo36) t277 from Kd.S_below HO279.out hb); replace HO282 := Aside0.mk (show Kd.S (Kd.slice 3 (Kd.int .i64)) 36 w51 w.heap.size (fun k_ => w35.heap.size ≤ k_ ∧ k_ < w37.heap.size) (.slice Aoo38 t280.length coo38) t280 from Kd.S_below HO282.out hb); replace HO287 := Aside0.mk (show Kd.S (Kd.slice 3 (Kd.int .i64)) 36 w51 w.heap.size (fun k_ => w37.heap.size ≤ k_ ∧ k_ < w39.heap.size) (.slice Aoo40 t285.length coo40) t300 from Kd.S_below HO287.out hb); replace HO291 := Aside0.mk (show Kd.S (Kd.slice 3 (Kd.int .i64)) 36 w51 w.heap.size (fun k_ => w42.heap.size ≤ k_ ∧ k_ < w43.heap.size) (.slice Aoo44 t289.length coo44) t289 from Kd.S_below HO291.out hb); replace HO297 := Aside0.mk (show Kd.S (Kd.slice 3 (Kd.int .i64)) 36 w51 w.heap.size (fun k_ => w46.heap.size ≤ k_ ∧ k_ < w47.heap.size) (.slice Aoo48 t295.length coo48) t295 from Kd.S_below HO297.out hb); replace BKgb274 := Aside0.mk (show w51.heap[gb274]? = some (.cells #[.int .i64 a0_0, .slice A0_1 l0_1.length c0_1] 24 (0, 0)) from blk_below BKgb274.out hb); replace BKgb288 := Aside0.mk (show w51.heap[gb288]? = some (.cells #[.int .i64 t284, .slice Aoo40 t285.length coo40] 28 (0, 0)) from blk_below BKgb288.out hb); replace HB := Aside0.mk (below_step HB.out hb); have LEw51 := Aside0.mk (show w50.heap.size ≤ w51.heap.size from hb.size); clear hb hd; (try clear hcz_gb274_0); (try clear hfz_gb274_0); have hcz_gb274_0 : w51.cell? ⟨gb274, 0, none⟩ = some (.int .i64 a0_0) := (blk_cell BKgb274.out 0).trans rfl; have hfz_gb274_0 := blk_frozen BKgb274.out 0; (try clear hcz_gb274_1); (try clear hfz_gb274_1); have hcz_gb274_1 : w51.cell? ⟨gb274, 1, none⟩ = some (.slice A0_1 l0_1.length c0_1) := (blk_cell BKgb274.out 1).trans rfl; have hfz_gb274_1 := blk_frozen BKgb274.out 1; (try clear hcz_gb288_0); (try clear hfz_gb288_0); have hcz_gb288_0 : w51.cell? ⟨gb288, 0, none⟩ = some (.int .i64 t284) := (blk_cell BKgb288.out 0).trans rfl; have hfz_gb288_0 := blk_frozen BKgb288.out 0; (try clear hcz_gb288_1); (try clear hfz_gb288_1); have hcz_gb288_1 : w51.cell? ⟨gb288, 1, none⟩ = some (.slice Aoo40 t285.length coo40) := (blk_cell BKgb288.out 1).trans rfl; have hfz_gb288_1 := blk_frozen BKgb288.out 1) | ((with_reducible refine gate_callee (f := 11) rfl ?_); refine gl_ 64 Try.func11 #[.slice Aoo44 t289.length coo44, .int .i64 1] ?_; (with_reducible refine (laws_markIntSS.calls k (fun k_ => w42.heap.size ≤ k_ ∧ k_ < w43.heap.size) (.slice Aoo44 t289.length coo44) t289 1 t302 t303 w _ ?side1 ?side2 A21.out).mono ?_); (case side1 => exact hB_); (case side2 => (with_reducible repeat (first | apply Kd.S_alloc | apply Kd.S_drewN | apply Kd.S_drew)); exact HO291.out); rintro e w52 ⟨rfl, hy0, hb, hkp⟩; refine ⟨_, rfl, ?_⟩; have n0_ := Aside0.mk (show Kd.S (Kd.slice 3 (Kd.int .i64)) 36 w52 w.heap.size (fun k_ => w34.heap.size ≤ k_ ∧ k_ < w35.heap.size) (.slice Aoo36 t277.length coo36) t277 from lw_keptS (by (with_reducible repeat (first | apply Kd.S_alloc | apply Kd.S_drewN | apply Kd.S_drew)); exact HO279.out) hkp (by have hLEw33_ := LEw33.out; have hLEw34_ := LEw34.out; have hLEw35_ := LEw35.out; have hLEw37_ := LEw37.out; have hLEw39_ := LEw39.out; have hLEw41_ := LEw41.out; have hLEw42_ := LEw42.out; have hLEw43_ := LEw43.out; have hLEw45_ := LEw45.out; have hLEw46_ := LEw46.out; have hLEw47_ := LEw47.out; have hLEw49_ := LEw49.out; have hLEw50_ := LEw50.out; have hLEw51_ := LEw51.out; have hGLgb274_ := GLgb274.out; have hGUgb274_ := GUgb274.out; have hGLgb288_ := GLgb288.out; have hGUgb288_ := GUgb288.out; omega)); have n1_ := Aside0.mk (show Kd.S (Kd.slice 3 (Kd.int .i64)) 36 w52 w.heap.size (fun k_ => w35.heap.size ≤ k_ ∧ k_ < w37.heap.size) (.slice Aoo38 t280.length coo38) t280 from lw_keptS (by (with_reducible repeat (first | apply Kd.S_alloc | apply Kd.S_drewN | apply Kd.S_drew)); exact HO282.out) hkp (by have hLEw33_ := LEw33.out; have hLEw34_ := LEw34.out; have hLEw35_ := LEw35.out; have hLEw37_ := LEw37.out; have hLEw39_ := LEw39.out; have hLEw41_ := LEw41.out; have hLEw42_ := LEw42.out; have hLEw43_ := LEw43.out; have hLEw45_ := LEw45.out; have hLEw46_ := LEw46.out; have hLEw47_ := LEw47.out; have hLEw49_ := LEw49.out; have hLEw50_ := LEw50.out; have hLEw51_ := LEw51.out; have hGLgb274_ := GLgb274.out; have hGUgb274_ := GUgb274.out; have hGLgb288_ := GLgb288.out; have hGUgb288_ := GUgb288.out; omega)); have n2_ := Aside0.mk (show Kd.S (Kd.slice 3 (Kd.int .i64)) 36 w52 w.heap.size (fun k_ => w37.heap.size ≤ k_ ∧ k_ < w39.heap.size) (.slice Aoo40 t285.length coo40) t300 from lw_keptS (by (with_reducible repeat (first | apply Kd.S_alloc | apply Kd.S_drewN | apply Kd.S_drew)); exact HO287.out) hkp (by have hLEw33_ := LEw33.out; have hLEw34_ := LEw34.out; have hLEw35_ := LEw35.out; have hLEw37_ := LEw37.out; have hLEw39_ := LEw39.out; have hLEw41_ := LEw41.out; have hLEw42_ := LEw42.out; have hLEw43_ := LEw43.out; have hLEw45_ := LEw45.out; have hLEw46_ := LEw46.out; have hLEw47_ := LEw47.out; have hLEw49_ := LEw49.out; have hLEw50_ := LEw50.out; have hLEw51_ := LEw51.out; have hGLgb274_ := GLgb274.out; have hGUgb274_ := GUgb274.out; have hGLgb288_ := GLgb288.out; have hGUgb288_ := GUgb288.out; omega)); have n3_ := Aside0.mk (show Kd.S (Kd.slice 3 (Kd.int .i64)) 36 w52 w.heap.size (fun k_ => w42.heap.size ≤ k_ ∧ k_ < w43.heap.size) (.slice Aoo44 t289.length coo44) t303 from hy0); have n4_ := Aside0.mk (show Kd.S (Kd.slice 3 (Kd.int .i64)) 36 w52 w.heap.size (fun k_ => w46.heap.size ≤ k_ ∧ k_ < w47.heap.size) (.slice Aoo48 t295.length coo48) t295 from lw_keptS (by (with_reducible repeat (first | apply Kd.S_alloc | apply Kd.S_drewN | apply Kd.S_drew)); exact HO297.out) hkp (by have hLEw33_ := LEw33.out; have hLEw34_ := LEw34.out; have hLEw35_ := LEw35.out; have hLEw37_ := LEw37.out; have hLEw39_ := LEw39.out; have hLEw41_ := LEw41.out; have hLEw42_ := LEw42.out; have hLEw43_ := LEw43.out; have hLEw45_ := LEw45.out; have hLEw46_ := LEw46.out; have hLEw47_ := LEw47.out; have hLEw49_ := LEw49.out; have hLEw50_ := LEw50.out; have hLEw51_ := LEw51.out; have hGLgb274_ := GLgb274.out; have hGUgb274_ := GUgb274.out; have hGLgb288_ := GLgb288.out; have hGUgb288_ := GUgb288.out; omega)); have n5_ := Aside0.mk (show w52.heap[gb274]? = some (.cells #[.int .i64 a0_0, .slice A0_1 l0_1.length c0_1] 24 (0, 0)) from blk_kept (kB_ BKgb274) hkp (fun hs_ => by have h1_ : w42.heap.size ≤ gb274 ∧ gb274 < w43.heap.size := hs_; have hLEw33_ := LEw33.out; have hLEw34_ := LEw34.out; have hLEw35_ := LEw35.out; have hLEw37_ := LEw37.out; have hLEw39_ := LEw39.out; have hLEw41_ := LEw41.out; have hLEw42_ := LEw42.out; have hLEw43_ := LEw43.out; have hLEw45_ := LEw45.out; have hLEw46_ := LEw46.out; have hLEw47_ := LEw47.out; have hLEw49_ := LEw49.out; have hLEw50_ := LEw50.out; have hLEw51_ := LEw51.out; have hGLgb274_ := GLgb274.out; have hGUgb274_ := GUgb274.out; have hGLgb288_ := GLgb288.out; have hGUgb288_ := GUgb288.out; omega)); have n6_ := Aside0.mk (show w52.heap[gb288]? = some (.cells #[.int .i64 t284, .slice Aoo40 t285.length coo40] 28 (0, 0)) from blk_kept (kB_ BKgb288) hkp (fun hs_ => by have h1_ : w42.heap.size ≤ gb288 ∧ gb288 < w43.heap.size := hs_; have hLEw33_ := LEw33.out; have hLEw34_ := LEw34.out; have hLEw35_ := LEw35.out; have hLEw37_ := LEw37.out; have hLEw39_ := LEw39.out; have hLEw41_ := LEw41.out; have hLEw42_ := LEw42.out; have hLEw43_ := LEw43.out; have hLEw45_ := LEw45.out; have hLEw46_ := LEw46.out; have hLEw47_ := LEw47.out; have hLEw49_ := LEw49.out; have hLEw50_ := LEw50.out; have hLEw51_ := LEw51.out; have hGLgb274_ := GLgb274.out; have hGUgb274_ := GUgb274.out; have hGLgb288_ := GLgb288.out; have hGUgb288_ := GUgb288.out; omega)); have n7_ := Aside0.mk (hb); have LEw52 := Aside0.mk (show w51.heap.size ≤ w52.heap.size from hkp.1); clear HO279; clear HO282; clear HO287; clear HO291; clear HO297; clear BKgb274; clear BKgb288; clear HB; have HO279 := n0_; have HO282 := n1_; have HO287 := n2_; have HO291 := n3_; have HO297 := n4_; have BKgb274 := n5_; have BKgb288 := n6_; have HB := n7_; clear n0_ n1_ n2_ n3_ n4_ n5_ n6_ n7_; (try clear hb); (try clear hkp); (try clear hkq); (try clear hy0); (try clear hcz_gb274_0); (try clear hfz_gb274_0); have hcz_gb274_0 : w52.cell? ⟨gb274, 0, none⟩ = some (.int .i64 a0_0) := (blk_cell BKgb274.out 0).trans rfl; have hfz_gb274_0 := blk_frozen BKgb274.out 0; (try clear hcz_gb274_1); (try clear hfz_gb274_1); have hcz_gb274_1 : w52.cell? ⟨gb274, 1, none⟩ = some (.slice A0_1 l0_1.length c0_1) := (blk_cell BKgb274.out 1).trans rfl; have hfz_gb274_1 := blk_frozen BKgb274.out 1; (try clear hcz_gb288_0); (try clear hfz_gb288_0); have hcz_gb288_0 : w52.cell? ⟨gb288, 0, none⟩ = some (.int .i64 t284) := (blk_cell BKgb288.out 0).trans rfl; have hfz_gb288_0 := blk_frozen BKgb288.out 0; (try clear hcz_gb288_1); (try clear hfz_gb288_1); have hcz_gb288_1 : w52.cell? ⟨gb288, 1, none⟩ = some (.slice Aoo40 t285.length coo40) := (blk_cell BKgb288.out 1).trans rfl; have hfz_gb288_1 := blk_frozen BKgb288.out 1) | ((with_reducible refine gate_callee (f := 12) rfl ?_); refine goesL_ (some 67) rfl rfl Try.func12 (by kernel_rfl) rfl #[.slice Aoo44 t303.length coo44, .int .i64 1] rfl (by (try simp only [List.map_toArray, List.map_cons, List.map_nil]); first | done | (rw [show t303.length = t289.length from (Kd.R_reads' (Kd.S_R HO291.out)).1.symm] <;> rfl) | rfl | (simp only [List.length_drop, List.length_take]; rfl)) ?_; (with_reducible refine (laws_heldIntSS.calls k _ _ t303 1 t304 _ ?side1 ?side2 A22.out).mono ?_); (case side1 => repeat (first | exact (Kd.R_reads' (Kd.S_R HO291.out)).2.2 | (with_reducible refine Kd.C_alloc ?_ _) | (with_reducible refine Kd.C_drewN ?_ _) | (with_reducible refine Kd.C_drew ?_))); (case side2 => rw [show t303.length = t289.length from (Kd.R_reads' (Kd.S_R HO291.out)).1.symm]; exact (Kd.R_reads' (Kd.S_R HO291.out)).2.1); rintro e w53 ⟨rfl, hd⟩; refine ⟨_, rfl, ?_⟩; have hb := Drawn0.below hd; replace HO279 := Aside0.mk (show Kd.S (Kd.slice 3 (Kd.int .i64)) 36 w53 w.heap.size (fun k_ => w34.heap.size ≤ k_ ∧ k_ < w35.heap.size) (.slice Aoo36 t277.length coo36) t277 from Kd.S_below HO279.out hb); replace HO282 := Aside0.mk (show Kd.S (Kd.slice 3 (Kd.int .i64)) 36 w53 w.heap.size (fun k_ => w35.heap.size ≤ k_ ∧ k_ < w37.heap.size) (.slice Aoo38 t280.length coo38) t280 from Kd.S_below HO282.out hb); replace HO287 := Aside0.mk (show Kd.S (Kd.slice 3 (Kd.int .i64)) 36 w53 w.heap.size (fun k_ => w37.heap.size ≤ k_ ∧ k_ < w39.heap.size) (.slice Aoo40 t285.length coo40) t300 from Kd.S_below HO287.out hb); replace HO291 := Aside0.mk (show Kd.S (Kd.slice 3 (Kd.int .i64)) 36 w53 w.heap.size (fun k_ => w42.heap.size ≤ k_ ∧ k_ < w43.heap.size) (.slice Aoo44 t289.length coo44) t303 from Kd.S_below HO291.out hb); replace HO297 := Aside0.mk (show Kd.S (Kd.slice 3 (Kd.int .i64)) 36 w53 w.heap.size (fun k_ => w46.heap.size ≤ k_ ∧ k_ < w47.heap.size) (.slice Aoo48 t295.length coo48) t295 from Kd.S_below HO297.out hb); replace BKgb274 := Aside0.mk (show w53.heap[gb274]? = some (.cells #[.int .i64 a0_0, .slice A0_1 l0_1.length c0_1] 24 (0, 0)) from blk_below BKgb274.out hb); replace BKgb288 := Aside0.mk (show w53.heap[gb288]? = some (.cells #[.int .i64 t284, .slice Aoo40 t285.length coo40] 28 (0, 0)) from blk_below BKgb288.out hb); replace HB := Aside0.mk (below_step HB.out hb); have LEw53 := Aside0.mk (show w52.heap.size ≤ w53.heap.size from hb.size); clear hb hd; (try clear hcz_gb274_0); (try clear hfz_gb274_0); have hcz_gb274_0 : w53.cell? ⟨gb274, 0, none⟩ = some (.int .i64 a0_0) := (blk_cell BKgb274.out 0).trans rfl; have hfz_gb274_0 := blk_frozen BKgb274.out 0; (try clear hcz_gb274_1); (try clear hfz_gb274_1); have hcz_gb274_1 : w53.cell? ⟨gb274, 1, none⟩ = some (.slice A0_1 l0_1.length c0_1) := (blk_cell BKgb274.out 1).trans rfl; have hfz_gb274_1 := blk_frozen BKgb274.out 1; (try clear hcz_gb288_0); (try clear hfz_gb288_0); have hcz_gb288_0 : w53.cell? ⟨gb288, 0, none⟩ = some (.int .i64 t284) := (blk_cell BKgb288.out 0).trans rfl; have hfz_gb288_0 := blk_frozen BKgb288.out 0; (try clear hcz_gb288_1); (try clear hfz_gb288_1); have hcz_gb288_1 : w53.cell? ⟨gb288, 1, none⟩ = some (.slice Aoo40 t285.length coo40) := (blk_cell BKgb288.out 1).trans rfl; have hfz_gb288_1 := blk_frozen BKgb288.out 1) | ((with_reducible refine gate_callee (f := 6) rfl ?_); refine gl_ 75 Try.func6 #[.agg #[.int .i64 a0_0, .slice A0_1 l0_1.length c0_1]] ?_; (with_reducible refine (laws_toHyper.calls k a0_0 _ _ l0_1 t305 t306 _ ?side1 ?side2 A25.out).mono ?_); (case side1 => exact kC_ HR0_1); (case side2 => exact HC0_1.out); rintro e w54 ⟨v307, rfl, ho0, hb⟩; refine ⟨_, rfl, ?_⟩; have n0_ := Aside0.mk (show Kd.S (Kd.slice 3 (Kd.int .i64)) 36 w54 w.heap.size (fun k_ => w34.heap.size ≤ k_ ∧ k_ < w35.heap.size) (.slice Aoo36 t277.length coo36) t277 from Kd.S_below (by (with_reducible repeat (first | apply Kd.S_alloc | apply Kd.S_drewN | apply Kd.S_drew)); exact HO279.out) hb); have n1_ := Aside0.mk (show Kd.S (Kd.slice 3 (Kd.int .i64)) 36 w54 w.heap.size (fun k_ => w35.heap.size ≤ k_ ∧ k_ < w37.heap.size) (.slice Aoo38 t280.length coo38) t280 from Kd.S_below (by (with_reducible repeat (first | apply Kd.S_alloc | apply Kd.S_drewN | apply Kd.S_drew)); exact HO282.out) hb); have n2_ := Aside0.mk (show Kd.S (Kd.slice 3 (Kd.int .i64)) 36 w54 w.heap.size (fun k_ => w37.heap.size ≤ k_ ∧ k_ < w39.heap.size) (.slice Aoo40 t285.length coo40) t300 from Kd.S_below (by (with_reducible repeat (first | apply Kd.S_alloc | apply Kd.S_drewN | apply Kd.S_drew)); exact HO287.out) hb); have n3_ := Aside0.mk (show Kd.S (Kd.slice 3 (Kd.int .i64)) 36 w54 w.heap.size (fun k_ => w42.heap.size ≤ k_ ∧ k_ < w43.heap.size) (.slice Aoo44 t289.length coo44) t303 from Kd.S_below (by (with_reducible repeat (first | apply Kd.S_alloc | apply Kd.S_drewN | apply Kd.S_drew)); exact HO291.out) hb); have n4_ := Aside0.mk (show Kd.S (Kd.slice 3 (Kd.int .i64)) 36 w54 w.heap.size (fun k_ => w46.heap.size ≤ k_ ∧ k_ < w47.heap.size) (.slice Aoo48 t295.length coo48) t295 from Kd.S_below (by (with_reducible repeat (first | apply Kd.S_alloc | apply Kd.S_drewN | apply Kd.S_drew)); exact HO297.out) hb); have n5_ := Aside0.mk (show w54.heap[gb274]? = some (.cells #[.int .i64 a0_0, .slice A0_1 l0_1.length c0_1] 24 (0, 0)) from blk_below (kB_ BKgb274) hb); have n6_ := Aside0.mk (show w54.heap[gb288]? = some (.cells #[.int .i64 t284, .slice Aoo40 t285.length coo40] 28 (0, 0)) from blk_below (kB_ BKgb288) hb); have n7_ := Aside0.mk (show Kd.S (Kd.slice 3 (Kd.int .i64)) 36 w54 w.heap.size (fun k_ => w53.heap.size ≤ k_ ∧ k_ < w54.heap.size) v307 t306 from lw_S ho0 (below_size hB_)); have n8_ := Aside0.mk (below_step hB_ hb); have LEw54 := Aside0.mk (show w53.heap.size ≤ w54.heap.size from hb.size); clear HO279; clear HO282; clear HO287; clear HO291; clear HO297; clear BKgb274; clear BKgb288; clear HB; have HO279 := n0_; have HO282 := n1_; have HO287 := n2_; have HO291 := n3_; have HO297 := n4_; have BKgb274 := n5_; have BKgb288 := n6_; have HO308 := n7_; have HB := n8_; clear n0_ n1_ n2_ n3_ n4_ n5_ n6_ n7_ n8_; (try clear hb); (try clear ho0); obtain ⟨Aoo55, coo55, eoo55⟩ := Kd.R_slice (Kd.S_R HO308.out); subst eoo55; (try clear hcz_gb274_0); (try clear hfz_gb274_0); have hcz_gb274_0 : w54.cell? ⟨gb274, 0, none⟩ = some (.int .i64 a0_0) := (blk_cell BKgb274.out 0).trans rfl; have hfz_gb274_0 := blk_frozen BKgb274.out 0; (try clear hcz_gb274_1); (try clear hfz_gb274_1); have hcz_gb274_1 : w54.cell? ⟨gb274, 1, none⟩ = some (.slice A0_1 l0_1.length c0_1) := (blk_cell BKgb274.out 1).trans rfl; have hfz_gb274_1 := blk_frozen BKgb274.out 1; (try clear hcz_gb288_0); (try clear hfz_gb288_0); have hcz_gb288_0 : w54.cell? ⟨gb288, 0, none⟩ = some (.int .i64 t284) := (blk_cell BKgb288.out 0).trans rfl; have hfz_gb288_0 := blk_frozen BKgb288.out 0; (try clear hcz_gb288_1); (try clear hfz_gb288_1); have hcz_gb288_1 : w54.cell? ⟨gb288, 1, none⟩ = some (.slice Aoo40 t285.length coo40) := (blk_cell BKgb288.out 1).trans rfl; have hfz_gb288_1 := blk_frozen BKgb288.out 1) | ((with_reducible refine gate_callee (f := 7) rfl ?_); refine gl_ 76 Try.func7 #[.agg #[.int .i64 t305, .slice Aoo55 t306.length coo55]] ?_; (with_reducible refine (impl_HyperParts.calls k t305 _ _ t306 t309 t312 _ ?side1 ?side2 A26.out).mono ?_); (case side1 => repeat (first | exact (Kd.R_reads' (Kd.S_R HO308.out)).2.2 | (with_reducible refine Kd.C_alloc ?_ _) | (with_reducible refine Kd.C_drewN ?_ _) | (with_reducible refine Kd.C_drew ?_))); (case side2 => exact (Kd.R_reads' (Kd.S_R HO308.out)).2.1); rintro e w56 ⟨v310, rfl, ho0, hb⟩; refine ⟨_, rfl, ?_⟩; have n0_ := Aside0.mk (show Kd.S (Kd.slice 3 (Kd.int .i64)) 36 w56 w.heap.size (fun k_ => w34.heap.size ≤ k_ ∧ k_ < w35.heap.size) (.slice Aoo36 t277.length coo36) t277 from Kd.S_below (by (with_reducible repeat (first | apply Kd.S_alloc | apply Kd.S_drewN | apply Kd.S_drew)); exact HO279.out) hb); have n1_ := Aside0.mk (show Kd.S (Kd.slice 3 (Kd.int .i64)) 36 w56 w.heap.size (fun k_ => w35.heap.size ≤ k_ ∧ k_ < w37.heap.size) (.slice Aoo38 t280.length coo38) t280 from Kd.S_below (by (with_reducible repeat (first | apply Kd.S_alloc | apply Kd.S_drewN | apply Kd.S_drew)); exact HO282.out) hb); have n2_ := Aside0.mk (show Kd.S (Kd.slice 3 (Kd.int .i64)) 36 w56 w.heap.size (fun k_ => w37.heap.size ≤ k_ ∧ k_ < w39.heap.size) (.slice Aoo40 t285.length coo40) t300 from Kd.S_below (by (with_reducible repeat (first | apply Kd.S_alloc | apply Kd.S_drewN | apply Kd.S_drew)); exact HO287.out) hb); have n3_ := Aside0.mk (show Kd.S (Kd.slice 3 (Kd.int .i64)) 36 w56 w.heap.size (fun k_ => w42.heap.size ≤ k_ ∧ k_ < w43.heap.size) (.slice Aoo44 t289.length coo44) t303 from Kd.S_below (by (with_reducible repeat (first | apply Kd.S_alloc | apply Kd.S_drewN | apply Kd.S_drew)); exact HO291.out) hb); have n4_ := Aside0.mk (show Kd.S (Kd.slice 3 (Kd.int .i64)) 36 w56 w.heap.size (fun k_ => w46.heap.size ≤ k_ ∧ k_ < w47.heap.size) (.slice Aoo48 t295.length coo48) t295 from Kd.S_below (by (with_reducible repeat (first | apply Kd.S_alloc | apply Kd.S_drewN | apply Kd.S_drew)); exact HO297.out) hb); have n5_ := Aside0.mk (show Kd.S (Kd.slice 3 (Kd.int .i64)) 36 w56 w.heap.size (fun k_ => w53.heap.size ≤ k_ ∧ k_ < w54.heap.size) (.slice Aoo55 t306.length coo55) t306 from Kd.S_below (by (with_reducible repeat (first | apply Kd.S_alloc | apply Kd.S_drewN | apply Kd.S_drew)); exact HO308.out) hb); have n6_ := Aside0.mk (show w56.heap[gb274]? = some (.cells #[.int .i64 a0_0, .slice A0_1 l0_1.length c0_1] 24 (0, 0)) from blk_below (kB_ BKgb274) hb); have n7_ := Aside0.mk (show w56.heap[gb288]? = some (.cells #[.int .i64 t284, .slice Aoo40 t285.length coo40] 28 (0, 0)) from blk_below (kB_ BKgb288) hb); have n8_ := Aside0.mk (show Kd.S (Kd.slice 3 (Kd.int .i64)) 36 w56 w.heap.size (fun k_ => w54.heap.size ≤ k_ ∧ k_ < w56.heap.size) v310 t309 from lw_S ho0 (below_size hB_)); have n9_ := Aside0.mk (below_step hB_ hb); have LEw56 := Aside0.mk (show w54.heap.size ≤ w56.heap.size from hb.size); clear HO279; clear HO282; clear HO287; clear HO291; clear HO297; clear HO308; clear BKgb274; clear BKgb288; clear HB; have HO279 := n0_; have HO282 := n1_; have HO287 := n2_; have HO291 := n3_; have HO297 := n4_; have HO308 := n5_; have BKgb274 := n6_; have BKgb288 := n7_; have HO311 := n8_; have HB := n9_; clear n0_ n1_ n2_ n3_ n4_ n5_ n6_ n7_ n8_ n9_; (try clear hb); (try clear ho0); obtain ⟨Aoo57, coo57, eoo57⟩ := Kd.R_slice (Kd.S_R HO311.out); subst eoo57; (try clear hcz_gb274_0); (try clear hfz_gb274_0); have hcz_gb274_0 : w56.cell? ⟨gb274, 0, none⟩ = some (.int .i64 a0_0) := (blk_cell BKgb274.out 0).trans rfl; have hfz_gb274_0 := blk_frozen BKgb274.out 0; (try clear hcz_gb274_1); (try clear hfz_gb274_1); have hcz_gb274_1 : w56.cell? ⟨gb274, 1, none⟩ = some (.slice A0_1 l0_1.length c0_1) := (blk_cell BKgb274.out 1).trans rfl; have hfz_gb274_1 := blk_frozen BKgb274.out 1; (try clear hcz_gb288_0); (try clear hfz_gb288_0); have hcz_gb288_0 : w56.cell? ⟨gb288, 0, none⟩ = some (.int .i64 t284) := (blk_cell BKgb288.out 0).trans rfl; have hfz_gb288_0 := blk_frozen BKgb288.out 0; (try clear hcz_gb288_1); (try clear hfz_gb288_1); have hcz_gb288_1 : w56.cell? ⟨gb288, 1, none⟩ = some (.slice Aoo40 t285.length coo40) := (blk_cell BKgb288.out 1).trans rfl; have hfz_gb288_1 := blk_frozen BKgb288.out 1) | ((with_reducible refine gate_callee (f := 8) rfl ?_); refine gl_ 81 Try.func8 #[.slice Aoo57 t309.length coo57, .slice Aoo38 t280.length coo38] ?_; (with_reducible refine (laws_eqIntSS.calls k _ _ t309 _ _ t280 true _ ?side1 ?side2 ?side3 ?side4 A27.out).mono ?_); (case side1 => repeat (first | exact (Kd.R_reads' (Kd.S_R HO311.out)).2.2 | (with_reducible refine Kd.C_alloc ?_ _) | (with_reducible refine Kd.C_drewN ?_ _) | (with_reducible refine Kd.C_drew ?_))); (case side2 => exact (Kd.R_reads' (Kd.S_R HO311.out)).2.1); (case side3 => repeat (first | exact (Kd.R_reads' (Kd.S_R HO282.out)).2.2 | (with_reducible refine Kd.C_alloc ?_ _) | (with_reducible refine Kd.C_drewN ?_ _) | (with_reducible refine Kd.C_drew ?_))); (case side4 => exact (Kd.R_reads' (Kd.S_R HO282.out)).2.1); rintro e w58 ⟨rfl, hd⟩; refine ⟨_, rfl, ?_⟩; have hb := Drawn0.below hd; replace HO279 := Aside0.mk (show Kd.S (Kd.slice 3 (Kd.int .i64)) 36 w58 w.heap.size (fun k_ => w34.heap.size ≤ k_ ∧ k_ < w35.heap.size) (.slice Aoo36 t277.length coo36) t277 from Kd.S_below HO279.out hb); replace HO282 := Aside0.mk (show Kd.S (Kd.slice 3 (Kd.int .i64)) 36 w58 w.heap.size (fun k_ => w35.heap.size ≤ k_ ∧ k_ < w37.heap.size) (.slice Aoo38 t280.length coo38) t280 from Kd.S_below HO282.out hb); replace HO287 := Aside0.mk (show Kd.S (Kd.slice 3 (Kd.int .i64)) 36 w58 w.heap.size (fun k_ => w37.heap.size ≤ k_ ∧ k_ < w39.heap.size) (.slice Aoo40 t285.length coo40) t300 from Kd.S_below HO287.out hb); replace HO291 := Aside0.mk (show Kd.S (Kd.slice 3 (Kd.int .i64)) 36 w58 w.heap.size (fun k_ => w42.heap.size ≤ k_ ∧ k_ < w43.heap.size) (.slice Aoo44 t289.length coo44) t303 from Kd.S_below HO291.out hb); replace HO297 := Aside0.mk (show Kd.S (Kd.slice 3 (Kd.int .i64)) 36 w58 w.heap.size (fun k_ => w46.heap.size ≤ k_ ∧ k_ < w47.heap.size) (.slice Aoo48 t295.length coo48) t295 from Kd.S_below HO297.out hb); replace HO308 := Aside0.mk (show Kd.S (Kd.slice 3 (Kd.int .i64)) 36 w58 w.heap.size (fun k_ => w53.heap.size ≤ k_ ∧ k_ < w54.heap.size) (.slice Aoo55 t306.length coo55) t306 from Kd.S_below HO308.out hb); replace HO311 := Aside0.mk (show Kd.S (Kd.slice 3 (Kd.int .i64)) 36 w58 w.heap.size (fun k_ => w54.heap.size ≤ k_ ∧ k_ < w56.heap.size) (.slice Aoo57 t309.length coo57) t309 from Kd.S_below HO311.out hb); replace BKgb274 := Aside0.mk (show w58.heap[gb274]? = some (.cells #[.int .i64 a0_0, .slice A0_1 l0_1.length c0_1] 24 (0, 0)) from blk_below BKgb274.out hb); replace BKgb288 := Aside0.mk (show w58.heap[gb288]? = some (.cells #[.int .i64 t284, .slice Aoo40 t285.length coo40] 28 (0, 0)) from blk_below BKgb288.out hb); replace HB := Aside0.mk (below_step HB.out hb); have LEw58 := Aside0.mk (show w56.heap.size ≤ w58.heap.size from hb.size); clear hb hd; (try clear hcz_gb274_0); (try clear hfz_gb274_0); have hcz_gb274_0 : w58.cell? ⟨gb274, 0, none⟩ = some (.int .i64 a0_0) := (blk_cell BKgb274.out 0).trans rfl; have hfz_gb274_0 := blk_frozen BKgb274.out 0; (try clear hcz_gb274_1); (try clear hfz_gb274_1); have hcz_gb274_1 : w58.cell? ⟨gb274, 1, none⟩ = some (.slice A0_1 l0_1.length c0_1) := (blk_cell BKgb274.out 1).trans rfl; have hfz_gb274_1 := blk_frozen BKgb274.out 1; (try clear hcz_gb288_0); (try clear hfz_gb288_0); have hcz_gb288_0 : w58.cell? ⟨gb288, 0, none⟩ = some (.int .i64 t284) := (blk_cell BKgb288.out 0).trans rfl; have hfz_gb288_0 := blk_frozen BKgb288.out 0; (try clear hcz_gb288_1); (try clear hfz_gb288_1); have hcz_gb288_1 : w58.cell? ⟨gb288, 1, none⟩ = some (.slice Aoo40 t285.length coo40) := (blk_cell BKgb288.out 1).trans rfl; have hfz_gb288_1 := blk_frozen BKgb288.out 1) | ((with_reducible refine gate_callee (f := 12) rfl ?_); refine goesL_ (some 90) rfl rfl Try.func12 (by kernel_rfl) rfl #[.slice Aoo44 t303.length coo44, .int .i64 1] rfl (by (try simp only [List.map_toArray, List.map_cons, List.map_nil]); first | done | (rw [show t303.length = t289.length from (Kd.R_reads' (Kd.S_R HO291.out)).1.symm] <;> rfl) | rfl | (simp only [List.length_drop, List.length_take]; rfl)) ?_; (with_reducible refine (laws_heldIntSS.calls k _ _ t303 1 t314 _ ?side1 ?side2 A30.out).mono ?_); (case side1 => repeat (first | exact (Kd.R_reads' (Kd.S_R HO291.out)).2.2 | (with_reducible refine Kd.C_alloc ?_ _) | (with_reducible refine Kd.C_drewN ?_ _) | (with_reducible refine Kd.C_drew ?_))); (case side2 => rw [show t303.length = t289.length from (Kd.R_reads' (Kd.S_R HO291.out)).1.symm]; exact (Kd.R_reads' (Kd.S_R HO291.out)).2.1); rintro e w59 ⟨rfl, hd⟩; refine ⟨_, rfl, ?_⟩; have hb := Drawn0.below hd; replace HO279 := Aside0.mk (show Kd.S (Kd.slice 3 (Kd.int .i64)) 36 w59 w.heap.size (fun k_ => w34.heap.size ≤ k_ ∧ k_ < w35.heap.size) (.slice Aoo36 t277.length coo36) t277 from Kd.S_below HO279.out hb); replace HO282 := Aside0.mk (show Kd.S (Kd.slice 3 (Kd.int .i64)) 36 w59 w.heap.size (fun k_ => w35.heap.size ≤ k_ ∧ k_ < w37.heap.size) (.slice Aoo38 t280.length coo38) t280 from Kd.S_below HO282.out hb); replace HO287 := Aside0.mk (show Kd.S (Kd.slice 3 (Kd.int .i64)) 36 w59 w.heap.size (fun k_ => w37.heap.size ≤ k_ ∧ k_ < w39.heap.size) (.slice Aoo40 t285.length coo40) t300 from Kd.S_below HO287.out hb); replace HO291 := Aside0.mk (show Kd.S (Kd.slice 3 (Kd.int .i64)) 36 w59 w.heap.size (fun k_ => w42.heap.size ≤ k_ ∧ k_ < w43.heap.size) (.slice Aoo44 t289.length coo44) t303 from Kd.S_below HO291.out hb); replace HO297 := Aside0.mk (show Kd.S (Kd.slice 3 (Kd.int .i64)) 36 w59 w.heap.size (fun k_ => w46.heap.size ≤ k_ ∧ k_ < w47.heap.size) (.slice Aoo48 t295.length coo48) t295 from Kd.S_below HO297.out hb); replace HO308 := Aside0.mk (show Kd.S (Kd.slice 3 (Kd.int .i64)) 36 w59 w.heap.size (fun k_ => w53.heap.size ≤ k_ ∧ k_ < w54.heap.size) (.slice Aoo55 t306.length coo55) t306 from Kd.S_below HO308.out hb); replace HO311 := Aside0.mk (show Kd.S (Kd.slice 3 (Kd.int .i64)) 36 w59 w.heap.size (fun k_ => w54.heap.size ≤ k_ ∧ k_ < w56.heap.size) (.slice Aoo57 t309.length coo57) t309 from Kd.S_below HO311.out hb); replace BKgb274 := Aside0.mk (show w59.heap[gb274]? = some (.cells #[.int .i64 a0_0, .slice A0_1 l0_1.length c0_1] 24 (0, 0)) from blk_below BKgb274.out hb); replace BKgb288 := Aside0.mk (show w59.heap[gb288]? = some (.cells #[.int .i64 t284, .slice Aoo40 t285.length coo40] 28 (0, 0)) from blk_below BKgb288.out hb); replace HB := Aside0.mk (below_step HB.out hb); have LEw59 := Aside0.mk (show w58.heap.size ≤ w59.heap.size from hb.size); clear hb hd; (try clear hcz_gb274_0); (try clear hfz_gb274_0); have hcz_gb274_0 : w59.cell? ⟨gb274, 0, none⟩ = some (.int .i64 a0_0) := (blk_cell BKgb274.out 0).trans rfl; have hfz_gb274_0 := blk_frozen BKgb274.out 0; (try clear hcz_gb274_1); (try clear hfz_gb274_1); have hcz_gb274_1 : w59.cell? ⟨gb274, 1, none⟩ = some (.slice A0_1 l0_1.length c0_1) := (blk_cell BKgb274.out 1).trans rfl; have hfz_gb274_1 := blk_frozen BKgb274.out 1; (try clear hcz_gb288_0); (try clear hfz_gb288_0); have hcz_gb288_0 : w59.cell? ⟨gb288, 0, none⟩ = some (.int .i64 t284) := (blk_cell BKgb288.out 0).trans rfl; have hfz_gb288_0 := blk_frozen BKgb288.out 0; (try clear hcz_gb288_1); (try clear hfz_gb288_1); have hcz_gb288_1 : w59.cell? ⟨gb288, 1, none⟩ = some (.slice Aoo40 t285.length coo40) := (blk_cell BKgb288.out 1).trans rfl; have hfz_gb288_1 := blk_frozen BKgb288.out 1))
              go_ret
              exact ⟨rf_, hB_⟩
             ·rw [if_neg c32] at H
              exact absurd H (by simp)
          ·replace c28 := Bool.eq_false_iff.mpr c28
           subst c28
           have H1 : (none) = some r := by rw [if_neg (show ¬ (false = true) by decide)] at H; exact H
           clear H
           have H := H1
           clear H1
           exact absurd H (by simp)
         ·rw [if_neg c24] at H
          exact absurd H (by simp)
       ·replace c20 := Bool.eq_false_iff.mpr c20
        subst c20
        have H1 : (none) = some r := by rw [if_neg (show ¬ (false = true) by decide)] at H; exact H
        clear H
        have H := H1
        clear H1
        exact absurd H (by simp)
     ·replace c16 := Bool.eq_false_iff.mpr c16
      subst c16
      have H1 : (none) = some r := by rw [if_neg (show ¬ (false = true) by decide)] at H; exact H
      clear H
      have H := H1
      clear H1
      exact absurd H (by simp)
   ·replace c12 := Bool.eq_false_iff.mpr c12
    subst c12
    have H1 : (none) = some r := by rw [if_neg (show ¬ (false = true) by decide)] at H; exact H
    clear H
    have H := H1
    clear H1
    exact absurd H (by simp)

/-- What is to be shown of laws_FnExactHyperParts: plain. -/
def laws_FnExactHyperParts.Pure : Prop := ∀ (a0_0 : Int) (l0_1 : List (List Int)), (wfI .i64) a0_0 → (wfL (wfL (wfI .i64))) l0_1 → ∃ k, laws_FnExactHyperParts.f k a0_0 l0_1 = some true
theorem laws_FnExactHyperParts.walk (P : laws_FnExactHyperParts.Pure) (a0_0 : Int) (A0_1 : Option Addr) (c0_1 : Nat) (l0_1 : List (List Int)) (w : World) (hr0_1 : Kd.C (Kd.slice 3 (Kd.int .i64)) w A0_1 l0_1.length l0_1) (hc0_1 : l0_1.length ≤ c0_1) (hw0_0 : (wfI .i64) a0_0) (hw0_1 : (wfL (wfL (wfI .i64))) l0_1) :
    Calls Try.prog 3 #[.agg #[.int .i64 a0_0, .slice A0_1 l0_1.length c0_1]] w fun e w' => e = .returned (.bool true) ∧ Below w.heap.size w w' := by
  obtain ⟨k, h⟩ := P a0_0 l0_1 hw0_0 hw0_1
  refine (laws_FnExactHyperParts.calls k a0_0 A0_1 c0_1 l0_1 true w hr0_1 hc0_1 h).mono ?_
  rintro e w' ⟨rfl, hd⟩
  exact ⟨rfl, hd⟩
end Go.Proofs.Ythafknjaljhibaa.X
