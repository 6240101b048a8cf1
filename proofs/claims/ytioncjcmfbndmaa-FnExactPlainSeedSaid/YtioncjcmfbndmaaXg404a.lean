/- Written by a program of this session: what functions of the given program compute, and that their calls do so. -/
import Derived.Test.YtioncjcmfbndmaaXx0
namespace Go.Proofs.Ytioncjcmfbndmaa.X
open Go.RowKit Go.Proofs.YtioncjcmfbndmaaW.PrintWords Go.Proofs.YtioncjcmfbndmaaW.PrintLast Go.Proofs.YtioncjcmfbndmaaW.PrintMore
attribute [local go_sem] max2_int min2_int max_two min_two max_three min_three max_four min_four   -- for this text's walks alone
set_option linter.unusedVariables false
set_option linter.unusedSimpArgs false
/-! ### spec_l1Has: function 127 -/
def spec_l1Has.l0 : Nat → Int → List Int → Int → Int → Option (Bool)
  | 0, _, _, _, _ => none
  | k + 1, x1, x7, x8, x9 => if x9 < x8 then (if 0 ≤ x9 then (if x9 < (x7.length : Int) then (if (rd x7 x9) = x1 then (some true) else (spec_l1Has.l0 k x1 x7 x8 (wrap64 (x9 + 1)))) else (none)) else (none)) else (some false)
def spec_l1Has.f (k : Nat) (l0 : List Int) (a1 : Int) : Option (Bool) := spec_l1Has.l0 k a1 l0 (l0.length : Int) 0
theorem spec_l1Has.mono_l : ∀ k, (∀ y0 y1 y2 y3, LeO (spec_l1Has.l0 k y0 y1 y2 y3) (spec_l1Has.l0 (k + 1) y0 y1 y2 y3))
  | 0 => fun _ _ _ _ r h => by simp [spec_l1Has.l0] at h
  | k + 1 => by
    have ih0 := spec_l1Has.mono_l k
    · intro y0 y1 y2 y3
      unfold spec_l1Has.l0
      repeat' first
      | (with_reducible exact ih0 _ _ _ _)
      | (with_reducible exact LeO.refl _)
      | (with_reducible exact LeO.none _)
      | (with_reducible refine LeO.ite ?_ ?_)
      | (with_reducible refine LeO.bind ?_ (fun _ => ?_))
      | exact ih0 _ _ _ _
      | exact LeO.none _
      | refine LeO.ite ?_ ?_
      | refine LeO.bind ?_ (fun _ => ?_)
theorem spec_l1Has.mono : ∀ a0 a1 k, LeO (spec_l1Has.f k a0 a1) (spec_l1Has.f (k + 1) a0 a1) := by
  intro a0 a1 k
  have ih0 := spec_l1Has.mono_l k
  unfold spec_l1Has.f
  repeat' first
      | (with_reducible exact ih0 _ _ _ _)
      | (with_reducible exact LeO.refl _)
      | (with_reducible exact LeO.none _)
      | (with_reducible refine LeO.ite ?_ ?_)
      | (with_reducible refine LeO.bind ?_ (fun _ => ?_))
      | exact ih0 _ _ _ _
      | exact LeO.none _
      | refine LeO.ite ?_ ?_
      | refine LeO.bind ?_ (fun _ => ?_)
noncomputable def spec_l1Has.L0 (y0 : Int) (y1 : List Int) (y2 : Int) (y3 : Int) : Option (Bool) := lim fun k => spec_l1Has.l0 k y0 y1 y2 y3
theorem spec_l1Has.L0_sup (y0 : Int) (y1 : List Int) (y2 : Int) (y3 : Int) : Sup (fun k => spec_l1Has.l0 k y0 y1 y2 y3) (spec_l1Has.L0 y0 y1 y2 y3) := Sup.of_mono fun k => spec_l1Has.mono_l k y0 y1 y2 y3
noncomputable def spec_l1Has.F (l0 : List Int) (a1 : Int) : Option (Bool) := lim fun k => spec_l1Has.f k l0 a1
theorem spec_l1Has.F_sup (l0 : List Int) (a1 : Int) : Sup (fun k => spec_l1Has.f k l0 a1) (spec_l1Has.F l0 a1) := Sup.of_mono fun k => spec_l1Has.mono l0 a1 k
theorem spec_l1Has.L0_eq (x1 : Int) (x7 : List Int) (x8 : Int) (x9 : Int) : spec_l1Has.L0 x1 x7 x8 x9 = if x9 < x8 then (if 0 ≤ x9 then (if x9 < (x7.length : Int) then (if (rd x7 x9) = x1 then (some true) else (spec_l1Has.L0 x1 x7 x8 (wrap64 (x9 + 1)))) else (none)) else (none)) else (some false) := by
  refine Sup.unique (spec_l1Has.L0_sup x1 x7 x8 x9) (Sup.shift (fun k => spec_l1Has.mono_l k x1 x7 x8 x9) (Sup.congr (g' := fun k => if x9 < x8 then (if 0 ≤ x9 then (if x9 < (x7.length : Int) then (if (rd x7 x9) = x1 then (some true) else (spec_l1Has.l0 k x1 x7 x8 (wrap64 (x9 + 1)))) else (none)) else (none)) else (some false)) (fun k => by first | rfl | simp only [spec_l1Has.l0]) ?_))
  repeat' first
    | (with_reducible exact spec_l1Has.L0_sup _ _ _ _)
    | (with_reducible refine Sup.ite ?_ ?_)
    | (with_reducible refine Sup.bind ?_ (fun _ => ?_))
    | (with_reducible exact Sup.const _)
    | exact spec_l1Has.L0_sup _ _ _ _
    | exact Sup.const _
theorem spec_l1Has.F_eq (l0 : List Int) (a1 : Int) : spec_l1Has.F l0 a1 = spec_l1Has.L0 a1 l0 (l0.length : Int) 0 := by
  refine Sup.unique (spec_l1Has.F_sup l0 a1) (Sup.congr (g' := fun k => spec_l1Has.l0 k a1 l0 (l0.length : Int) 0) (fun k => by first | rfl | simp only [spec_l1Has.f]) ?_)
  repeat' first
    | (with_reducible exact spec_l1Has.L0_sup _ _ _ _)
    | (with_reducible refine Sup.ite ?_ ?_)
    | (with_reducible refine Sup.bind ?_ (fun _ => ?_))
    | (with_reducible exact Sup.const _)
    | exact spec_l1Has.L0_sup _ _ _ _
    | exact Sup.const _
set_option maxHeartbeats 8000000 in
set_option maxRecDepth 100000 in
theorem spec_l1Has.calls (k : Nat) (A0 : Option Addr) (c0 : Nat) (l0 : List Int) (a1 : Int) (r : Bool) (w : World) (hr0 : Kd.C (Kd.int .i64) w A0 l0.length l0) (hc0 : l0.length ≤ c0) (h : spec_l1Has.f k l0 a1 = some r) :
    Calls Try.prog 127 #[.slice A0 l0.length c0, .int .i64 a1] w fun e w' => e = .returned (.bool r) ∧ Drawn0 w w' := by
  have HR0 := Aside0.mk hr0
  have HC0 := Aside0.mk hc0
  clear hr0 hc0
  have H : (spec_l1Has.l0 k a1 l0 (l0.length : Int) 0) = some r := h
  clear h
  have H' := Aside0.mk H
  clear H
  go_enter Try.func127, Try.ntmps127
  go_wp2
  go_loopg [9] k (fun kq v9 w' => ∃ (x9_1 : Int), v9 = .int .i64 x9_1 ∧ Aside0 (spec_l1Has.l0 kq a1 l0 (l0.length : Int) x9_1 = some r) ∧ Aside0 (kq ≤ k) ∧ Drawn0 w w')
  case atStart => exact ⟨(0), (by first | rfl | (simp; done) | (simp [*]; done)), H', ⟨Nat.le_refl _⟩, by repeat (first | exact Drawn0.refl _ | apply Drawn0.step)⟩
  case round =>
   clear H'
   try clear c1
   try clear p2
   obtain ⟨x9_1, rfl, HA, HK1, ⟨m1, rfl⟩⟩ := hrel
   cases gk with
   | zero => exact absurd HA.out (by simp [spec_l1Has.l0])
   | succ k1 =>
    have H := HA.out
    clear HA
    simp only [spec_l1Has.l0] at H
    by_cases c3 : x9_1 < (l0.length : Int)
    ·rw [if_pos c3] at H
     have c3b0 : decide (x9_1 < (l0.length : Int)) = true := decide_eq_true c3
     clear c3
     by_cases c4 : 0 ≤ x9_1
     ·rw [if_pos c4] at H
      have c4b0 : decide (0 ≤ x9_1) = true := decide_eq_true c4
      clear c4
      by_cases c5 : x9_1 < (l0.length : Int)
      ·rw [if_pos c5] at H
       have c5b0 : decide (x9_1 < (l0.length : Int)) = true := decide_eq_true c5
       clear c5
       by_cases c6 : (rd l0 x9_1) = a1
       ·rw [if_pos c6] at H
        have c6b0 : ((rd l0 x9_1) == a1) = true := beq_iff_eq.mpr c6
        have c6b1 : ((rd l0 x9_1) != a1) = false := bne_eq_false_iff_eq.mpr c6
        clear c6
        obtain rfl := Option.some.inj H
        have p305 : 0 ≤ (x9_1 : Int) := of_decide_eq_true (by first | (with_reducible assumption) | assumption)
        have q305 : x9_1 < (l0.length : Int) := of_decide_eq_true (by first | (with_reducible assumption) | assumption)
        obtain ⟨ad305, e305, hx305_0⟩ := Kd.at_int HR0.out x9_1 p305 q305
        cases e305
        replace p305 := eq_true p305
        replace q305 := eq_true q305
        go_wp2
        go_ret
        exact ⟨by first | rfl | (simp; done) | (simp [*]; done), by repeat (first | exact Drawn0.refl _ | apply Drawn0.step)⟩
       ·rw [if_neg c6] at H
        have c6b0 : ((rd l0 x9_1) == a1) = false := beq_eq_false_iff_ne.mpr c6
        have c6b1 : ((rd l0 x9_1) != a1) = true := bne_iff_ne.mpr c6
        have H' := Aside0.mk H
        clear H
        have p305 : 0 ≤ (x9_1 : Int) := of_decide_eq_true (by first | (with_reducible assumption) | assumption)
        have q305 : x9_1 < (l0.length : Int) := of_decide_eq_true (by first | (with_reducible assumption) | assumption)
        obtain ⟨ad305, e305, hx305_0⟩ := Kd.at_int HR0.out x9_1 p305 q305
        cases e305
        replace p305 := eq_true p305
        replace q305 := eq_true q305
        go_wp2
        go_roundg k1
        case measure => have := HK1.out; omega
        case rel => exact ⟨(wrap64 (x9_1 + 1)), (by first | rfl | (simp; done) | (simp [*]; done)), H', ⟨by have := HK1.out; omega⟩, by repeat (first | exact Drawn0.refl _ | apply Drawn0.step)⟩
      ·rw [if_neg c5] at H
       exact absurd H (by simp)
     ·rw [if_neg c4] at H
      exact absurd H (by simp)
    ·rw [if_neg c3] at H
     have c3b0 : decide (x9_1 < (l0.length : Int)) = false := decide_eq_false c3
     clear c3
     obtain rfl := Option.some.inj H
     go_wp2
     go_ret
     exact ⟨by first | rfl | (simp; done) | (simp [*]; done), by repeat (first | exact Drawn0.refl _ | apply Drawn0.step)⟩
/-! ### impl_distinct: function 91 -/
def impl_distinct.l0 : Nat → List Int → List Int → Int → Option (Bool)
  | 0, _, _, _ => none
  | k + 1, x0, x1, x9 => if x9 < (x1.length : Int) then (if 0 ≤ x9 then (if rd x1 x9 ∈ x0 then (some false) else (impl_distinct.l0 k (x0 ++ [rd x1 x9]) x1 (wrap64 (x9 + 1)))) else (none)) else (some true)
def impl_distinct.f (k : Nat) (l0 : List Int) : Option (Bool) := if l0.length < 140737488355328 then (if (∀ x ∈ l0, (Lit.int .i64 x).wf = true) then (impl_distinct.l0 k [] l0 0) else (none)) else (none)
theorem impl_distinct.mono_l : ∀ k, (∀ y0 y1 y2, LeO (impl_distinct.l0 k y0 y1 y2) (impl_distinct.l0 (k + 1) y0 y1 y2))
  | 0 => fun _ _ _ r h => by simp [impl_distinct.l0] at h
  | k + 1 => by
    have ih0 := impl_distinct.mono_l k
    · intro y0 y1 y2
      unfold impl_distinct.l0
      repeat' first
      | (with_reducible exact ih0 _ _ _)
      | (with_reducible exact LeO.refl _)
      | (with_reducible exact LeO.none _)
      | (with_reducible refine LeO.ite ?_ ?_)
      | (with_reducible refine LeO.bind ?_ (fun _ => ?_))
      | exact ih0 _ _ _
      | exact LeO.none _
      | refine LeO.ite ?_ ?_
      | refine LeO.bind ?_ (fun _ => ?_)
theorem impl_distinct.mono : ∀ a0 k, LeO (impl_distinct.f k a0) (impl_distinct.f (k + 1) a0) := by
  intro a0 k
  have ih0 := impl_distinct.mono_l k
  unfold impl_distinct.f
  repeat' first
      | (with_reducible exact ih0 _ _ _)
      | (with_reducible exact LeO.refl _)
      | (with_reducible exact LeO.none _)
      | (with_reducible refine LeO.ite ?_ ?_)
      | (with_reducible refine LeO.bind ?_ (fun _ => ?_))
      | exact ih0 _ _ _
      | exact LeO.none _
      | refine LeO.ite ?_ ?_
      | refine LeO.bind ?_ (fun _ => ?_)
noncomputable def impl_distinct.L0 (y0 : List Int) (y1 : List Int) (y2 : Int) : Option (Bool) := lim fun k => impl_distinct.l0 k y0 y1 y2
theorem impl_distinct.L0_sup (y0 : List Int) (y1 : List Int) (y2 : Int) : Sup (fun k => impl_distinct.l0 k y0 y1 y2) (impl_distinct.L0 y0 y1 y2) := Sup.of_mono fun k => impl_distinct.mono_l k y0 y1 y2
noncomputable def impl_distinct.F (l0 : List Int) : Option (Bool) := lim fun k => impl_distinct.f k l0
theorem impl_distinct.F_sup (l0 : List Int) : Sup (fun k => impl_distinct.f k l0) (impl_distinct.F l0) := Sup.of_mono fun k => impl_distinct.mono l0 k
theorem impl_distinct.L0_eq (x0 : List Int) (x1 : List Int) (x9 : Int) : impl_distinct.L0 x0 x1 x9 = if x9 < (x1.length : Int) then (if 0 ≤ x9 then (if rd x1 x9 ∈ x0 then (some false) else (impl_distinct.L0 (x0 ++ [rd x1 x9]) x1 (wrap64 (x9 + 1)))) else (none)) else (some true) := by
  refine Sup.unique (impl_distinct.L0_sup x0 x1 x9) (Sup.shift (fun k => impl_distinct.mono_l k x0 x1 x9) (Sup.congr (g' := fun k => if x9 < (x1.length : Int) then (if 0 ≤ x9 then (if rd x1 x9 ∈ x0 then (some false) else (impl_distinct.l0 k (x0 ++ [rd x1 x9]) x1 (wrap64 (x9 + 1)))) else (none)) else (some true)) (fun k => by first | rfl | simp only [impl_distinct.l0]) ?_))
  repeat' first
    | (with_reducible exact impl_distinct.L0_sup _ _ _)
    | (with_reducible refine Sup.ite ?_ ?_)
    | (with_reducible refine Sup.bind ?_ (fun _ => ?_))
    | (with_reducible exact Sup.const _)
    | exact impl_distinct.L0_sup _ _ _
    | exact Sup.const _
theorem impl_distinct.F_eq (l0 : List Int) : impl_distinct.F l0 = if l0.length < 140737488355328 then (if (∀ x ∈ l0, (Lit.int .i64 x).wf = true) then (impl_distinct.L0 [] l0 0) else (none)) else (none) := by
  refine Sup.unique (impl_distinct.F_sup l0) (Sup.congr (g' := fun k => if l0.length < 140737488355328 then (if (∀ x ∈ l0, (Lit.int .i64 x).wf = true) then (impl_distinct.l0 k [] l0 0) else (none)) else (none)) (fun k => by first | rfl | simp only [impl_distinct.f]) ?_)
  repeat' first
    | (with_reducible exact impl_distinct.L0_sup _ _ _)
    | (with_reducible refine Sup.ite ?_ ?_)
    | (with_reducible refine Sup.bind ?_ (fun _ => ?_))
    | (with_reducible exact Sup.const _)
    | exact impl_distinct.L0_sup _ _ _
    | exact Sup.const _
set_option maxHeartbeats 8000000 in
set_option maxRecDepth 100000 in
theorem impl_distinct.calls (k : Nat) (A0 : Option Addr) (c0 : Nat) (l0 : List Int) (r : Bool) (w : World) (hr0 : Kd.C (Kd.int .i64) w A0 l0.length l0) (hc0 : l0.length ≤ c0) (h : impl_distinct.f k l0 = some r) :
    Calls Try.prog 91 #[.slice A0 l0.length c0] w fun e w' => e = .returned (.bool r) ∧ Below w.heap.size w w' := by
  have HR0 := Aside0.mk hr0
  clear hr0
  unfold impl_distinct.f at h
  by_cases c1 : l0.length < 140737488355328
  ·rw [if_pos c1] at h
   by_cases c2 : ∀ x ∈ l0, (Lit.int .i64 x).wf = true
   ·rw [if_pos c2] at h
    have H' := Aside0.mk h
    have HL := Aside0.mk c1
    have HF := Aside0.mk c2
    clear h c1 c2
    have zeroE : ∀ W : World, (zeroValue 4).run Try.prog W = .ok (.bool false) W := fun W => by kernel_rfl
    have hmm := @run_makeMap Try.prog
    go_enter Try.func91, Try.ntmps91
    go_wp2
    go_loopg [9] k (fun kq v9 w' => ∃ (acc : List Int) (x9_1 : Int), v9 = .int .i64 x9_1 ∧ Aside0 (impl_distinct.l0 kq acc l0 x9_1 = some r) ∧ Aside0 (kq ≤ k) ∧ Aside0 (w'.ownsMap Try.prog 3 (plainElem Try.prog 4) w.heap.size acc.length (setI acc)) ∧ Aside0 ((acc.length : Int) = x9_1) ∧ Aside0 (Below w.heap.size w w'))
    case atStart => exact ⟨[], 0, rfl, H', ⟨Nat.le_refl _⟩, ⟨World.ownsMap_made _ _ _ _⟩, ⟨rfl⟩, ⟨(Below.refl _ _).alloc (Nat.le_refl _) _⟩⟩
    case round =>
     clear H'
     obtain ⟨acc, x9_1, rfl, HA, HK1, HM, HN, HB⟩ := hrel
     cases gk with
     | zero => exact absurd HA.out (by simp [impl_distinct.l0])
     | succ k1 =>
      have H := HA.out
      clear HA
      simp only [impl_distinct.l0] at H
      by_cases c3 : x9_1 < (l0.length : Int)
      ·rw [if_pos c3] at H
       have c3b0 : decide (x9_1 < (l0.length : Int)) = true := decide_eq_true c3
       by_cases c4 : 0 ≤ x9_1
       ·rw [if_pos c4] at H
        have HW := Aside0.mk (HF.out (rd l0 x9_1) (by unfold rd; rw [List.getD_eq_getElem?_getD, List.getElem?_eq_getElem (by omega)]; exact List.getElem_mem _))
        obtain ⟨ad7, e7, hx7⟩ := Kd.at_int HR0.out x9_1 c4 c3
        cases e7
        replace hx7 := (HB.out.cell (World.block_lt_of_cell? w _ hx7)).trans hx7
        have HX := Aside0.mk (show acc.length < maxLen from by have h1_ := HN.out; have h2_ := HL.out; unfold maxLen; omega)
        have p7 := eq_true c4
        have q7 := eq_true c3
        clear c3 c4
        by_cases c5 : rd l0 x9_1 ∈ acc
        ·rw [if_pos c5] at H
         obtain rfl := Option.some.inj H
         have HT := Aside0.mk ((setI_at (rd l0 x9_1) acc).trans (by rw [decide_eq_true c5] : _ = DataW.lit (.bool true)))
         clear c5 H
         go_wp2_with (first | (at_lookup; refine lookup_bool_ _ rfl _ _ 133 rfl 3 4 (Go.Maps.int_keyed Try.underlying3) Try.underlying133 Try.underlying4 (zeroE _) w.heap.size acc.length _ rfl HM.out _ _ rfl (Go.Maps.keyOf_int_mk Try.underlying3 HW.out) true HT.out ?_))
         go_ret
         exact ⟨rfl, HB.out⟩
        ·rw [if_neg c5] at H
         have H' := Aside0.mk H
         have HT := Aside0.mk ((setI_at (rd l0 x9_1) acc).trans (by rw [decide_eq_false c5] : _ = DataW.lit (.bool false)))
         clear c5 H
         go_wp2_with (first | (at_lookup; refine lookup_bool_ _ rfl _ _ 133 rfl 3 4 (Go.Maps.int_keyed Try.underlying3) Try.underlying133 Try.underlying4 (zeroE _) w.heap.size acc.length _ rfl HM.out _ _ rfl (Go.Maps.keyOf_int_mk Try.underlying3 HW.out) false HT.out ?_) | (at_mapUpdate; refine wpList_mapUpdate_own _ rfl _ _ _ 133 rfl 3 4 (Go.Maps.int_keyed Try.underlying3) Try.underlying133 (plainElem (H := Unit) Try.prog 4) w.heap.size acc.length _ rfl HM.out HX.out _ _ _ rfl rfl (Go.Maps.keyOf_int_mk Try.underlying3 HW.out) _ [] (plainElem_bool Try.underlying4 true) ?_; intro w1 hown1 hgrow1; have n0_ := Aside0.mk (show w1.ownsMap Try.prog 3 (plainElem Try.prog 4) w.heap.size (acc ++ [rd l0 x9_1]).length (setI (acc ++ [rd l0 x9_1])) from by rw [setI_snoc, List.length_append]; exact hown1); have n1_ := Aside0.mk (HB.out.grown hgrow1 HB.out.size (fun j hj => by cases hj; exact Nat.le_refl _)); clear HM HB hown1 hgrow1; have HM := n0_; have HB := n1_; clear n0_ n1_))
         go_roundg k1
         case measure => have := HK1.out; omega
         case rel => exact ⟨acc ++ [rd l0 x9_1], wrap64 (x9_1 + 1), by first | rfl | (simp; done) | (simp [*]; done), H', ⟨by have := HK1.out; omega⟩, HM, ⟨by have h1_ := HN.out; have h2_ := HL.out; have h3_ := of_eq_true q7; rw [List.length_append, List.length_singleton]; unfold wrap64; omega⟩, HB⟩
       ·rw [if_neg c4] at H
        exact absurd H (by simp)
      ·rw [if_neg c3] at H
       have c3b0 : decide (x9_1 < (l0.length : Int)) = false := decide_eq_false c3
       clear c3
       obtain rfl := Option.some.inj H
       go_wp2
       go_ret
       exact ⟨rfl, HB.out⟩
   ·rw [if_neg c2] at h
    exact absurd h (by simp)
  ·rw [if_neg c1] at h
   exact absurd h (by simp)
end Go.Proofs.Ytioncjcmfbndmaa.X
