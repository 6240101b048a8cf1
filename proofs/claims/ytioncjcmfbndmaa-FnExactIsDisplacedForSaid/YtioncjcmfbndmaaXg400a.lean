/- Written by a program of this session: what functions of the given program compute, and that their calls do so. -/
import Derived.Test.YtioncjcmfbndmaaXx0
import Derived.Test.YtioncjcmfbndmaaXg401a
import Derived.Test.YtioncjcmfbndmaaXg710a
namespace Go.Proofs.Ytioncjcmfbndmaa.X
open Go.RowKit Go.Proofs.YtioncjcmfbndmaaW.PrintWords Go.Proofs.YtioncjcmfbndmaaW.PrintLast Go.Proofs.YtioncjcmfbndmaaW.PrintMore
attribute [local go_sem] max2_int min2_int max_two min_two max_three min_three max_four min_four   -- for this text's walks alone
set_option linter.unusedVariables false
set_option linter.unusedSimpArgs false
/-! ### spec_l1Has: function 127 -/
def spec_l1Has.l0 : Nat → Int → List Int → Int → Int → Option (Bool)
  | 0, _, _, _, _ => none
  | k + 1, x1, x7, x8, x9 => if x9 < x8 then (if 0 ≤ x9 then (if x9 < (x7.length : Int) then (if (rd x7 x9) = x1 then (some true) else (spec_l1Has.l0 k x1 x7 x8 (wrap64 (x9 + 1)))) else (none)) else (none)) else (some false)
def spec_l1Has.f (k : Nat) (l0 : List Int) (a1 : Int) : Option (Bool) := spec_l1Has.l0 k a1 l0 (l0.length : Int) 0
theorem spec_l1Has.mono_l : ∀ k, (∀ y0 y1 y2 y3, LeO (spec_l1Has.l0 k y0 y1 y2 y3) (spec_l1Has.l0 (k + 1) y0 y1 y2 y3))
  | 0 => fun _ _ _ _ r h => by simp [spec_l1Has.l0] at h
  | k + 1 => by
    have ih0 := spec_l1Has.mono_l k
    · intro y0 y1 y2 y3
      unfold spec_l1Has.l0
      repeat' first
      | (with_reducible exact ih0 _ _ _ _)
      | (with_reducible exact LeO.refl _)
      | (with_reducible exact LeO.none _)
      | (with_reducible refine LeO.ite ?_ ?_)
      | (with_reducible refine LeO.bind ?_ (fun _ => ?_))
      | exact ih0 _ _ _ _
      | exact LeO.none _
      | refine LeO.ite ?_ ?_
      | refine LeO.bind ?_ (fun _ => ?_)
theorem spec_l1Has.mono : ∀ a0 a1 k, LeO (spec_l1Has.f k a0 a1) (spec_l1Has.f (k + 1) a0 a1) := by
  intro a0 a1 k
  have ih0 := spec_l1Has.mono_l k
  unfold spec_l1Has.f
  repeat' first
      | (with_reducible exact ih0 _ _ _ _)
      | (with_reducible exact LeO.refl _)
      | (with_reducible exact LeO.none _)
      | (with_reducible refine LeO.ite ?_ ?_)
      | (with_reducible refine LeO.bind ?_ (fun _ => ?_))
      | exact ih0 _ _ _ _
      | exact LeO.none _
      | refine LeO.ite ?_ ?_
      | refine LeO.bind ?_ (fun _ => ?_)
noncomputable def spec_l1Has.L0 (y0 : Int) (y1 : List Int) (y2 : Int) (y3 : Int) : Option (Bool) := lim fun k => spec_l1Has.l0 k y0 y1 y2 y3
theorem spec_l1Has.L0_sup (y0 : Int) (y1 : List Int) (y2 : Int) (y3 : Int) : Sup (fun k => spec_l1Has.l0 k y0 y1 y2 y3) (spec_l1Has.L0 y0 y1 y2 y3) := Sup.of_mono fun k => spec_l1Has.mono_l k y0 y1 y2 y3
noncomputable def spec_l1Has.F (l0 : List Int) (a1 : Int) : Option (Bool) := lim fun k => spec_l1Has.f k l0 a1
theorem spec_l1Has.F_sup (l0 : List Int) (a1 : Int) : Sup (fun k => spec_l1Has.f k l0 a1) (spec_l1Has.F l0 a1) := Sup.of_mono fun k => spec_l1Has.mono l0 a1 k
theorem spec_l1Has.L0_eq (x1 : Int) (x7 : List Int) (x8 : Int) (x9 : Int) : spec_l1Has.L0 x1 x7 x8 x9 = if x9 < x8 then (if 0 ≤ x9 then (if x9 < (x7.length : Int) then (if (rd x7 x9) = x1 then (some true) else (spec_l1Has.L0 x1 x7 x8 (wrap64 (x9 + 1)))) else (none)) else (none)) else (some false) := by
  refine Sup.unique (spec_l1Has.L0_sup x1 x7 x8 x9) (Sup.shift (fun k => spec_l1Has.mono_l k x1 x7 x8 x9) (Sup.congr (g' := fun k => if x9 < x8 then (if 0 ≤ x9 then (if x9 < (x7.length : Int) then (if (rd x7 x9) = x1 then (some true) else (spec_l1Has.l0 k x1 x7 x8 (wrap64 (x9 + 1)))) else (none)) else (none)) else (some false)) (fun k => by first | rfl | simp only [spec_l1Has.l0]) ?_))
  repeat' first
    | (with_reducible exact spec_l1Has.L0_sup _ _ _ _)
    | (with_reducible refine Sup.ite ?_ ?_)
    | (with_reducible refine Sup.bind ?_ (fun _ => ?_))
    | (with_reducible exact Sup.const _)
    | exact spec_l1Has.L0_sup _ _ _ _
    | exact Sup.const _
theorem spec_l1Has.F_eq (l0 : List Int) (a1 : Int) : spec_l1Has.F l0 a1 = spec_l1Has.L0 a1 l0 (l0.length : Int) 0 := by
  refine Sup.unique (spec_l1Has.F_sup l0 a1) (Sup.congr (g' := fun k => spec_l1Has.l0 k a1 l0 (l0.length : Int) 0) (fun k => by first | rfl | simp only [spec_l1Has.f]) ?_)
  repeat' first
    | (with_reducible exact spec_l1Has.L0_sup _ _ _ _)
    | (with_reducible refine Sup.ite ?_ ?_)
    | (with_reducible refine Sup.bind ?_ (fun _ => ?_))
    | (with_reducible exact Sup.const _)
    | exact spec_l1Has.L0_sup _ _ _ _
    | exact Sup.const _
set_option maxHeartbeats 8000000 in
set_option maxRecDepth 100000 in
theorem spec_l1Has.calls (k : Nat) (A0 : Option Addr) (c0 : Nat) (l0 : List Int) (a1 : Int) (r : Bool) (w : World) (hr0 : Kd.C (Kd.int .i64) w A0 l0.length l0) (hc0 : l0.length ≤ c0) (h : spec_l1Has.f k l0 a1 = some r) :
    Calls Try.prog 127 #[.slice A0 l0.length c0, .int .i64 a1] w fun e w' => e = .returned (.bool r) ∧ Drawn0 w w' := by
  have HR0 := Aside0.mk hr0
  have HC0 := Aside0.mk hc0
  clear hr0 hc0
  have H : (spec_l1Has.l0 k a1 l0 (l0.length : Int) 0) = some r := h
  clear h
  have H' := Aside0.mk H
  clear H
  go_enter Try.func127, Try.ntmps127
  go_wp2
  go_loopg [9] k (fun kq v9 w' => ∃ (x9_1 : Int), v9 = .int .i64 x9_1 ∧ Aside0 (spec_l1Has.l0 kq a1 l0 (l0.length : Int) x9_1 = some r) ∧ Aside0 (kq ≤ k) ∧ Drawn0 w w')
  case atStart => exact ⟨(0), (by first | rfl | (simp; done) | (simp [*]; done)), H', ⟨Nat.le_refl _⟩, by repeat (first | exact Drawn0.refl _ | apply Drawn0.step)⟩
  case round =>
   clear H'
   try clear c1
   try clear p2
   obtain ⟨x9_1, rfl, HA, HK1, ⟨m1, rfl⟩⟩ := hrel
   cases gk with
   | zero => exact absurd HA.out (by simp [spec_l1Has.l0])
   | succ k1 =>
    have H := HA.out
    clear HA
    simp only [spec_l1Has.l0] at H
    by_cases c3 : x9_1 < (l0.length : Int)
    ·rw [if_pos c3] at H
     have c3b0 : decide (x9_1 < (l0.length : Int)) = true := decide_eq_true c3
     clear c3
     by_cases c4 : 0 ≤ x9_1
     ·rw [if_pos c4] at H
      have c4b0 : decide (0 ≤ x9_1) = true := decide_eq_true c4
      clear c4
      by_cases c5 : x9_1 < (l0.length : Int)
      ·rw [if_pos c5] at H
       have c5b0 : decide (x9_1 < (l0.length : Int)) = true := decide_eq_true c5
       clear c5
       by_cases c6 : (rd l0 x9_1) = a1
       ·rw [if_pos c6] at H
        have c6b0 : ((rd l0 x9_1) == a1) = true := beq_iff_eq.mpr c6
        have c6b1 : ((rd l0 x9_1) != a1) = false := bne_eq_false_iff_eq.mpr c6
        clear c6
        obtain rfl := Option.some.inj H
        have p305 : 0 ≤ (x9_1 : Int) := of_decide_eq_true (by first | (with_reducible assumption) | assumption)
        have q305 : x9_1 < (l0.length : Int) := of_decide_eq_true (by first | (with_reducible assumption) | assumption)
        obtain ⟨ad305, e305, hx305_0⟩ := Kd.at_int HR0.out x9_1 p305 q305
        cases e305
        replace p305 := eq_true p305
        replace q305 := eq_true q305
        go_wp2
        go_ret
        exact ⟨by first | rfl | (simp; done) | (simp [*]; done), by repeat (first | exact Drawn0.refl _ | apply Drawn0.step)⟩
       ·rw [if_neg c6] at H
        have c6b0 : ((rd l0 x9_1) == a1) = false := beq_eq_false_iff_ne.mpr c6
        have c6b1 : ((rd l0 x9_1) != a1) = true := bne_iff_ne.mpr c6
        have H' := Aside0.mk H
        clear H
        have p305 : 0 ≤ (x9_1 : Int) := of_decide_eq_true (by first | (with_reducible assumption) | assumption)
        have q305 : x9_1 < (l0.length : Int) := of_decide_eq_true (by first | (with_reducible assumption) | assumption)
        obtain ⟨ad305, e305, hx305_0⟩ := Kd.at_int HR0.out x9_1 p305 q305
        cases e305
        replace p305 := eq_true p305
        replace q305 := eq_true q305
        go_wp2
        go_roundg k1
        case measure => have := HK1.out; omega
        case rel => exact ⟨(wrap64 (x9_1 + 1)), (by first | rfl | (simp; done) | (simp [*]; done)), H', ⟨by have := HK1.out; omega⟩, by repeat (first | exact Drawn0.refl _ | apply Drawn0.step)⟩
      ·rw [if_neg c5] at H
       exact absurd H (by simp)
     ·rw [if_neg c4] at H
      exact absurd H (by simp)
    ·rw [if_neg c3] at H
     have c3b0 : decide (x9_1 < (l0.length : Int)) = false := decide_eq_false c3
     clear c3
     obtain rfl := Option.some.inj H
     go_wp2
     go_ret
     exact ⟨by first | rfl | (simp; done) | (simp [*]; done), by repeat (first | exact Drawn0.refl _ | apply Drawn0.step)⟩
/-! ### spec_pfSlots: function 111 -/
def spec_pfSlots.l0 : Nat → List Int → List ByteArray → Int → Int → Int → Int → Int → List Int → Option (List Int × Bool)
  | 0, _, _, _, _, _, _, _, _ => none
  | k + 1, x6, x10, x11, x12, x846000, x846001, x846002, x846003 => if x12 < x11 then (if 0 ≤ x12 then (if x12 < (x10.length : Int) then ((spec_pfSlotOf.f k x846000 x846001 x846002 x846003 (rdOf ByteArray.empty x10 x12)).bind fun t847 => ((spec_l1Has.f k x6 t847).bind fun t848 => (if t848 = true then (some (([] : List Int), false)) else (if x6.length < 17592186044416 then (spec_pfSlots.l0 k (x6 ++ [t847]) x10 x11 (wrap64 (x12 + 1)) x846000 x846001 x846002 x846003) else (none))))) else (none)) else (none)) else (some (x6, true))
def spec_pfSlots.f (k : Nat) (a0_0 : Int) (a0_1 : Int) (a0_2 : Int) (l0_3 : List Int) (l1 : List ByteArray) : Option (List Int × Bool) := spec_pfSlots.l0 k ([] : List Int) l1 (l1.length : Int) 0 a0_0 a0_1 a0_2 l0_3
theorem spec_pfSlots.mono_l : ∀ k, (∀ y0 y1 y2 y3 y4 y5 y6 y7, LeO (spec_pfSlots.l0 k y0 y1 y2 y3 y4 y5 y6 y7) (spec_pfSlots.l0 (k + 1) y0 y1 y2 y3 y4 y5 y6 y7))
  | 0 => fun _ _ _ _ _ _ _ _ r h => by simp [spec_pfSlots.l0] at h
  | k + 1 => by
    have ih0 := spec_pfSlots.mono_l k
    · intro y0 y1 y2 y3 y4 y5 y6 y7
      unfold spec_pfSlots.l0
      repeat' first
      | (with_reducible exact ih0 _ _ _ _ _ _ _ _)
      | (with_reducible exact spec_l1Has.mono _ _ _)
      | (with_reducible exact spec_pfSlotOf.mono _ _ _ _ _ _)
      | (with_reducible exact LeO.refl _)
      | (with_reducible exact LeO.none _)
      | (with_reducible refine LeO.ite ?_ ?_)
      | (with_reducible refine LeO.bind ?_ (fun _ => ?_))
      | exact ih0 _ _ _ _ _ _ _ _
      | exact spec_l1Has.mono _ _ _
      | exact spec_pfSlotOf.mono _ _ _ _ _ _
      | exact LeO.none _
      | refine LeO.ite ?_ ?_
      | refine LeO.bind ?_ (fun _ => ?_)
theorem spec_pfSlots.mono : ∀ a0 a1 a2 a3 a4 k, LeO (spec_pfSlots.f k a0 a1 a2 a3 a4) (spec_pfSlots.f (k + 1) a0 a1 a2 a3 a4) := by
  intro a0 a1 a2 a3 a4 k
  have ih0 := spec_pfSlots.mono_l k
  unfold spec_pfSlots.f
  repeat' first
      | (with_reducible exact ih0 _ _ _ _ _ _ _ _)
      | (with_reducible exact spec_l1Has.mono _ _ _)
      | (with_reducible exact spec_pfSlotOf.mono _ _ _ _ _ _)
      | (with_reducible exact LeO.refl _)
      | (with_reducible exact LeO.none _)
      | (with_reducible refine LeO.ite ?_ ?_)
      | (with_reducible refine LeO.bind ?_ (fun _ => ?_))
      | exact ih0 _ _ _ _ _ _ _ _
      | exact spec_l1Has.mono _ _ _
      | exact spec_pfSlotOf.mono _ _ _ _ _ _
      | exact LeO.none _
      | refine LeO.ite ?_ ?_
      | refine LeO.bind ?_ (fun _ => ?_)
noncomputable def spec_pfSlots.L0 (y0 : List Int) (y1 : List ByteArray) (y2 : Int) (y3 : Int) (y4 : Int) (y5 : Int) (y6 : Int) (y7 : List Int) : Option (List Int × Bool) := lim fun k => spec_pfSlots.l0 k y0 y1 y2 y3 y4 y5 y6 y7
theorem spec_pfSlots.L0_sup (y0 : List Int) (y1 : List ByteArray) (y2 : Int) (y3 : Int) (y4 : Int) (y5 : Int) (y6 : Int) (y7 : List Int) : Sup (fun k => spec_pfSlots.l0 k y0 y1 y2 y3 y4 y5 y6 y7) (spec_pfSlots.L0 y0 y1 y2 y3 y4 y5 y6 y7) := Sup.of_mono fun k => spec_pfSlots.mono_l k y0 y1 y2 y3 y4 y5 y6 y7
noncomputable def spec_pfSlots.F (a0_0 : Int) (a0_1 : Int) (a0_2 : Int) (l0_3 : List Int) (l1 : List ByteArray) : Option (List Int × Bool) := lim fun k => spec_pfSlots.f k a0_0 a0_1 a0_2 l0_3 l1
theorem spec_pfSlots.F_sup (a0_0 : Int) (a0_1 : Int) (a0_2 : Int) (l0_3 : List Int) (l1 : List ByteArray) : Sup (fun k => spec_pfSlots.f k a0_0 a0_1 a0_2 l0_3 l1) (spec_pfSlots.F a0_0 a0_1 a0_2 l0_3 l1) := Sup.of_mono fun k => spec_pfSlots.mono a0_0 a0_1 a0_2 l0_3 l1 k
theorem spec_pfSlots.L0_eq (x6 : List Int) (x10 : List ByteArray) (x11 : Int) (x12 : Int) (x846000 : Int) (x846001 : Int) (x846002 : Int) (x846003 : List Int) : spec_pfSlots.L0 x6 x10 x11 x12 x846000 x846001 x846002 x846003 = if x12 < x11 then (if 0 ≤ x12 then (if x12 < (x10.length : Int) then ((spec_pfSlotOf.F x846000 x846001 x846002 x846003 (rdOf ByteArray.empty x10 x12)).bind fun t847 => ((spec_l1Has.F x6 t847).bind fun t848 => (if t848 = true then (some (([] : List Int), false)) else (if x6.length < 17592186044416 then (spec_pfSlots.L0 (x6 ++ [t847]) x10 x11 (wrap64 (x12 + 1)) x846000 x846001 x846002 x846003) else (none))))) else (none)) else (none)) else (some (x6, true)) := by
  refine Sup.unique (spec_pfSlots.L0_sup x6 x10 x11 x12 x846000 x846001 x846002 x846003) (Sup.shift (fun k => spec_pfSlots.mono_l k x6 x10 x11 x12 x846000 x846001 x846002 x846003) (Sup.congr (g' := fun k => if x12 < x11 then (if 0 ≤ x12 then (if x12 < (x10.length : Int) then ((spec_pfSlotOf.f k x846000 x846001 x846002 x846003 (rdOf ByteArray.empty x10 x12)).bind fun t847 => ((spec_l1Has.f k x6 t847).bind fun t848 => (if t848 = true then (some (([] : List Int), false)) else (if x6.length < 17592186044416 then (spec_pfSlots.l0 k (x6 ++ [t847]) x10 x11 (wrap64 (x12 + 1)) x846000 x846001 x846002 x846003) else (none))))) else (none)) else (none)) else (some (x6, true))) (fun k => by first | rfl | simp only [spec_pfSlots.l0]) ?_))
  repeat' first
    | (with_reducible exact spec_pfSlots.L0_sup _ _ _ _ _ _ _ _)
    | (with_reducible exact spec_pfSlotOf.F_sup _ _ _ _ _)
    | (with_reducible exact spec_l1Has.F_sup _ _)
    | (with_reducible refine Sup.ite ?_ ?_)
    | (with_reducible refine Sup.bind ?_ (fun _ => ?_))
    | (with_reducible exact Sup.const _)
    | exact spec_pfSlots.L0_sup _ _ _ _ _ _ _ _
    | exact spec_pfSlotOf.F_sup _ _ _ _ _
    | exact spec_l1Has.F_sup _ _
    | exact Sup.const _
theorem spec_pfSlots.F_eq (a0_0 : Int) (a0_1 : Int) (a0_2 : Int) (l0_3 : List Int) (l1 : List ByteArray) : spec_pfSlots.F a0_0 a0_1 a0_2 l0_3 l1 = spec_pfSlots.L0 ([] : List Int) l1 (l1.length : Int) 0 a0_0 a0_1 a0_2 l0_3 := by
  refine Sup.unique (spec_pfSlots.F_sup a0_0 a0_1 a0_2 l0_3 l1) (Sup.congr (g' := fun k => spec_pfSlots.l0 k ([] : List Int) l1 (l1.length : Int) 0 a0_0 a0_1 a0_2 l0_3) (fun k => by first | rfl | simp only [spec_pfSlots.f]) ?_)
  repeat' first
    | (with_reducible exact spec_pfSlots.L0_sup _ _ _ _ _ _ _ _)
    | (with_reducible exact spec_pfSlotOf.F_sup _ _ _ _ _)
    | (with_reducible exact spec_l1Has.F_sup _ _)
    | (with_reducible refine Sup.ite ?_ ?_)
    | (with_reducible refine Sup.bind ?_ (fun _ => ?_))
    | (with_reducible exact Sup.const _)
    | exact spec_pfSlots.L0_sup _ _ _ _ _ _ _ _
    | exact spec_pfSlotOf.F_sup _ _ _ _ _
    | exact spec_l1Has.F_sup _ _
    | exact Sup.const _
set_option maxHeartbeats 8000000 in
set_option maxRecDepth 100000 in
theorem spec_pfSlots.calls (k : Nat) (a0_0 : Int) (a0_1 : Int) (a0_2 : Int) (A0_3 : Option Addr) (c0_3 : Nat) (l0_3 : List Int) (A1 : Option Addr) (c1 : Nat) (l1 : List ByteArray) (r1 : List Int) (r2 : Bool) (w : World) (hr0_3 : Kd.C (Kd.int .i64) w A0_3 l0_3.length l0_3) (hc0_3 : l0_3.length ≤ c0_3) (hr1 : Kd.C Kd.string w A1 l1.length l1) (hc1 : l1.length ≤ c1) (h : spec_pfSlots.f k a0_0 a0_1 a0_2 l0_3 l1 = some (r1, r2)) :
    Calls Try.prog 111 #[.agg #[.int .i64 a0_0, .int .i64 a0_1, .int .i64 a0_2, .slice A0_3 l0_3.length c0_3], .slice A1 l1.length c1] w fun e w' => ∃ v0_ : Value, e = .returned (.tuple #[v0_, .bool r2]) ∧ Kd.R (Kd.int .i64) 3 w' w.heap.size (fun _ => True) v0_ r1 ∧ Below w.heap.size w w' := by
  have hu28 := Try.underlying28
  have HR0_3 := Aside0.mk hr0_3
  have HC0_3 := Aside0.mk hc0_3
  clear hr0_3 hc0_3
  have HR1 := Aside0.mk hr1
  have HC1 := Aside0.mk hc1
  clear hr1 hc1
  have HB := Aside0.mk (Below.refl w.heap.size w)
  have H : (spec_pfSlots.l0 k ([] : List Int) l1 (l1.length : Int) 0 a0_0 a0_1 a0_2 l0_3) = some (r1, r2) := h
  clear h
  have H' := Aside0.mk H
  clear H
  go_enter Try.func111, Try.ntmps111
  go_wp2_with (first | ((with_reducible refine gate_dst (N := 2) rfl ?_); refine box_event ?hg (N := 2) ?hd (cs := #[.int .i64 a0_0, .int .i64 a0_1, .int .i64 a0_2, .slice A0_3 l0_3.length c0_3]) (t := 28) ?hr ?_; (case hd => rfl); (case hg => rfl); (case hr => first | (go_simp; done) | (go_simp; rfl)); intro gb845 hg w3 hbox hb; have n0_ := Aside0.mk (below_step (by repeat (first | (with_reducible first | exact HB.out | apply below_alloc | apply pw_below_drewN | apply below_drew1) | exact HB.out)) hb); have n1_ := Aside0.mk (hbox); have n2_ := Aside0.mk ((by rw [hg]; exact (below_size (by repeat (first | (with_reducible first | exact HB.out | apply below_alloc | apply pw_below_drewN | apply below_drew1) | exact HB.out))) : w.heap.size ≤ gb845)); have n3_ := Aside0.mk ((by rw [hg]; exact (below_size (by repeat (first | (with_reducible first | exact HB.out | apply below_alloc | apply pw_below_drewN | apply below_drew1) | exact HB.out))) : w.heap.size ≤ gb845)); clear HB; have HB := n0_; have BK845 := n1_; have GW845 := n2_; have GE845 := n3_; clear n0_ n1_ n2_ n3_; clear hb hbox hg))
  go_loopg [6, 12] k (fun kq v6 v12 w' => ∃ (x6_1 : List Int) (x12_1 : Int), v12 = .int .i64 x12_1 ∧ Aside0 (spec_pfSlots.l0 kq x6_1 l1 (l1.length : Int) x12_1 a0_0 a0_1 a0_2 l0_3 = some (r1, r2)) ∧ Aside0 (kq ≤ k) ∧ Aside0 (Kd.R (Kd.int .i64) 3 w' w.heap.size (fun _ => True) v6 x6_1) ∧ Aside0 (w'.heap[gb845]? = some (.cells #[.int .i64 a0_0, .int .i64 a0_1, .int .i64 a0_2, (.slice A0_3 l0_3.length c0_3)] 28 (0, 0))) ∧ Aside0 (Below w.heap.size w w'))
  case atStart => exact ⟨(([] : List Int)), (0), (by first | rfl | (simp; done) | (simp [*]; done)), H', ⟨Nat.le_refl _⟩, ⟨by first | exact Kd.R_nil _ _ _ _ _ | exact Kd.N_nil _ _ _ _ _ | exact Kd.V_nil _ _ _ _ _ | exact Kd.Q_nil _ _ _ _ _ | exact Kd.S_nil _ _ _ _ _⟩, ⟨by (with_reducible repeat (first | refine blk_drewN ?_ _ | refine blk_drew ?_ | refine blk_alloc ?_ _)); exact BK845.out⟩, ⟨by repeat (first | (with_reducible first | exact HB.out | apply below_alloc | apply pw_below_drewN | apply below_drew1 | refine below_set ?_ GE845.out) | exact HB.out)⟩⟩
  case round =>
   clear H'
   try clear c1
   try clear p2
   obtain ⟨x6_1, x12_1, rfl, HA, HK1, HO_6, BK845, HB⟩ := hrel
   cases gk with
   | zero => exact absurd HA.out (by simp [spec_pfSlots.l0])
   | succ k1 =>
    have H := HA.out
    clear HA
    simp only [spec_pfSlots.l0] at H
    by_cases c4 : x12_1 < (l1.length : Int)
    ·rw [if_pos c4] at H
     have c4b0 : decide (x12_1 < (l1.length : Int)) = true := decide_eq_true c4
     clear c4
     by_cases c5 : 0 ≤ x12_1
     ·rw [if_pos c5] at H
      have c5b0 : decide (0 ≤ x12_1) = true := decide_eq_true c5
      clear c5
      by_cases c6 : x12_1 < (l1.length : Int)
      ·rw [if_pos c6] at H
       have c6b0 : decide (x12_1 < (l1.length : Int)) = true := decide_eq_true c6
       clear c6
       replace H := Option.bind_eq_some_iff.mp H
       obtain ⟨t847, A70, H⟩ := H
       replace H : ((spec_l1Has.f k1 x6_1 t847).bind fun t848 => (if t848 = true then (some (([] : List Int), false)) else (if x6_1.length < 17592186044416 then (spec_pfSlots.l0 k1 (x6_1 ++ [t847]) l1 (l1.length : Int) (wrap64 (x12_1 + 1)) a0_0 a0_1 a0_2 l0_3) else (none)))) = some (r1, r2) := H
       have A7 := Aside0.mk A70
       clear A70
       replace H := Option.bind_eq_some_iff.mp H
       obtain ⟨t848, A80, H⟩ := H
       replace H : (if t848 = true then (some (([] : List Int), false)) else (if x6_1.length < 17592186044416 then (spec_pfSlots.l0 k1 (x6_1 ++ [t847]) l1 (l1.length : Int) (wrap64 (x12_1 + 1)) a0_0 a0_1 a0_2 l0_3) else (none))) = some (r1, r2) := H
       have A8 := Aside0.mk A80
       clear A80
       by_cases c9 : t848 = true
       ·subst c9
        have H1 : (some (([] : List Int), false)) = some (r1, r2) := by rw [if_pos rfl] at H; exact H
        clear H
        have H := H1
        clear H1
        simp only [Option.some.injEq, Prod.mk.injEq] at H
        obtain ⟨rfl, rfl⟩ := H
        have p846 : 0 ≤ (x12_1 : Int) := of_decide_eq_true (by first | (with_reducible assumption) | assumption)
        have q846 : x12_1 < (l1.length : Int) := of_decide_eq_true (by first | (with_reducible assumption) | assumption)
        obtain ⟨ad846, e846, hx846_0⟩ := Kd.at_string HR1.out x12_1 p846 q846
        cases e846
        replace hx846_0 := (HB.out.cell (World.block_lt_of_cell? w _ hx846_0)).trans hx846_0
        replace p846 := eq_true p846
        replace q846 := eq_true q846
        have hcz10_0 : wr.cell? ⟨gb845, 0, none⟩ = some (.int .i64 a0_0) := (blk_cell BK845.out 0).trans rfl
        have hcz10_1 : wr.cell? ⟨gb845, 1, none⟩ = some (.int .i64 a0_1) := (blk_cell BK845.out 1).trans rfl
        have hcz10_2 : wr.cell? ⟨gb845, 2, none⟩ = some (.int .i64 a0_2) := (blk_cell BK845.out 2).trans rfl
        have hcz10_3 : wr.cell? ⟨gb845, 3, none⟩ = some (.slice A0_3 l0_3.length c0_3) := (blk_cell BK845.out 3).trans rfl
        have hfz10_0 := blk_frozen BK845.out 0
        have hfz10_1 := blk_frozen BK845.out 1
        have hfz10_2 := blk_frozen BK845.out 2
        have hfz10_3 := blk_frozen BK845.out 3
        go_wp2_with (first | ((with_reducible refine gate_callee (f := 71) rfl ?_); refine goesL_ (some 18) rfl rfl Try.func71 (by kernel_rfl) rfl #[.agg #[.int .i64 a0_0, .int .i64 a0_1, .int .i64 a0_2, .slice A0_3 l0_3.length c0_3], .string (rdOf ByteArray.empty l1 x12_1)] rfl (by (try simp only [List.map_toArray, List.map_cons, List.map_nil]); first | done | rfl | (simp only [List.length_drop, List.length_take]; rfl)) ?_; (with_reducible refine (spec_pfSlotOf.calls k1 a0_0 a0_1 a0_2 _ _ l0_3 (rdOf ByteArray.empty l1 x12_1) t847 _ ?side1 ?side2 A7.out).mono ?_); (case side1 => repeat (first | exact (Kd.C_below HR0_3.out HB.out) | (with_reducible refine Kd.C_alloc ?_ _) | (with_reducible refine Kd.C_drewN ?_ _) | (with_reducible refine Kd.C_drew ?_))); (case side2 => exact HC0_3.out); rintro e w11 ⟨rfl, hb⟩; refine ⟨_, rfl, ?_⟩; have n0_ := Aside0.mk (Kd.R_below (by (with_reducible repeat (first | apply Kd.R_alloc | apply Kd.R_drewN | apply Kd.R_drew)); exact HO_6.out) hb); have n1_ := Aside0.mk (blk_below (g := gb845) (o := .cells #[.int .i64 a0_0, .int .i64 a0_1, .int .i64 a0_2, .slice A0_3 l0_3.length c0_3] 28 (0, 0)) (by (with_reducible repeat (first | refine blk_drewN ?_ _ | refine blk_drew ?_ | refine blk_alloc ?_ _)); exact BK845.out) hb); have n2_ := Aside0.mk (below_step (by repeat (first | (with_reducible first | exact HB.out | apply below_alloc | apply pw_below_drewN | apply below_drew1 | refine below_set ?_ GE845.out) | exact HB.out)) hb); clear HO_6; clear BK845; clear HB; have HO_6 := n0_; have BK845 := n1_; have HB := n2_; clear n0_ n1_ n2_; (try clear hb); (try clear hb2); (try clear hk); (try clear hi); obtain ⟨Ao12, co12, eo12⟩ := Kd.R_slice HO_6.out; subst eo12) | ((with_reducible refine gate_callee (f := 127) rfl ?_); refine goesL_ (some 21) rfl rfl Try.func127 (by kernel_rfl) rfl #[.slice Ao12 x6_1.length co12, .int .i64 t847] rfl (by (try simp only [List.map_toArray, List.map_cons, List.map_nil]); first | done | rfl | (simp only [List.length_drop, List.length_take]; rfl)) ?_; (with_reducible refine (spec_l1Has.calls k1 _ _ x6_1 t847 true _ ?side1 ?side2 A8.out).mono ?_); (case side1 => repeat (first | exact (Kd.R_reads' HO_6.out).2.2 | (with_reducible refine Kd.C_alloc ?_ _) | (with_reducible refine Kd.C_drewN ?_ _) | (with_reducible refine Kd.C_drew ?_))); (case side2 => exact (Kd.R_reads' HO_6.out).2.1); rintro e w' ⟨rfl, ⟨nd, rfl⟩⟩; refine ⟨_, rfl, ?_⟩))
        go_ret2
        exact ⟨_, by first | rfl | (simp [errW_none, errW_some] <;> rfl) | (simp [*, errW_none, errW_some] <;> rfl), by first | exact Kd.R_nil _ _ _ _ _ | exact Kd.N_nil _ _ _ _ _ | exact Kd.V_nil _ _ _ _ _ | exact Kd.Q_nil _ _ _ _ _ | exact Kd.S_nil _ _ _ _ _, by repeat (first | (with_reducible first | exact HB.out | apply below_alloc | apply pw_below_drewN | apply below_drew1 | refine below_set ?_ GE845.out) | exact HB.out)⟩
       ·replace c9 := Bool.eq_false_iff.mpr c9
        subst c9
        have H1 : (if x6_1.length < 17592186044416 then (spec_pfSlots.l0 k1 (x6_1 ++ [t847]) l1 (l1.length : Int) (wrap64 (x12_1 + 1)) a0_0 a0_1 a0_2 l0_3) else (none)) = some (r1, r2) := by rw [if_neg (show ¬ (false = true) by decide)] at H; exact H
        clear H
        have H := H1
        clear H1
        by_cases c13 : x6_1.length < 17592186044416
        ·rw [if_pos c13] at H
         have LMc13 := Aside0.mk c13
         clear c13
         obtain ⟨y849, hy849⟩ : ∃ y_ : List Int, y_ = (x6_1 ++ [t847]) := ⟨_, rfl⟩
         replace H : (spec_pfSlots.l0 k1 y849 l1 (l1.length : Int) (wrap64 (x12_1 + 1)) a0_0 a0_1 a0_2 l0_3) = some (r1, r2) := by first | (rw [hy849]; with_reducible exact H) | (have H2_ := (Option.bind_some _ _).symm.trans H; rw [hy849]; with_reducible exact H2_) | (have H2_ := (Option.bind_some _ _).symm.trans H; with_reducible exact H2_) | with_reducible exact H | (rw [hy849]; exact H) | exact H
         have Ny849 := Aside0.mk hy849
         clear hy849
         have H' := Aside0.mk H
         clear H
         have p846 : 0 ≤ (x12_1 : Int) := of_decide_eq_true (by first | (with_reducible assumption) | assumption)
         have q846 : x12_1 < (l1.length : Int) := of_decide_eq_true (by first | (with_reducible assumption) | assumption)
         obtain ⟨ad846, e846, hx846_0⟩ := Kd.at_string HR1.out x12_1 p846 q846
         cases e846
         replace hx846_0 := (HB.out.cell (World.block_lt_of_cell? w _ hx846_0)).trans hx846_0
         replace p846 := eq_true p846
         replace q846 := eq_true q846
         have hcz14_0 : wr.cell? ⟨gb845, 0, none⟩ = some (.int .i64 a0_0) := (blk_cell BK845.out 0).trans rfl
         have hcz14_1 : wr.cell? ⟨gb845, 1, none⟩ = some (.int .i64 a0_1) := (blk_cell BK845.out 1).trans rfl
         have hcz14_2 : wr.cell? ⟨gb845, 2, none⟩ = some (.int .i64 a0_2) := (blk_cell BK845.out 2).trans rfl
         have hcz14_3 : wr.cell? ⟨gb845, 3, none⟩ = some (.slice A0_3 l0_3.length c0_3) := (blk_cell BK845.out 3).trans rfl
         have hfz14_0 := blk_frozen BK845.out 0
         have hfz14_1 := blk_frozen BK845.out 1
         have hfz14_2 := blk_frozen BK845.out 2
         have hfz14_3 := blk_frozen BK845.out 3
         go_wp2_with (first | ((with_reducible refine gate_callee (f := 71) rfl ?_); refine goesL_ (some 18) rfl rfl Try.func71 (by kernel_rfl) rfl #[.agg #[.int .i64 a0_0, .int .i64 a0_1, .int .i64 a0_2, .slice A0_3 l0_3.length c0_3], .string (rdOf ByteArray.empty l1 x12_1)] rfl (by (try simp only [List.map_toArray, List.map_cons, List.map_nil]); first | done | rfl | (simp only [List.length_drop, List.length_take]; rfl)) ?_; (with_reducible refine (spec_pfSlotOf.calls k1 a0_0 a0_1 a0_2 _ _ l0_3 (rdOf ByteArray.empty l1 x12_1) t847 _ ?side1 ?side2 A7.out).mono ?_); (case side1 => repeat (first | exact (Kd.C_below HR0_3.out HB.out) | (with_reducible refine Kd.C_alloc ?_ _) | (with_reducible refine Kd.C_drewN ?_ _) | (with_reducible refine Kd.C_drew ?_))); (case side2 => exact HC0_3.out); rintro e w15 ⟨rfl, hb⟩; refine ⟨_, rfl, ?_⟩; have n0_ := Aside0.mk (Kd.R_below (by (with_reducible repeat (first | apply Kd.R_alloc | apply Kd.R_drewN | apply Kd.R_drew)); exact HO_6.out) hb); have n1_ := Aside0.mk (blk_below (g := gb845) (o := .cells #[.int .i64 a0_0, .int .i64 a0_1, .int .i64 a0_2, .slice A0_3 l0_3.length c0_3] 28 (0, 0)) (by (with_reducible repeat (first | refine blk_drewN ?_ _ | refine blk_drew ?_ | refine blk_alloc ?_ _)); exact BK845.out) hb); have n2_ := Aside0.mk (below_step (by repeat (first | (with_reducible first | exact HB.out | apply below_alloc | apply pw_below_drewN | apply below_drew1 | refine below_set ?_ GE845.out) | exact HB.out)) hb); clear HO_6; clear BK845; clear HB; have HO_6 := n0_; have BK845 := n1_; have HB := n2_; clear n0_ n1_ n2_; (try clear hb); (try clear hb2); (try clear hk); (try clear hi); obtain ⟨Ao16, co16, eo16⟩ := Kd.R_slice HO_6.out; subst eo16) | ((with_reducible refine gate_callee (f := 127) rfl ?_); refine goesL_ (some 21) rfl rfl Try.func127 (by kernel_rfl) rfl #[.slice Ao16 x6_1.length co16, .int .i64 t847] rfl (by (try simp only [List.map_toArray, List.map_cons, List.map_nil]); first | done | rfl | (simp only [List.length_drop, List.length_take]; rfl)) ?_; (with_reducible refine (spec_l1Has.calls k1 _ _ x6_1 t847 false _ ?side1 ?side2 A8.out).mono ?_); (case side1 => repeat (first | exact (Kd.R_reads' HO_6.out).2.2 | (with_reducible refine Kd.C_alloc ?_ _) | (with_reducible refine Kd.C_drewN ?_ _) | (with_reducible refine Kd.C_drew ?_))); (case side2 => exact (Kd.R_reads' HO_6.out).2.1); rintro e w' ⟨rfl, ⟨nd, rfl⟩⟩; refine ⟨_, rfl, ?_⟩) | ((with_reducible refine gate_builtin (b := .append) (xs := #[.tmp 22, .tmp 24]) rfl ?_); at_builtin; refine Kd.R_append (Kd.int .i64) (w0 := w) w.heap.size rfl (.tmp 22) (.tmp 24) 22 3 (.int .i64 0) 8 rfl Try.underlying22 info3 rfl (by decide) (by omega) (.slice Ao16 x6_1.length co16) x6_1 t847 [.int .i64 t847] (fun _ => True) (fun _ => False) rfl rfl ?aP (fun _ hk => hk.elim) ?aF ?aO ?aB ?aS ?aL ?_; (case aP => exact rfl); (case aB => exact (by repeat (first | (with_reducible first | exact HB.out | apply below_alloc | apply pw_below_drewN | apply below_drew1 | refine below_set ?_ GE845.out) | exact HB.out))); (case aF => exact (fun _ _ => trivial)); (case aO => exact (by (with_reducible repeat (first | apply Kd.R_alloc | apply Kd.R_drewN | apply Kd.R_drew)); exact HO_6.out)); (case aS => exact (below_size (by repeat (first | (with_reducible first | exact HB.out | apply below_alloc | apply pw_below_drewN | apply below_drew1 | refine below_set ?_ GE845.out) | exact HB.out)))); (case aL => have := LMc13.out; omega); intro v850 w17 ho hb hg hat; rw [← Ny849.out] at ho; have n0_ := Aside0.mk (blk_grown (g := gb845) (o := .cells #[.int .i64 a0_0, .int .i64 a0_1, .int .i64 a0_2, .slice A0_3 l0_3.length c0_3] 28 (0, 0)) (by (with_reducible repeat (first | refine blk_drewN ?_ _ | refine blk_drew ?_ | refine blk_alloc ?_ _)); exact BK845.out) hg (Kd.R_ne HO_6.out BK845.out (by decide))); have n1_ := Aside0.mk (hb); have n2_ := Aside0.mk (ho); clear BK845; clear HB; clear HO_6; have BK845 := n0_; have HB := n1_; have HO851 := n2_; clear n0_ n1_ n2_; clear ho hb hg hat))
         go_roundg k1
         case measure => have := HK1.out; omega
         case rel => exact ⟨(y849), (wrap64 (x12_1 + 1)), (by first | rfl | (simp; done) | (simp [*]; done)), H', ⟨by have := HK1.out; omega⟩, ⟨by (with_reducible repeat (first | apply Kd.R_alloc | apply Kd.R_drewN | apply Kd.R_drew)); exact HO851.out⟩, ⟨by (with_reducible repeat (first | refine blk_drewN ?_ _ | refine blk_drew ?_ | refine blk_alloc ?_ _)); exact BK845.out⟩, ⟨by repeat (first | (with_reducible first | exact HB.out | apply below_alloc | apply pw_below_drewN | apply below_drew1 | refine below_set ?_ GE845.out) | exact HB.out)⟩⟩
        ·rw [if_neg c13] at H
         exact absurd H (by simp)
      ·rw [if_neg c6] at H
       exact absurd H (by simp)
     ·rw [if_neg c5] at H
      exact absurd H (by simp)
    ·rw [if_neg c4] at H
     have c4b0 : decide (x12_1 < (l1.length : Int)) = false := decide_eq_false c4
     clear c4
     simp only [Option.some.injEq, Prod.mk.injEq] at H
     obtain ⟨rfl, rfl⟩ := H
     go_wp2
     go_ret2
     exact ⟨_, by first | rfl | (simp [errW_none, errW_some] <;> rfl) | (simp [*, errW_none, errW_some] <;> rfl), by (with_reducible repeat (first | apply Kd.R_alloc | apply Kd.R_drewN | apply Kd.R_drew)); exact HO_6.out, by repeat (first | (with_reducible first | exact HB.out | apply below_alloc | apply pw_below_drewN | apply below_drew1 | refine below_set ?_ GE845.out) | exact HB.out)⟩
/-! ### spec_IsDisplacedFor: function 61 -/
def spec_IsDisplacedFor.f (k : Nat) (a0_0 : Int) (a0_1 : Int) (a0_2 : Int) (l0_3 : List Int) (l1 : List ByteArray) : Option (Bool × Bool) := (spec_pfDisplaced.f k a0_0 a0_1 a0_2 l0_3).bind fun t853 => (if t853 = true then ((spec_biKeys.f k l1).bind fun t854 => (if t854 = true then ((spec_pfSlots.f k a0_0 a0_1 a0_2 l0_3 l1).bind fun bt855 => (some (bt855.2, true))) else (some (false, false)))) else (some (false, false)))
theorem spec_IsDisplacedFor.mono : ∀ a0 a1 a2 a3 a4 k, LeO (spec_IsDisplacedFor.f k a0 a1 a2 a3 a4) (spec_IsDisplacedFor.f (k + 1) a0 a1 a2 a3 a4) := by
  intro a0 a1 a2 a3 a4 k
  unfold spec_IsDisplacedFor.f
  repeat' first
      | (with_reducible exact spec_biKeys.mono _ _)
      | (with_reducible exact spec_pfDisplaced.mono _ _ _ _ _)
      | (with_reducible exact spec_pfSlots.mono _ _ _ _ _ _)
      | (with_reducible exact LeO.refl _)
      | (with_reducible exact LeO.none _)
      | (with_reducible refine LeO.ite ?_ ?_)
      | (with_reducible refine LeO.bind ?_ (fun _ => ?_))
      | exact spec_biKeys.mono _ _
      | exact spec_pfDisplaced.mono _ _ _ _ _
      | exact spec_pfSlots.mono _ _ _ _ _ _
      | exact LeO.none _
      | refine LeO.ite ?_ ?_
      | refine LeO.bind ?_ (fun _ => ?_)
noncomputable def spec_IsDisplacedFor.F (a0_0 : Int) (a0_1 : Int) (a0_2 : Int) (l0_3 : List Int) (l1 : List ByteArray) : Option (Bool × Bool) := lim fun k => spec_IsDisplacedFor.f k a0_0 a0_1 a0_2 l0_3 l1
theorem spec_IsDisplacedFor.F_sup (a0_0 : Int) (a0_1 : Int) (a0_2 : Int) (l0_3 : List Int) (l1 : List ByteArray) : Sup (fun k => spec_IsDisplacedFor.f k a0_0 a0_1 a0_2 l0_3 l1) (spec_IsDisplacedFor.F a0_0 a0_1 a0_2 l0_3 l1) := Sup.of_mono fun k => spec_IsDisplacedFor.mono a0_0 a0_1 a0_2 l0_3 l1 k
theorem spec_IsDisplacedFor.F_eq (a0_0 : Int) (a0_1 : Int) (a0_2 : Int) (l0_3 : List Int) (l1 : List ByteArray) : spec_IsDisplacedFor.F a0_0 a0_1 a0_2 l0_3 l1 = (spec_pfDisplaced.F a0_0 a0_1 a0_2 l0_3).bind fun t853 => (if t853 = true then ((spec_biKeys.F l1).bind fun t854 => (if t854 = true then ((spec_pfSlots.F a0_0 a0_1 a0_2 l0_3 l1).bind fun bt855 => (some (bt855.2, true))) else (some (false, false)))) else (some (false, false))) := by
  refine Sup.unique (spec_IsDisplacedFor.F_sup a0_0 a0_1 a0_2 l0_3 l1) (Sup.congr (g' := fun k => (spec_pfDisplaced.f k a0_0 a0_1 a0_2 l0_3).bind fun t853 => (if t853 = true then ((spec_biKeys.f k l1).bind fun t854 => (if t854 = true then ((spec_pfSlots.f k a0_0 a0_1 a0_2 l0_3 l1).bind fun bt855 => (some (bt855.2, true))) else (some (false, false)))) else (some (false, false)))) (fun k => by first | rfl | simp only [spec_IsDisplacedFor.f]) ?_)
  repeat' first
    | (with_reducible exact spec_pfDisplaced.F_sup _ _ _ _)
    | (with_reducible exact spec_biKeys.F_sup _)
    | (with_reducible exact spec_pfSlots.F_sup _ _ _ _ _)
    | (with_reducible refine Sup.ite ?_ ?_)
    | (with_reducible refine Sup.bind ?_ (fun _ => ?_))
    | (with_reducible exact Sup.const _)
    | exact spec_pfDisplaced.F_sup _ _ _ _
    | exact spec_biKeys.F_sup _
    | exact spec_pfSlots.F_sup _ _ _ _ _
    | exact Sup.const _
set_option maxHeartbeats 8000000 in
set_option maxRecDepth 100000 in
theorem spec_IsDisplacedFor.calls (k : Nat) (a0_0 : Int) (a0_1 : Int) (a0_2 : Int) (A0_3 : Option Addr) (c0_3 : Nat) (l0_3 : List Int) (A1 : Option Addr) (c1 : Nat) (l1 : List ByteArray) (r1 : Bool) (r2 : Bool) (w : World) (hr0_3 : Kd.C (Kd.int .i64) w A0_3 l0_3.length l0_3) (hc0_3 : l0_3.length ≤ c0_3) (hr1 : Kd.C Kd.string w A1 l1.length l1) (hc1 : l1.length ≤ c1) (h : spec_IsDisplacedFor.f k a0_0 a0_1 a0_2 l0_3 l1 = some (r1, r2)) :
    Calls Try.prog 61 #[.agg #[.int .i64 a0_0, .int .i64 a0_1, .int .i64 a0_2, .slice A0_3 l0_3.length c0_3], .slice A1 l1.length c1] w fun e w' => e = .returned (.tuple #[.bool r1, .bool r2]) ∧ Below w.heap.size w w' := by
  have hu28 := Try.underlying28
  have HR0_3 := Aside0.mk hr0_3
  have HC0_3 := Aside0.mk hc0_3
  clear hr0_3 hc0_3
  have HR1 := Aside0.mk hr1
  have HC1 := Aside0.mk hc1
  clear hr1 hc1
  have HB := Aside0.mk (Below.refl w.heap.size w)
  have H : ((spec_pfDisplaced.f k a0_0 a0_1 a0_2 l0_3).bind fun t853 => (if t853 = true then ((spec_biKeys.f k l1).bind fun t854 => (if t854 = true then ((spec_pfSlots.f k a0_0 a0_1 a0_2 l0_3 l1).bind fun bt855 => (some (bt855.2, true))) else (some (false, false)))) else (some (false, false)))) = some (r1, r2) := h
  clear h
  replace H := Option.bind_eq_some_iff.mp H
  obtain ⟨t853, A30, H⟩ := H
  replace H : (if t853 = true then ((spec_biKeys.f k l1).bind fun t854 => (if t854 = true then ((spec_pfSlots.f k a0_0 a0_1 a0_2 l0_3 l1).bind fun bt855 => (some (bt855.2, true))) else (some (false, false)))) else (some (false, false))) = some (r1, r2) := H
  have A3 := Aside0.mk A30
  clear A30
  by_cases c4 : t853 = true
  ·subst c4
   have H1 : ((spec_biKeys.f k l1).bind fun t854 => (if t854 = true then ((spec_pfSlots.f k a0_0 a0_1 a0_2 l0_3 l1).bind fun bt855 => (some (bt855.2, true))) else (some (false, false)))) = some (r1, r2) := by rw [if_pos rfl] at H; exact H
   clear H
   have H := H1
   clear H1
   replace H := Option.bind_eq_some_iff.mp H
   obtain ⟨t854, A50, H⟩ := H
   replace H : (if t854 = true then ((spec_pfSlots.f k a0_0 a0_1 a0_2 l0_3 l1).bind fun bt855 => (some (bt855.2, true))) else (some (false, false))) = some (r1, r2) := H
   have A5 := Aside0.mk A50
   clear A50
   by_cases c6 : t854 = true
   ·subst c6
    have H1 : ((spec_pfSlots.f k a0_0 a0_1 a0_2 l0_3 l1).bind fun bt855 => (some (bt855.2, true))) = some (r1, r2) := by rw [if_pos rfl] at H; exact H
    clear H
    have H := H1
    clear H1
    replace H := Option.bind_eq_some_iff.mp H
    obtain ⟨⟨t855, t858⟩, A70, H⟩ := H
    replace H : (some (t858, true)) = some (r1, r2) := H
    have A7 := Aside0.mk A70
    clear A70
    simp only [Option.some.injEq, Prod.mk.injEq] at H
    obtain ⟨rfl, rfl⟩ := H
    go_enter Try.func61, Try.ntmps61
    go_wp2_with (first | ((with_reducible refine gate_dst (N := 2) rfl ?_); refine box_event ?hg (N := 2) ?hd (cs := #[.int .i64 a0_0, .int .i64 a0_1, .int .i64 a0_2, .slice A0_3 l0_3.length c0_3]) (t := 28) ?hr ?_; (case hd => rfl); (case hg => rfl); (case hr => first | (go_simp; done) | (go_simp; rfl)); intro gb852 hg w8 hbox hb; have n0_ := Aside0.mk (below_step (by repeat (first | (with_reducible first | exact HB.out | apply below_alloc | apply pw_below_drewN | apply below_drew1) | exact HB.out)) hb); have n1_ := Aside0.mk (hbox); have n2_ := Aside0.mk ((by rw [hg]; exact (below_size (by repeat (first | (with_reducible first | exact HB.out | apply below_alloc | apply pw_below_drewN | apply below_drew1) | exact HB.out))) : w.heap.size ≤ gb852)); have n3_ := Aside0.mk ((by rw [hg]; exact (below_size (by repeat (first | (with_reducible first | exact HB.out | apply below_alloc | apply pw_below_drewN | apply below_drew1) | exact HB.out))) : w.heap.size ≤ gb852)); clear HB; have HB := n0_; have BK852 := n1_; have GW852 := n2_; have GE852 := n3_; clear n0_ n1_ n2_ n3_; clear hb hbox hg; have hcz9_0 : w8.cell? ⟨gb852, 0, none⟩ = some (.int .i64 a0_0) := (blk_cell BK852.out 0).trans rfl; have hcz9_1 : w8.cell? ⟨gb852, 1, none⟩ = some (.int .i64 a0_1) := (blk_cell BK852.out 1).trans rfl; have hcz9_2 : w8.cell? ⟨gb852, 2, none⟩ = some (.int .i64 a0_2) := (blk_cell BK852.out 2).trans rfl; have hcz9_3 : w8.cell? ⟨gb852, 3, none⟩ = some (.slice A0_3 l0_3.length c0_3) := (blk_cell BK852.out 3).trans rfl; have hfz9_0 := blk_frozen BK852.out 0; have hfz9_1 := blk_frozen BK852.out 1; have hfz9_2 := blk_frozen BK852.out 2; have hfz9_3 := blk_frozen BK852.out 3) | ((with_reducible refine gate_callee (f := 69) rfl ?_); refine goesL_ (some 9) rfl rfl Try.func69 (by kernel_rfl) rfl #[.agg #[.int .i64 a0_0, .int .i64 a0_1, .int .i64 a0_2, .slice A0_3 l0_3.length c0_3]] rfl (by (try simp only [List.map_toArray, List.map_cons, List.map_nil]); first | done | rfl | (simp only [List.length_drop, List.length_take]; rfl)) ?_; (with_reducible refine (spec_pfDisplaced.calls k a0_0 a0_1 a0_2 _ _ l0_3 true _ ?side1 ?side2 A3.out).mono ?_); (case side1 => repeat (first | exact (Kd.C_below HR0_3.out HB.out) | (with_reducible refine Kd.C_alloc ?_ _) | (with_reducible refine Kd.C_drewN ?_ _) | (with_reducible refine Kd.C_drew ?_))); (case side2 => exact HC0_3.out); rintro e w10 ⟨rfl, hb⟩; refine ⟨_, rfl, ?_⟩; have n0_ := Aside0.mk (blk_below (g := gb852) (o := .cells #[.int .i64 a0_0, .int .i64 a0_1, .int .i64 a0_2, .slice A0_3 l0_3.length c0_3] 28 (0, 0)) (by (with_reducible repeat (first | refine blk_drewN ?_ _ | refine blk_drew ?_ | refine blk_alloc ?_ _)); exact BK852.out) hb); have n1_ := Aside0.mk (below_step (by repeat (first | (with_reducible first | exact HB.out | apply below_alloc | apply pw_below_drewN | apply below_drew1 | refine below_set ?_ GE852.out) | exact HB.out)) hb); clear BK852; clear HB; have BK852 := n0_; have HB := n1_; clear n0_ n1_; (try clear hb); (try clear hb2); (try clear hk); (try clear hi)) | (go_at_call 83; (with_reducible refine (spec_biKeys.calls k _ _ l1 true _ ?side1 ?side2 A5.out).mono ?_); (case side1 => repeat (first | exact (Kd.C_below HR1.out HB.out) | (with_reducible refine Kd.C_alloc ?_ _) | (with_reducible refine Kd.C_drewN ?_ _) | (with_reducible refine Kd.C_drew ?_))); (case side2 => exact HC1.out); rintro e w' ⟨rfl, ⟨nd, rfl⟩⟩; have hcz11_0 : w10.cell? ⟨gb852, 0, none⟩ = some (.int .i64 a0_0) := (blk_cell BK852.out 0).trans rfl; have hcz11_1 : w10.cell? ⟨gb852, 1, none⟩ = some (.int .i64 a0_1) := (blk_cell BK852.out 1).trans rfl; have hcz11_2 : w10.cell? ⟨gb852, 2, none⟩ = some (.int .i64 a0_2) := (blk_cell BK852.out 2).trans rfl; have hcz11_3 : w10.cell? ⟨gb852, 3, none⟩ = some (.slice A0_3 l0_3.length c0_3) := (blk_cell BK852.out 3).trans rfl; have hfz11_0 := blk_frozen BK852.out 0; have hfz11_1 := blk_frozen BK852.out 1; have hfz11_2 := blk_frozen BK852.out 2; have hfz11_3 := blk_frozen BK852.out 3) | ((with_reducible refine gate_callee (f := 111) rfl ?_); refine goesL_ (some 19) rfl rfl Try.func111 (by kernel_rfl) rfl #[.agg #[.int .i64 a0_0, .int .i64 a0_1, .int .i64 a0_2, .slice A0_3 l0_3.length c0_3], .slice A1 l1.length c1] rfl (by (try simp only [List.map_toArray, List.map_cons, List.map_nil]); first | done | rfl | (simp only [List.length_drop, List.length_take]; rfl)) ?_; (with_reducible refine (spec_pfSlots.calls k a0_0 a0_1 a0_2 _ _ l0_3 _ _ l1 t855 t858 _ ?side1 ?side2 ?side3 ?side4 A7.out).mono ?_); (case side1 => repeat (first | exact (Kd.C_below HR0_3.out (by repeat (first | (with_reducible first | exact HB.out | apply below_alloc | apply pw_below_drewN | apply below_drew1 | refine below_set ?_ GE852.out) | exact HB.out))) | (with_reducible refine Kd.C_alloc ?_ _) | (with_reducible refine Kd.C_drewN ?_ _) | (with_reducible refine Kd.C_drew ?_))); (case side2 => exact HC0_3.out); (case side3 => repeat (first | exact (Kd.C_below HR1.out (by repeat (first | (with_reducible first | exact HB.out | apply below_alloc | apply pw_below_drewN | apply below_drew1 | refine below_set ?_ GE852.out) | exact HB.out))) | (with_reducible refine Kd.C_alloc ?_ _) | (with_reducible refine Kd.C_drewN ?_ _) | (with_reducible refine Kd.C_drew ?_))); (case side4 => exact HC1.out); rintro e w12 ⟨v856, rfl, ho0, hb⟩; refine ⟨_, rfl, ?_⟩; have n0_ := Aside0.mk (Kd.R_lower ho0 (below_size (by repeat (first | (with_reducible first | exact HB.out | apply below_alloc | apply pw_below_drewN | apply below_drew1 | refine below_set ?_ GE852.out) | exact HB.out)))); have n1_ := Aside0.mk (blk_below (g := gb852) (o := .cells #[.int .i64 a0_0, .int .i64 a0_1, .int .i64 a0_2, .slice A0_3 l0_3.length c0_3] 28 (0, 0)) (by (with_reducible repeat (first | refine blk_drewN ?_ _ | refine blk_drew ?_ | refine blk_alloc ?_ _)); exact BK852.out) hb); have n2_ := Aside0.mk (below_step (by repeat (first | (with_reducible first | exact HB.out | apply below_alloc | apply pw_below_drewN | apply below_drew1 | refine below_set ?_ GE852.out) | exact HB.out)) hb); clear BK852; clear HB; have HO857 := n0_; have BK852 := n1_; have HB := n2_; clear n0_ n1_ n2_; (try clear hb); (try clear hb2); (try clear hk); (try clear hi); (try clear ho0)))
    go_ret2
    exact ⟨by first | rfl | (simp [errW_none, errW_some] <;> rfl) | (simp [*, errW_none, errW_some] <;> rfl), by repeat (first | (with_reducible first | exact HB.out | apply below_alloc | apply pw_below_drewN | apply below_drew1 | refine below_set ?_ GE852.out) | exact HB.out)⟩
   ·replace c6 := Bool.eq_false_iff.mpr c6
    subst c6
    have H1 : (some (false, false)) = some (r1, r2) := by rw [if_neg (show ¬ (false = true) by decide)] at H; exact H
    clear H
    have H := H1
    clear H1
    simp only [Option.some.injEq, Prod.mk.injEq] at H
    obtain ⟨rfl, rfl⟩ := H
    go_enter Try.func61, Try.ntmps61
    go_wp2_with (first | ((with_reducible refine gate_dst (N := 2) rfl ?_); refine box_event ?hg (N := 2) ?hd (cs := #[.int .i64 a0_0, .int .i64 a0_1, .int .i64 a0_2, .slice A0_3 l0_3.length c0_3]) (t := 28) ?hr ?_; (case hd => rfl); (case hg => rfl); (case hr => first | (go_simp; done) | (go_simp; rfl)); intro gb852 hg w13 hbox hb; have n0_ := Aside0.mk (below_step (by repeat (first | (with_reducible first | exact HB.out | apply below_alloc | apply pw_below_drewN | apply below_drew1) | exact HB.out)) hb); have n1_ := Aside0.mk (hbox); have n2_ := Aside0.mk ((by rw [hg]; exact (below_size (by repeat (first | (with_reducible first | exact HB.out | apply below_alloc | apply pw_below_drewN | apply below_drew1) | exact HB.out))) : w.heap.size ≤ gb852)); have n3_ := Aside0.mk ((by rw [hg]; exact (below_size (by repeat (first | (with_reducible first | exact HB.out | apply below_alloc | apply pw_below_drewN | apply below_drew1) | exact HB.out))) : w.heap.size ≤ gb852)); clear HB; have HB := n0_; have BK852 := n1_; have GW852 := n2_; have GE852 := n3_; clear n0_ n1_ n2_ n3_; clear hb hbox hg; have hcz14_0 : w13.cell? ⟨gb852, 0, none⟩ = some (.int .i64 a0_0) := (blk_cell BK852.out 0).trans rfl; have hcz14_1 : w13.cell? ⟨gb852, 1, none⟩ = some (.int .i64 a0_1) := (blk_cell BK852.out 1).trans rfl; have hcz14_2 : w13.cell? ⟨gb852, 2, none⟩ = some (.int .i64 a0_2) := (blk_cell BK852.out 2).trans rfl; have hcz14_3 : w13.cell? ⟨gb852, 3, none⟩ = some (.slice A0_3 l0_3.length c0_3) := (blk_cell BK852.out 3).trans rfl; have hfz14_0 := blk_frozen BK852.out 0; have hfz14_1 := blk_frozen BK852.out 1; have hfz14_2 := blk_frozen BK852.out 2; have hfz14_3 := blk_frozen BK852.out 3) | ((with_reducible refine gate_callee (f := 69) rfl ?_); refine goesL_ (some 9) rfl rfl Try.func69 (by kernel_rfl) rfl #[.agg #[.int .i64 a0_0, .int .i64 a0_1, .int .i64 a0_2, .slice A0_3 l0_3.length c0_3]] rfl (by (try simp only [List.map_toArray, List.map_cons, List.map_nil]); first | done | rfl | (simp only [List.length_drop, List.length_take]; rfl)) ?_; (with_reducible refine (spec_pfDisplaced.calls k a0_0 a0_1 a0_2 _ _ l0_3 true _ ?side1 ?side2 A3.out).mono ?_); (case side1 => repeat (first | exact (Kd.C_below HR0_3.out HB.out) | (with_reducible refine Kd.C_alloc ?_ _) | (with_reducible refine Kd.C_drewN ?_ _) | (with_reducible refine Kd.C_drew ?_))); (case side2 => exact HC0_3.out); rintro e w15 ⟨rfl, hb⟩; refine ⟨_, rfl, ?_⟩; have n0_ := Aside0.mk (blk_below (g := gb852) (o := .cells #[.int .i64 a0_0, .int .i64 a0_1, .int .i64 a0_2, .slice A0_3 l0_3.length c0_3] 28 (0, 0)) (by (with_reducible repeat (first | refine blk_drewN ?_ _ | refine blk_drew ?_ | refine blk_alloc ?_ _)); exact BK852.out) hb); have n1_ := Aside0.mk (below_step (by repeat (first | (with_reducible first | exact HB.out | apply below_alloc | apply pw_below_drewN | apply below_drew1 | refine below_set ?_ GE852.out) | exact HB.out)) hb); clear BK852; clear HB; have BK852 := n0_; have HB := n1_; clear n0_ n1_; (try clear hb); (try clear hb2); (try clear hk); (try clear hi)) | (go_at_call 83; (with_reducible refine (spec_biKeys.calls k _ _ l1 false _ ?side1 ?side2 A5.out).mono ?_); (case side1 => repeat (first | exact (Kd.C_below HR1.out HB.out) | (with_reducible refine Kd.C_alloc ?_ _) | (with_reducible refine Kd.C_drewN ?_ _) | (with_reducible refine Kd.C_drew ?_))); (case side2 => exact HC1.out); rintro e w' ⟨rfl, ⟨nd, rfl⟩⟩))
    go_ret2
    exact ⟨by first | rfl | (simp [errW_none, errW_some] <;> rfl) | (simp [*, errW_none, errW_some] <;> rfl), by repeat (first | (with_reducible first | exact HB.out | apply below_alloc | apply pw_below_drewN | apply below_drew1 | refine below_set ?_ GE852.out) | exact HB.out)⟩
  ·replace c4 := Bool.eq_false_iff.mpr c4
   subst c4
   have H1 : (some (false, false)) = some (r1, r2) := by rw [if_neg (show ¬ (false = true) by decide)] at H; exact H
   clear H
   have H := H1
   clear H1
   simp only [Option.some.injEq, Prod.mk.injEq] at H
   obtain ⟨rfl, rfl⟩ := H
   go_enter Try.func61, Try.ntmps61
   go_wp2_with (first | ((with_reducible refine gate_dst (N := 2) rfl ?_); refine box_event ?hg (N := 2) ?hd (cs := #[.int .i64 a0_0, .int .i64 a0_1, .int .i64 a0_2, .slice A0_3 l0_3.length c0_3]) (t := 28) ?hr ?_; (case hd => rfl); (case hg => rfl); (case hr => first | (go_simp; done) | (go_simp; rfl)); intro gb852 hg w16 hbox hb; have n0_ := Aside0.mk (below_step (by repeat (first | (with_reducible first | exact HB.out | apply below_alloc | apply pw_below_drewN | apply below_drew1) | exact HB.out)) hb); have n1_ := Aside0.mk (hbox); have n2_ := Aside0.mk ((by rw [hg]; exact (below_size (by repeat (first | (with_reducible first | exact HB.out | apply below_alloc | apply pw_below_drewN | apply below_drew1) | exact HB.out))) : w.heap.size ≤ gb852)); have n3_ := Aside0.mk ((by rw [hg]; exact (below_size (by repeat (first | (with_reducible first | exact HB.out | apply below_alloc | apply pw_below_drewN | apply below_drew1) | exact HB.out))) : w.heap.size ≤ gb852)); clear HB; have HB := n0_; have BK852 := n1_; have GW852 := n2_; have GE852 := n3_; clear n0_ n1_ n2_ n3_; clear hb hbox hg; have hcz17_0 : w16.cell? ⟨gb852, 0, none⟩ = some (.int .i64 a0_0) := (blk_cell BK852.out 0).trans rfl; have hcz17_1 : w16.cell? ⟨gb852, 1, none⟩ = some (.int .i64 a0_1) := (blk_cell BK852.out 1).trans rfl; have hcz17_2 : w16.cell? ⟨gb852, 2, none⟩ = some (.int .i64 a0_2) := (blk_cell BK852.out 2).trans rfl; have hcz17_3 : w16.cell? ⟨gb852, 3, none⟩ = some (.slice A0_3 l0_3.length c0_3) := (blk_cell BK852.out 3).trans rfl; have hfz17_0 := blk_frozen BK852.out 0; have hfz17_1 := blk_frozen BK852.out 1; have hfz17_2 := blk_frozen BK852.out 2; have hfz17_3 := blk_frozen BK852.out 3) | ((with_reducible refine gate_callee (f := 69) rfl ?_); refine goesL_ (some 9) rfl rfl Try.func69 (by kernel_rfl) rfl #[.agg #[.int .i64 a0_0, .int .i64 a0_1, .int .i64 a0_2, .slice A0_3 l0_3.length c0_3]] rfl (by (try simp only [List.map_toArray, List.map_cons, List.map_nil]); first | done | rfl | (simp only [List.length_drop, List.length_take]; rfl)) ?_; (with_reducible refine (spec_pfDisplaced.calls k a0_0 a0_1 a0_2 _ _ l0_3 false _ ?side1 ?side2 A3.out).mono ?_); (case side1 => repeat (first | exact (Kd.C_below HR0_3.out HB.out) | (with_reducible refine Kd.C_alloc ?_ _) | (with_reducible refine Kd.C_drewN ?_ _) | (with_reducible refine Kd.C_drew ?_))); (case side2 => exact HC0_3.out); rintro e w18 ⟨rfl, hb⟩; refine ⟨_, rfl, ?_⟩; have n0_ := Aside0.mk (blk_below (g := gb852) (o := .cells #[.int .i64 a0_0, .int .i64 a0_1, .int .i64 a0_2, .slice A0_3 l0_3.length c0_3] 28 (0, 0)) (by (with_reducible repeat (first | refine blk_drewN ?_ _ | refine blk_drew ?_ | refine blk_alloc ?_ _)); exact BK852.out) hb); have n1_ := Aside0.mk (below_step (by repeat (first | (with_reducible first | exact HB.out | apply below_alloc | apply pw_below_drewN | apply below_drew1 | refine below_set ?_ GE852.out) | exact HB.out)) hb); clear BK852; clear HB; have BK852 := n0_; have HB := n1_; clear n0_ n1_; (try clear hb); (try clear hb2); (try clear hk); (try clear hi)))
   go_ret2
   exact ⟨by first | rfl | (simp [errW_none, errW_some] <;> rfl) | (simp [*, errW_none, errW_some] <;> rfl), by repeat (first | (with_reducible first | exact HB.out | apply below_alloc | apply pw_below_drewN | apply below_drew1 | refine below_set ?_ GE852.out) | exact HB.out)⟩
/-! ### impl_distinct: function 91 -/
def impl_distinct.l0 : Nat → List Int → List Int → Int → Option (Bool)
  | 0, _, _, _ => none
  | k + 1, x0, x1, x9 => if x9 < (x1.length : Int) then (if 0 ≤ x9 then (if rd x1 x9 ∈ x0 then (some false) else (impl_distinct.l0 k (x0 ++ [rd x1 x9]) x1 (wrap64 (x9 + 1)))) else (none)) else (some true)
def impl_distinct.f (k : Nat) (l0 : List Int) : Option (Bool) := if l0.length < 140737488355328 then (if (∀ x ∈ l0, (Lit.int .i64 x).wf = true) then (impl_distinct.l0 k [] l0 0) else (none)) else (none)
theorem impl_distinct.mono_l : ∀ k, (∀ y0 y1 y2, LeO (impl_distinct.l0 k y0 y1 y2) (impl_distinct.l0 (k + 1) y0 y1 y2))
  | 0 => fun _ _ _ r h => by simp [impl_distinct.l0] at h
  | k + 1 => by
    have ih0 := impl_distinct.mono_l k
    · intro y0 y1 y2
      unfold impl_distinct.l0
      repeat' first
      | (with_reducible exact ih0 _ _ _)
      | (with_reducible exact LeO.refl _)
      | (with_reducible exact LeO.none _)
      | (with_reducible refine LeO.ite ?_ ?_)
      | (with_reducible refine LeO.bind ?_ (fun _ => ?_))
      | exact ih0 _ _ _
      | exact LeO.none _
      | refine LeO.ite ?_ ?_
      | refine LeO.bind ?_ (fun _ => ?_)
theorem impl_distinct.mono : ∀ a0 k, LeO (impl_distinct.f k a0) (impl_distinct.f (k + 1) a0) := by
  intro a0 k
  have ih0 := impl_distinct.mono_l k
  unfold impl_distinct.f
  repeat' first
      | (with_reducible exact ih0 _ _ _)
      | (with_reducible exact LeO.refl _)
      | (with_reducible exact LeO.none _)
      | (with_reducible refine LeO.ite ?_ ?_)
      | (with_reducible refine LeO.bind ?_ (fun _ => ?_))
      | exact ih0 _ _ _
      | exact LeO.none _
      | refine LeO.ite ?_ ?_
      | refine LeO.bind ?_ (fun _ => ?_)
noncomputable def impl_distinct.L0 (y0 : List Int) (y1 : List Int) (y2 : Int) : Option (Bool) := lim fun k => impl_distinct.l0 k y0 y1 y2
theorem impl_distinct.L0_sup (y0 : List Int) (y1 : List Int) (y2 : Int) : Sup (fun k => impl_distinct.l0 k y0 y1 y2) (impl_distinct.L0 y0 y1 y2) := Sup.of_mono fun k => impl_distinct.mono_l k y0 y1 y2
noncomputable def impl_distinct.F (l0 : List Int) : Option (Bool) := lim fun k => impl_distinct.f k l0
theorem impl_distinct.F_sup (l0 : List Int) : Sup (fun k => impl_distinct.f k l0) (impl_distinct.F l0) := Sup.of_mono fun k => impl_distinct.mono l0 k
theorem impl_distinct.L0_eq (x0 : List Int) (x1 : List Int) (x9 : Int) : impl_distinct.L0 x0 x1 x9 = if x9 < (x1.length : Int) then (if 0 ≤ x9 then (if rd x1 x9 ∈ x0 then (some false) else (impl_distinct.L0 (x0 ++ [rd x1 x9]) x1 (wrap64 (x9 + 1)))) else (none)) else (some true) := by
  refine Sup.unique (impl_distinct.L0_sup x0 x1 x9) (Sup.shift (fun k => impl_distinct.mono_l k x0 x1 x9) (Sup.congr (g' := fun k => if x9 < (x1.length : Int) then (if 0 ≤ x9 then (if rd x1 x9 ∈ x0 then (some false) else (impl_distinct.l0 k (x0 ++ [rd x1 x9]) x1 (wrap64 (x9 + 1)))) else (none)) else (some true)) (fun k => by first | rfl | simp only [impl_distinct.l0]) ?_))
  repeat' first
    | (with_reducible exact impl_distinct.L0_sup _ _ _)
    | (with_reducible refine Sup.ite ?_ ?_)
    | (with_reducible refine Sup.bind ?_ (fun _ => ?_))
    | (with_reducible exact Sup.const _)
    | exact impl_distinct.L0_sup _ _ _
    | exact Sup.const _
theorem impl_distinct.F_eq (l0 : List Int) : impl_distinct.F l0 = if l0.length < 140737488355328 then (if (∀ x ∈ l0, (Lit.int .i64 x).wf = true) then (impl_distinct.L0 [] l0 0) else (none)) else (none) := by
  refine Sup.unique (impl_distinct.F_sup l0) (Sup.congr (g' := fun k => if l0.length < 140737488355328 then (if (∀ x ∈ l0, (Lit.int .i64 x).wf = true) then (impl_distinct.l0 k [] l0 0) else (none)) else (none)) (fun k => by first | rfl | simp only [impl_distinct.f]) ?_)
  repeat' first
    | (with_reducible exact impl_distinct.L0_sup _ _ _)
    | (with_reducible refine Sup.ite ?_ ?_)
    | (with_reducible refine Sup.bind ?_ (fun _ => ?_))
    | (with_reducible exact Sup.const _)
    | exact impl_distinct.L0_sup _ _ _
    | exact Sup.const _
set_option maxHeartbeats 8000000 in
set_option maxRecDepth 100000 in
theorem impl_distinct.calls (k : Nat) (A0 : Option Addr) (c0 : Nat) (l0 : List Int) (r : Bool) (w : World) (hr0 : Kd.C (Kd.int .i64) w A0 l0.length l0) (hc0 : l0.length ≤ c0) (h : impl_distinct.f k l0 = some r) :
    Calls Try.prog 91 #[.slice A0 l0.length c0] w fun e w' => e = .returned (.bool r) ∧ Below w.heap.size w w' := by
  have HR0 := Aside0.mk hr0
  clear hr0
  unfold impl_distinct.f at h
  by_cases c1 : l0.length < 140737488355328
  ·rw [if_pos c1] at h
   by_cases c2 : ∀ x ∈ l0, (Lit.int .i64 x).wf = true
   ·rw [if_pos c2] at h
    have H' := Aside0.mk h
    have HL := Aside0.mk c1
    have HF := Aside0.mk c2
    clear h c1 c2
    have zeroE : ∀ W : World, (zeroValue 4).run Try.prog W = .ok (.bool false) W := fun W => by kernel_rfl
    have hmm := @run_makeMap Try.prog
    go_enter Try.func91, Try.ntmps91
    go_wp2
    go_loopg [9] k (fun kq v9 w' => ∃ (acc : List Int) (x9_1 : Int), v9 = .int .i64 x9_1 ∧ Aside0 (impl_distinct.l0 kq acc l0 x9_1 = some r) ∧ Aside0 (kq ≤ k) ∧ Aside0 (w'.ownsMap Try.prog 3 (plainElem Try.prog 4) w.heap.size acc.length (setI acc)) ∧ Aside0 ((acc.length : Int) = x9_1) ∧ Aside0 (Below w.heap.size w w'))
    case atStart => exact ⟨[], 0, rfl, H', ⟨Nat.le_refl _⟩, ⟨World.ownsMap_made _ _ _ _⟩, ⟨rfl⟩, ⟨(Below.refl _ _).alloc (Nat.le_refl _) _⟩⟩
    case round =>
     clear H'
     obtain ⟨acc, x9_1, rfl, HA, HK1, HM, HN, HB⟩ := hrel
     cases gk with
     | zero => exact absurd HA.out (by simp [impl_distinct.l0])
     | succ k1 =>
      have H := HA.out
      clear HA
      simp only [impl_distinct.l0] at H
      by_cases c3 : x9_1 < (l0.length : Int)
      ·rw [if_pos c3] at H
       have c3b0 : decide (x9_1 < (l0.length : Int)) = true := decide_eq_true c3
       by_cases c4 : 0 ≤ x9_1
       ·rw [if_pos c4] at H
        have HW := Aside0.mk (HF.out (rd l0 x9_1) (by unfold rd; rw [List.getD_eq_getElem?_getD, List.getElem?_eq_getElem (by omega)]; exact List.getElem_mem _))
        obtain ⟨ad7, e7, hx7⟩ := Kd.at_int HR0.out x9_1 c4 c3
        cases e7
        replace hx7 := (HB.out.cell (World.block_lt_of_cell? w _ hx7)).trans hx7
        have HX := Aside0.mk (show acc.length < maxLen from by have h1_ := HN.out; have h2_ := HL.out; unfold maxLen; omega)
        have p7 := eq_true c4
        have q7 := eq_true c3
        clear c3 c4
        by_cases c5 : rd l0 x9_1 ∈ acc
        ·rw [if_pos c5] at H
         obtain rfl := Option.some.inj H
         have HT := Aside0.mk ((setI_at (rd l0 x9_1) acc).trans (by rw [decide_eq_true c5] : _ = DataW.lit (.bool true)))
         clear c5 H
         go_wp2_with (first | (at_lookup; refine lookup_bool_ _ rfl _ _ 133 rfl 3 4 (Go.Maps.int_keyed Try.underlying3) Try.underlying133 Try.underlying4 (zeroE _) w.heap.size acc.length _ rfl HM.out _ _ rfl (Go.Maps.keyOf_int_mk Try.underlying3 HW.out) true HT.out ?_))
         go_ret
         exact ⟨rfl, HB.out⟩
        ·rw [if_neg c5] at H
         have H' := Aside0.mk H
         have HT := Aside0.mk ((setI_at (rd l0 x9_1) acc).trans (by rw [decide_eq_false c5] : _ = DataW.lit (.bool false)))
         clear c5 H
         go_wp2_with (first | (at_lookup; refine lookup_bool_ _ rfl _ _ 133 rfl 3 4 (Go.Maps.int_keyed Try.underlying3) Try.underlying133 Try.underlying4 (zeroE _) w.heap.size acc.length _ rfl HM.out _ _ rfl (Go.Maps.keyOf_int_mk Try.underlying3 HW.out) false HT.out ?_) | (at_mapUpdate; refine wpList_mapUpdate_own _ rfl _ _ _ 133 rfl 3 4 (Go.Maps.int_keyed Try.underlying3) Try.underlying133 (plainElem (H := Unit) Try.prog 4) w.heap.size acc.length _ rfl HM.out HX.out _ _ _ rfl rfl (Go.Maps.keyOf_int_mk Try.underlying3 HW.out) _ [] (plainElem_bool Try.underlying4 true) ?_; intro w1 hown1 hgrow1; have n0_ := Aside0.mk (show w1.ownsMap Try.prog 3 (plainElem Try.prog 4) w.heap.size (acc ++ [rd l0 x9_1]).length (setI (acc ++ [rd l0 x9_1])) from by rw [setI_snoc, List.length_append]; exact hown1); have n1_ := Aside0.mk (HB.out.grown hgrow1 HB.out.size (fun j hj => by cases hj; exact Nat.le_refl _)); clear HM HB hown1 hgrow1; have HM := n0_; have HB := n1_; clear n0_ n1_))
         go_roundg k1
         case measure => have := HK1.out; omega
         case rel => exact ⟨acc ++ [rd l0 x9_1], wrap64 (x9_1 + 1), by first | rfl | (simp; done) | (simp [*]; done), H', ⟨by have := HK1.out; omega⟩, HM, ⟨by have h1_ := HN.out; have h2_ := HL.out; have h3_ := of_eq_true q7; rw [List.length_append, List.length_singleton]; unfold wrap64; omega⟩, HB⟩
       ·rw [if_neg c4] at H
        exact absurd H (by simp)
      ·rw [if_neg c3] at H
       have c3b0 : decide (x9_1 < (l0.length : Int)) = false := decide_eq_false c3
       clear c3
       obtain rfl := Option.some.inj H
       go_wp2
       go_ret
       exact ⟨rfl, HB.out⟩
   ·rw [if_neg c2] at h
    exact absurd h (by simp)
  ·rw [if_neg c1] at h
   exact absurd h (by simp)
/-! ### impl_Displaced_slots: function 112 -/
def impl_Displaced_slots.l0 : Nat → List Int → List ByteArray → Int → Int → Int → Int → Int → List Int → Option (List Int)
  | 0, _, _, _, _, _, _, _, _ => none
  | k + 1, x5, x9, x10, x11, x1000, x1001, x1002, x1003 => if x11 < x10 then (if 0 ≤ x11 then (if x11 < (x9.length : Int) then ((impl_Displaced_slot.f k x1000 x1001 x1002 x1003 (rdOf ByteArray.empty x9 x11)).bind fun t863 => (if x5.length < 17592186044416 then (impl_Displaced_slots.l0 k (x5 ++ [t863]) x9 x10 (wrap64 (x11 + 1)) x1000 x1001 x1002 x1003) else (none))) else (none)) else (none)) else (some x5)
def impl_Displaced_slots.f (k : Nat) (a0_0 : Int) (a0_1 : Int) (a0_2 : Int) (l0_3 : List Int) (l1 : List ByteArray) : Option (List Int) := impl_Displaced_slots.l0 k (([] : List Int)) l1 (l1.length : Int) 0 a0_0 a0_1 a0_2 l0_3
theorem impl_Displaced_slots.mono_l : ∀ k, (∀ y0 y1 y2 y3 y4 y5 y6 y7, LeO (impl_Displaced_slots.l0 k y0 y1 y2 y3 y4 y5 y6 y7) (impl_Displaced_slots.l0 (k + 1) y0 y1 y2 y3 y4 y5 y6 y7))
  | 0 => fun _ _ _ _ _ _ _ _ r h => by simp [impl_Displaced_slots.l0] at h
  | k + 1 => by
    have ih0 := impl_Displaced_slots.mono_l k
    · intro y0 y1 y2 y3 y4 y5 y6 y7
      unfold impl_Displaced_slots.l0
      repeat' first
      | (with_reducible exact ih0 _ _ _ _ _ _ _ _)
      | (with_reducible exact impl_Displaced_slot.mono _ _ _ _ _ _)
      | (with_reducible exact LeO.refl _)
      | (with_reducible exact LeO.none _)
      | (with_reducible refine LeO.ite ?_ ?_)
      | (with_reducible refine LeO.bind ?_ (fun _ => ?_))
      | exact ih0 _ _ _ _ _ _ _ _
      | exact impl_Displaced_slot.mono _ _ _ _ _ _
      | exact LeO.none _
      | refine LeO.ite ?_ ?_
      | refine LeO.bind ?_ (fun _ => ?_)
theorem impl_Displaced_slots.mono : ∀ a0 a1 a2 a3 a4 k, LeO (impl_Displaced_slots.f k a0 a1 a2 a3 a4) (impl_Displaced_slots.f (k + 1) a0 a1 a2 a3 a4) := by
  intro a0 a1 a2 a3 a4 k
  have ih0 := impl_Displaced_slots.mono_l k
  unfold impl_Displaced_slots.f
  repeat' first
      | (with_reducible exact ih0 _ _ _ _ _ _ _ _)
      | (with_reducible exact impl_Displaced_slot.mono _ _ _ _ _ _)
      | (with_reducible exact LeO.refl _)
      | (with_reducible exact LeO.none _)
      | (with_reducible refine LeO.ite ?_ ?_)
      | (with_reducible refine LeO.bind ?_ (fun _ => ?_))
      | exact ih0 _ _ _ _ _ _ _ _
      | exact impl_Displaced_slot.mono _ _ _ _ _ _
      | exact LeO.none _
      | refine LeO.ite ?_ ?_
      | refine LeO.bind ?_ (fun _ => ?_)
noncomputable def impl_Displaced_slots.L0 (y0 : List Int) (y1 : List ByteArray) (y2 : Int) (y3 : Int) (y4 : Int) (y5 : Int) (y6 : Int) (y7 : List Int) : Option (List Int) := lim fun k => impl_Displaced_slots.l0 k y0 y1 y2 y3 y4 y5 y6 y7
theorem impl_Displaced_slots.L0_sup (y0 : List Int) (y1 : List ByteArray) (y2 : Int) (y3 : Int) (y4 : Int) (y5 : Int) (y6 : Int) (y7 : List Int) : Sup (fun k => impl_Displaced_slots.l0 k y0 y1 y2 y3 y4 y5 y6 y7) (impl_Displaced_slots.L0 y0 y1 y2 y3 y4 y5 y6 y7) := Sup.of_mono fun k => impl_Displaced_slots.mono_l k y0 y1 y2 y3 y4 y5 y6 y7
noncomputable def impl_Displaced_slots.F (a0_0 : Int) (a0_1 : Int) (a0_2 : Int) (l0_3 : List Int) (l1 : List ByteArray) : Option (List Int) := lim fun k => impl_Displaced_slots.f k a0_0 a0_1 a0_2 l0_3 l1
theorem impl_Displaced_slots.F_sup (a0_0 : Int) (a0_1 : Int) (a0_2 : Int) (l0_3 : List Int) (l1 : List ByteArray) : Sup (fun k => impl_Displaced_slots.f k a0_0 a0_1 a0_2 l0_3 l1) (impl_Displaced_slots.F a0_0 a0_1 a0_2 l0_3 l1) := Sup.of_mono fun k => impl_Displaced_slots.mono a0_0 a0_1 a0_2 l0_3 l1 k
theorem impl_Displaced_slots.L0_eq (x5 : List Int) (x9 : List ByteArray) (x10 : Int) (x11 : Int) (x1000 : Int) (x1001 : Int) (x1002 : Int) (x1003 : List Int) : impl_Displaced_slots.L0 x5 x9 x10 x11 x1000 x1001 x1002 x1003 = if x11 < x10 then (if 0 ≤ x11 then (if x11 < (x9.length : Int) then ((impl_Displaced_slot.F x1000 x1001 x1002 x1003 (rdOf ByteArray.empty x9 x11)).bind fun t863 => (if x5.length < 17592186044416 then (impl_Displaced_slots.L0 (x5 ++ [t863]) x9 x10 (wrap64 (x11 + 1)) x1000 x1001 x1002 x1003) else (none))) else (none)) else (none)) else (some x5) := by
  refine Sup.unique (impl_Displaced_slots.L0_sup x5 x9 x10 x11 x1000 x1001 x1002 x1003) (Sup.shift (fun k => impl_Displaced_slots.mono_l k x5 x9 x10 x11 x1000 x1001 x1002 x1003) (Sup.congr (g' := fun k => if x11 < x10 then (if 0 ≤ x11 then (if x11 < (x9.length : Int) then ((impl_Displaced_slot.f k x1000 x1001 x1002 x1003 (rdOf ByteArray.empty x9 x11)).bind fun t863 => (if x5.length < 17592186044416 then (impl_Displaced_slots.l0 k (x5 ++ [t863]) x9 x10 (wrap64 (x11 + 1)) x1000 x1001 x1002 x1003) else (none))) else (none)) else (none)) else (some x5)) (fun k => by first | rfl | simp only [impl_Displaced_slots.l0]) ?_))
  repeat' first
    | (with_reducible exact impl_Displaced_slots.L0_sup _ _ _ _ _ _ _ _)
    | (with_reducible exact impl_Displaced_slot.F_sup _ _ _ _ _)
    | (with_reducible refine Sup.ite ?_ ?_)
    | (with_reducible refine Sup.bind ?_ (fun _ => ?_))
    | (with_reducible exact Sup.const _)
    | exact impl_Displaced_slots.L0_sup _ _ _ _ _ _ _ _
    | exact impl_Displaced_slot.F_sup _ _ _ _ _
    | exact Sup.const _
theorem impl_Displaced_slots.F_eq (a0_0 : Int) (a0_1 : Int) (a0_2 : Int) (l0_3 : List Int) (l1 : List ByteArray) : impl_Displaced_slots.F a0_0 a0_1 a0_2 l0_3 l1 = impl_Displaced_slots.L0 (([] : List Int)) l1 (l1.length : Int) 0 a0_0 a0_1 a0_2 l0_3 := by
  refine Sup.unique (impl_Displaced_slots.F_sup a0_0 a0_1 a0_2 l0_3 l1) (Sup.congr (g' := fun k => impl_Displaced_slots.l0 k (([] : List Int)) l1 (l1.length : Int) 0 a0_0 a0_1 a0_2 l0_3) (fun k => by first | rfl | simp only [impl_Displaced_slots.f]) ?_)
  repeat' first
    | (with_reducible exact impl_Displaced_slots.L0_sup _ _ _ _ _ _ _ _)
    | (with_reducible exact impl_Displaced_slot.F_sup _ _ _ _ _)
    | (with_reducible refine Sup.ite ?_ ?_)
    | (with_reducible refine Sup.bind ?_ (fun _ => ?_))
    | (with_reducible exact Sup.const _)
    | exact impl_Displaced_slots.L0_sup _ _ _ _ _ _ _ _
    | exact impl_Displaced_slot.F_sup _ _ _ _ _
    | exact Sup.const _
set_option maxHeartbeats 8000000 in
set_option maxRecDepth 100000 in
theorem impl_Displaced_slots.calls (k : Nat) (gb0_ : Nat) (a0_0 : Int) (a0_1 : Int) (a0_2 : Int) (A0_3 : Option Addr) (c0_3 : Nat) (l0_3 : List Int) (A1 : Option Addr) (c1 : Nat) (l1 : List ByteArray) (r : List Int) (w : World) (hr0_3 : Kd.C (Kd.int .i64) w A0_3 l0_3.length l0_3) (hc0_3 : l0_3.length ≤ c0_3) (hr1 : Kd.C Kd.string w A1 l1.length l1) (hc1 : l1.length ≤ c1) (hb0_ : w.heap[gb0_]? = some (.cells #[.int .i64 a0_0, .int .i64 a0_1, .int .i64 a0_2, .slice A0_3 l0_3.length c0_3] 28 (0, 0))) (h : impl_Displaced_slots.f k a0_0 a0_1 a0_2 l0_3 l1 = some r) :
    Calls Try.prog 112 #[.pointer (some ⟨gb0_, 0, none⟩), .slice A1 l1.length c1] w fun e w' => ∃ v0_ : Value, e = .returned (v0_) ∧ Kd.R (Kd.int .i64) 3 w' w.heap.size (fun _ => True) v0_ r ∧ Below w.heap.size w w' := by
  have HR0_3 := Aside0.mk hr0_3
  have HC0_3 := Aside0.mk hc0_3
  clear hr0_3 hc0_3
  have HR1 := Aside0.mk hr1
  have HC1 := Aside0.mk hc1
  clear hr1 hc1
  have BK0 := Aside0.mk hb0_
  clear hb0_
  have HB := Aside0.mk (Below.refl w.heap.size w)
  have H : (impl_Displaced_slots.l0 k (([] : List Int)) l1 (l1.length : Int) 0 a0_0 a0_1 a0_2 l0_3) = some r := h
  clear h
  obtain ⟨y859, hy859⟩ : ∃ y_ : List Int, y_ = (([] : List Int)) := ⟨_, rfl⟩
  replace H : (impl_Displaced_slots.l0 k y859 l1 (l1.length : Int) 0 a0_0 a0_1 a0_2 l0_3) = some r := by first | (rw [hy859]; with_reducible exact H) | (have H2_ := (Option.bind_some _ _).symm.trans H; rw [hy859]; with_reducible exact H2_) | (have H2_ := (Option.bind_some _ _).symm.trans H; with_reducible exact H2_) | with_reducible exact H | (rw [hy859]; exact H) | exact H
  have Ny859 := Aside0.mk hy859
  clear hy859
  have H' := Aside0.mk H
  clear H
  go_enter Try.func112, Try.ntmps112
  go_wp2_with (first | ((with_reducible refine gate_dst (N := 8) rfl ?_); refine Kd.R_lit (Kd.int .i64) _ 3 ?hg (N := 8) ?hd (xs := ([] : List Int)) (inner := []) (ok := fun _ => True) (okp := fun _ => True) ?hr ?hp (fun _ hk => hk) trivial (Below.refl _ _) (Nat.le_refl _) (by simp) ?_; (case hd => rfl); (case hg => rfl); (case hr => first | (go_simp; done) | (go_simp; rfl)); (case hp => exact (Reps.none _ _)); intro v860 w3 ho4 hb hg_ hnew_; clear hg_ hnew_; (first | rw [← Ny859.out] at ho4 | (simp only [Int.reduceToNat] at ho4; rw [← Ny859.out] at ho4)); have n0_ := Aside0.mk (Kd.R_lower ho4 (below_size (by repeat (first | (with_reducible first | exact HB.out | apply below_alloc | apply pw_below_drewN | apply below_drew1 | refine below_set ?_ GE0.out) | exact HB.out)))); have n1_ := Aside0.mk (blk_below (g := gb0_) (o := .cells #[.int .i64 a0_0, .int .i64 a0_1, .int .i64 a0_2, .slice A0_3 l0_3.length c0_3] 28 (0, 0)) (by (with_reducible repeat (first | refine blk_drewN ?_ _ | refine blk_drew ?_ | refine blk_alloc ?_ _)); exact BK0.out) hb); have n2_ := Aside0.mk (below_step (by repeat (first | (with_reducible first | exact HB.out | apply below_alloc | apply pw_below_drewN | apply below_drew1 | refine below_set ?_ GE0.out) | exact HB.out)) hb); clear BK0; clear HB; have HO861 := n0_; have BK0 := n1_; have HB := n2_; clear n0_ n1_ n2_; clear hb ho4))
  go_loopg [5, 11] k (fun kq v5 v11 w' => ∃ (x5_1 : List Int) (x11_1 : Int), v11 = .int .i64 x11_1 ∧ Aside0 (impl_Displaced_slots.l0 kq x5_1 l1 (l1.length : Int) x11_1 a0_0 a0_1 a0_2 l0_3 = some r) ∧ Aside0 (kq ≤ k) ∧ Aside0 (Kd.R (Kd.int .i64) 3 w' w.heap.size (fun _ => True) v5 x5_1) ∧ Aside0 (w'.heap[gb0_]? = some (.cells #[.int .i64 a0_0, .int .i64 a0_1, .int .i64 a0_2, (.slice A0_3 l0_3.length c0_3)] 28 (0, 0))) ∧ Aside0 (Below w.heap.size w w'))
  case atStart => exact ⟨(y859), (0), (by first | rfl | (simp; done) | (simp [*]; done)), H', ⟨Nat.le_refl _⟩, ⟨by (with_reducible repeat (first | apply Kd.R_alloc | apply Kd.R_drewN | apply Kd.R_drew)); exact HO861.out⟩, ⟨by (with_reducible repeat (first | refine blk_drewN ?_ _ | refine blk_drew ?_ | refine blk_alloc ?_ _)); exact BK0.out⟩, ⟨by repeat (first | (with_reducible first | exact HB.out | apply below_alloc | apply pw_below_drewN | apply below_drew1 | refine below_set ?_ GE0.out) | exact HB.out)⟩⟩
  case round =>
   clear H'
   try clear c1
   try clear p2
   obtain ⟨x5_1, x11_1, rfl, HA, HK1, HO_5, BK0, HB⟩ := hrel
   cases gk with
   | zero => exact absurd HA.out (by simp [impl_Displaced_slots.l0])
   | succ k1 =>
    have H := HA.out
    clear HA
    simp only [impl_Displaced_slots.l0] at H
    by_cases c5 : x11_1 < (l1.length : Int)
    ·rw [if_pos c5] at H
     have c5b0 : decide (x11_1 < (l1.length : Int)) = true := decide_eq_true c5
     clear c5
     by_cases c6 : 0 ≤ x11_1
     ·rw [if_pos c6] at H
      have c6b0 : decide (0 ≤ x11_1) = true := decide_eq_true c6
      clear c6
      by_cases c7 : x11_1 < (l1.length : Int)
      ·rw [if_pos c7] at H
       have c7b0 : decide (x11_1 < (l1.length : Int)) = true := decide_eq_true c7
       clear c7
       replace H := Option.bind_eq_some_iff.mp H
       obtain ⟨t863, A80, H⟩ := H
       replace H : (if x5_1.length < 17592186044416 then (impl_Displaced_slots.l0 k1 (x5_1 ++ [t863]) l1 (l1.length : Int) (wrap64 (x11_1 + 1)) a0_0 a0_1 a0_2 l0_3) else (none)) = some r := H
       have A8 := Aside0.mk A80
       clear A80
       by_cases c9 : x5_1.length < 17592186044416
       ·rw [if_pos c9] at H
        have LMc9 := Aside0.mk c9
        clear c9
        obtain ⟨y864, hy864⟩ : ∃ y_ : List Int, y_ = (x5_1 ++ [t863]) := ⟨_, rfl⟩
        replace H : (impl_Displaced_slots.l0 k1 y864 l1 (l1.length : Int) (wrap64 (x11_1 + 1)) a0_0 a0_1 a0_2 l0_3) = some r := by first | (rw [hy864]; with_reducible exact H) | (have H2_ := (Option.bind_some _ _).symm.trans H; rw [hy864]; with_reducible exact H2_) | (have H2_ := (Option.bind_some _ _).symm.trans H; with_reducible exact H2_) | with_reducible exact H | (rw [hy864]; exact H) | exact H
        have Ny864 := Aside0.mk hy864
        clear hy864
        have H' := Aside0.mk H
        clear H
        have p862 : 0 ≤ (x11_1 : Int) := of_decide_eq_true (by first | (with_reducible assumption) | assumption)
        have q862 : x11_1 < (l1.length : Int) := of_decide_eq_true (by first | (with_reducible assumption) | assumption)
        obtain ⟨ad862, e862, hx862_0⟩ := Kd.at_string HR1.out x11_1 p862 q862
        cases e862
        replace hx862_0 := (HB.out.cell (World.block_lt_of_cell? w _ hx862_0)).trans hx862_0
        replace p862 := eq_true p862
        replace q862 := eq_true q862
        go_wp2_with (first | ((with_reducible refine gate_callee (f := 75) rfl ?_); refine goesL_ (some 18) rfl rfl Try.func75 (by kernel_rfl) rfl #[.pointer (some ⟨gb0_, 0, none⟩), .string (rdOf ByteArray.empty l1 x11_1)] rfl (by (try simp only [List.map_toArray, List.map_cons, List.map_nil]); first | done | rfl | (simp only [List.length_drop, List.length_take]; rfl)) ?_; (with_reducible refine (impl_Displaced_slot.calls k1 gb0_ a0_0 a0_1 a0_2 A0_3 c0_3 l0_3 (rdOf ByteArray.empty l1 x11_1) t863 _ ?side1 ?side2 ?side3 A8.out).mono ?_); (case side1 => repeat (first | exact (Kd.C_below HR0_3.out HB.out) | (with_reducible refine Kd.C_alloc ?_ _) | (with_reducible refine Kd.C_drewN ?_ _) | (with_reducible refine Kd.C_drew ?_))); (case side2 => exact HC0_3.out); (case side3 => exact (by (with_reducible repeat (first | refine blk_drewN ?_ _ | refine blk_drew ?_ | refine blk_alloc ?_ _)); exact BK0.out)); rintro e w' ⟨rfl, ⟨nd, rfl⟩⟩; refine ⟨_, rfl, ?_⟩) | ((with_reducible refine gate_builtin (b := .append) (xs := #[.tmp 15, .tmp 19]) rfl ?_); at_builtin; refine Kd.R_append (Kd.int .i64) (w0 := w) w.heap.size rfl (.tmp 15) (.tmp 19) 22 3 (.int .i64 0) 8 rfl Try.underlying22 info3 rfl (by decide) (by omega) u5 x5_1 t863 [.int .i64 t863] (fun _ => True) (fun _ => False) rfl rfl ?aP (fun _ hk => hk.elim) ?aF ?aO ?aB ?aS ?aL ?_; (case aP => exact rfl); (case aB => exact (by repeat (first | (with_reducible first | exact HB.out | apply below_alloc | apply pw_below_drewN | apply below_drew1 | refine below_set ?_ GE0.out) | exact HB.out))); (case aF => exact (fun _ _ => trivial)); (case aO => exact (by (with_reducible repeat (first | apply Kd.R_alloc | apply Kd.R_drewN | apply Kd.R_drew)); exact HO_5.out)); (case aS => exact (below_size (by repeat (first | (with_reducible first | exact HB.out | apply below_alloc | apply pw_below_drewN | apply below_drew1 | refine below_set ?_ GE0.out) | exact HB.out)))); (case aL => have := LMc9.out; omega); intro v865 w10 ho hb hg hat; rw [← Ny864.out] at ho; have n0_ := Aside0.mk (blk_grown (g := gb0_) (o := .cells #[.int .i64 a0_0, .int .i64 a0_1, .int .i64 a0_2, .slice A0_3 l0_3.length c0_3] 28 (0, 0)) (by (with_reducible repeat (first | refine blk_drewN ?_ _ | refine blk_drew ?_ | refine blk_alloc ?_ _)); exact BK0.out) hg (Kd.R_ne HO_5.out BK0.out (by decide))); have n1_ := Aside0.mk (hb); have n2_ := Aside0.mk (ho); clear BK0; clear HB; clear HO_5; have BK0 := n0_; have HB := n1_; have HO866 := n2_; clear n0_ n1_ n2_; clear ho hb hg hat))
        go_roundg k1
        case measure => have := HK1.out; omega
        case rel => exact ⟨(y864), (wrap64 (x11_1 + 1)), (by first | rfl | (simp; done) | (simp [*]; done)), H', ⟨by have := HK1.out; omega⟩, ⟨by (with_reducible repeat (first | apply Kd.R_alloc | apply Kd.R_drewN | apply Kd.R_drew)); exact HO866.out⟩, ⟨by (with_reducible repeat (first | refine blk_drewN ?_ _ | refine blk_drew ?_ | refine blk_alloc ?_ _)); exact BK0.out⟩, ⟨by repeat (first | (with_reducible first | exact HB.out | apply below_alloc | apply pw_below_drewN | apply below_drew1 | refine below_set ?_ GE0.out) | exact HB.out)⟩⟩
       ·rw [if_neg c9] at H
        exact absurd H (by simp)
      ·rw [if_neg c7] at H
       exact absurd H (by simp)
     ·rw [if_neg c6] at H
      exact absurd H (by simp)
    ·rw [if_neg c5] at H
     have c5b0 : decide (x11_1 < (l1.length : Int)) = false := decide_eq_false c5
     clear c5
     obtain rfl := Option.some.inj H
     go_wp2
     go_ret
     exact ⟨_, by first | rfl | (simp [errW_none, errW_some] <;> rfl) | (simp [*, errW_none, errW_some] <;> rfl), by (with_reducible repeat (first | apply Kd.R_alloc | apply Kd.R_drewN | apply Kd.R_drew)); exact HO_5.out, by repeat (first | (with_reducible first | exact HB.out | apply below_alloc | apply pw_below_drewN | apply below_drew1 | refine below_set ?_ GE0.out) | exact HB.out)⟩
/-! ### impl_IsDisplacedFor: function 62 -/
def impl_IsDisplacedFor.j0 : Nat → List ByteArray → Bool → Int → Int → Int → List Int → Option (Bool × Bool)
  | 0, _, _, _, _, _, _ => none
  | k + 1, x1, x13, x868000, x868001, x868002, x868003 => if x13 = true then (some (false, false)) else ((impl_Displaced_slots.f k x868000 x868001 x868002 x868003 x1).bind fun t870 => ((impl_distinct.f k t870).bind fun t873 => (some (t873, true))))
def impl_IsDisplacedFor.f (k : Nat) (a0_0 : Int) (a0_1 : Int) (a0_2 : Int) (l0_3 : List Int) (l1 : List ByteArray) : Option (Bool × Bool) := (impl_IsDisplaced.f k a0_0 a0_1 a0_2 l0_3).bind fun t868 => (if t868 = true then ((impl_AreKeys.f k l1).bind fun t869 => (impl_IsDisplacedFor.j0 k l1 (!t869) a0_0 a0_1 a0_2 l0_3)) else (impl_IsDisplacedFor.j0 k l1 true a0_0 a0_1 a0_2 l0_3))
theorem impl_IsDisplacedFor.mono_l : ∀ k, (∀ y0 y1 y2 y3 y4 y5, LeO (impl_IsDisplacedFor.j0 k y0 y1 y2 y3 y4 y5) (impl_IsDisplacedFor.j0 (k + 1) y0 y1 y2 y3 y4 y5))
  | 0 => fun _ _ _ _ _ _ r h => by simp [impl_IsDisplacedFor.j0] at h
  | k + 1 => by
    have ih0 := impl_IsDisplacedFor.mono_l k
    · intro y0 y1 y2 y3 y4 y5
      unfold impl_IsDisplacedFor.j0
      repeat' first
      | (with_reducible exact ih0 _ _ _ _ _ _)
      | (with_reducible exact impl_AreKeys.mono _ _)
      | (with_reducible exact impl_Displaced_slots.mono _ _ _ _ _ _)
      | (with_reducible exact impl_IsDisplaced.mono _ _ _ _ _)
      | (with_reducible exact impl_distinct.mono _ _)
      | (with_reducible exact LeO.refl _)
      | (with_reducible exact LeO.none _)
      | (with_reducible refine LeO.ite ?_ ?_)
      | (with_reducible refine LeO.bind ?_ (fun _ => ?_))
      | exact ih0 _ _ _ _ _ _
      | exact impl_AreKeys.mono _ _
      | exact impl_Displaced_slots.mono _ _ _ _ _ _
      | exact impl_IsDisplaced.mono _ _ _ _ _
      | exact impl_distinct.mono _ _
      | exact LeO.none _
      | refine LeO.ite ?_ ?_
      | refine LeO.bind ?_ (fun _ => ?_)
theorem impl_IsDisplacedFor.mono : ∀ a0 a1 a2 a3 a4 k, LeO (impl_IsDisplacedFor.f k a0 a1 a2 a3 a4) (impl_IsDisplacedFor.f (k + 1) a0 a1 a2 a3 a4) := by
  intro a0 a1 a2 a3 a4 k
  have ih0 := impl_IsDisplacedFor.mono_l k
  unfold impl_IsDisplacedFor.f
  repeat' first
      | (with_reducible exact ih0 _ _ _ _ _ _)
      | (with_reducible exact impl_AreKeys.mono _ _)
      | (with_reducible exact impl_Displaced_slots.mono _ _ _ _ _ _)
      | (with_reducible exact impl_IsDisplaced.mono _ _ _ _ _)
      | (with_reducible exact impl_distinct.mono _ _)
      | (with_reducible exact LeO.refl _)
      | (with_reducible exact LeO.none _)
      | (with_reducible refine LeO.ite ?_ ?_)
      | (with_reducible refine LeO.bind ?_ (fun _ => ?_))
      | exact ih0 _ _ _ _ _ _
      | exact impl_AreKeys.mono _ _
      | exact impl_Displaced_slots.mono _ _ _ _ _ _
      | exact impl_IsDisplaced.mono _ _ _ _ _
      | exact impl_distinct.mono _ _
      | exact LeO.none _
      | refine LeO.ite ?_ ?_
      | refine LeO.bind ?_ (fun _ => ?_)
noncomputable def impl_IsDisplacedFor.J0 (y0 : List ByteArray) (y1 : Bool) (y2 : Int) (y3 : Int) (y4 : Int) (y5 : List Int) : Option (Bool × Bool) := lim fun k => impl_IsDisplacedFor.j0 k y0 y1 y2 y3 y4 y5
theorem impl_IsDisplacedFor.J0_sup (y0 : List ByteArray) (y1 : Bool) (y2 : Int) (y3 : Int) (y4 : Int) (y5 : List Int) : Sup (fun k => impl_IsDisplacedFor.j0 k y0 y1 y2 y3 y4 y5) (impl_IsDisplacedFor.J0 y0 y1 y2 y3 y4 y5) := Sup.of_mono fun k => impl_IsDisplacedFor.mono_l k y0 y1 y2 y3 y4 y5
noncomputable def impl_IsDisplacedFor.F (a0_0 : Int) (a0_1 : Int) (a0_2 : Int) (l0_3 : List Int) (l1 : List ByteArray) : Option (Bool × Bool) := lim fun k => impl_IsDisplacedFor.f k a0_0 a0_1 a0_2 l0_3 l1
theorem impl_IsDisplacedFor.F_sup (a0_0 : Int) (a0_1 : Int) (a0_2 : Int) (l0_3 : List Int) (l1 : List ByteArray) : Sup (fun k => impl_IsDisplacedFor.f k a0_0 a0_1 a0_2 l0_3 l1) (impl_IsDisplacedFor.F a0_0 a0_1 a0_2 l0_3 l1) := Sup.of_mono fun k => impl_IsDisplacedFor.mono a0_0 a0_1 a0_2 l0_3 l1 k
theorem impl_IsDisplacedFor.J0_eq (x1 : List ByteArray) (x13 : Bool) (x868000 : Int) (x868001 : Int) (x868002 : Int) (x868003 : List Int) : impl_IsDisplacedFor.J0 x1 x13 x868000 x868001 x868002 x868003 = if x13 = true then (some (false, false)) else ((impl_Displaced_slots.F x868000 x868001 x868002 x868003 x1).bind fun t870 => ((impl_distinct.F t870).bind fun t873 => (some (t873, true)))) := by
  refine Sup.unique (impl_IsDisplacedFor.J0_sup x1 x13 x868000 x868001 x868002 x868003) (Sup.shift (fun k => impl_IsDisplacedFor.mono_l k x1 x13 x868000 x868001 x868002 x868003) (Sup.congr (g' := fun k => if x13 = true then (some (false, false)) else ((impl_Displaced_slots.f k x868000 x868001 x868002 x868003 x1).bind fun t870 => ((impl_distinct.f k t870).bind fun t873 => (some (t873, true))))) (fun k => by first | rfl | simp only [impl_IsDisplacedFor.j0]) ?_))
  repeat' first
    | (with_reducible exact impl_IsDisplacedFor.J0_sup _ _ _ _ _ _)
    | (with_reducible exact impl_IsDisplaced.F_sup _ _ _ _)
    | (with_reducible exact impl_AreKeys.F_sup _)
    | (with_reducible exact impl_distinct.F_sup _)
    | (with_reducible exact impl_Displaced_slots.F_sup _ _ _ _ _)
    | (with_reducible refine Sup.ite ?_ ?_)
    | (with_reducible refine Sup.bind ?_ (fun _ => ?_))
    | (with_reducible exact Sup.const _)
    | exact impl_IsDisplacedFor.J0_sup _ _ _ _ _ _
    | exact impl_IsDisplaced.F_sup _ _ _ _
    | exact impl_AreKeys.F_sup _
    | exact impl_distinct.F_sup _
    | exact impl_Displaced_slots.F_sup _ _ _ _ _
    | exact Sup.const _
theorem impl_IsDisplacedFor.F_eq (a0_0 : Int) (a0_1 : Int) (a0_2 : Int) (l0_3 : List Int) (l1 : List ByteArray) : impl_IsDisplacedFor.F a0_0 a0_1 a0_2 l0_3 l1 = (impl_IsDisplaced.F a0_0 a0_1 a0_2 l0_3).bind fun t868 => (if t868 = true then ((impl_AreKeys.F l1).bind fun t869 => (impl_IsDisplacedFor.J0 l1 (!t869) a0_0 a0_1 a0_2 l0_3)) else (impl_IsDisplacedFor.J0 l1 true a0_0 a0_1 a0_2 l0_3)) := by
  refine Sup.unique (impl_IsDisplacedFor.F_sup a0_0 a0_1 a0_2 l0_3 l1) (Sup.congr (g' := fun k => (impl_IsDisplaced.f k a0_0 a0_1 a0_2 l0_3).bind fun t868 => (if t868 = true then ((impl_AreKeys.f k l1).bind fun t869 => (impl_IsDisplacedFor.j0 k l1 (!t869) a0_0 a0_1 a0_2 l0_3)) else (impl_IsDisplacedFor.j0 k l1 true a0_0 a0_1 a0_2 l0_3))) (fun k => by first | rfl | simp only [impl_IsDisplacedFor.f]) ?_)
  repeat' first
    | (with_reducible exact impl_IsDisplacedFor.J0_sup _ _ _ _ _ _)
    | (with_reducible exact impl_IsDisplaced.F_sup _ _ _ _)
    | (with_reducible exact impl_AreKeys.F_sup _)
    | (with_reducible exact impl_distinct.F_sup _)
    | (with_reducible exact impl_Displaced_slots.F_sup _ _ _ _ _)
    | (with_reducible refine Sup.ite ?_ ?_)
    | (with_reducible refine Sup.bind ?_ (fun _ => ?_))
    | (with_reducible exact Sup.const _)
    | exact impl_IsDisplacedFor.J0_sup _ _ _ _ _ _
    | exact impl_IsDisplaced.F_sup _ _ _ _
    | exact impl_AreKeys.F_sup _
    | exact impl_distinct.F_sup _
    | exact impl_Displaced_slots.F_sup _ _ _ _ _
    | exact Sup.const _
set_option maxHeartbeats 8000000 in
set_option maxRecDepth 100000 in
theorem impl_IsDisplacedFor.calls (k : Nat) (a0_0 : Int) (a0_1 : Int) (a0_2 : Int) (A0_3 : Option Addr) (c0_3 : Nat) (l0_3 : List Int) (A1 : Option Addr) (c1 : Nat) (l1 : List ByteArray) (r1 : Bool) (r2 : Bool) (w : World) (hr0_3 : Kd.C (Kd.int .i64) w A0_3 l0_3.length l0_3) (hc0_3 : l0_3.length ≤ c0_3) (hr1 : Kd.C Kd.string w A1 l1.length l1) (hc1 : l1.length ≤ c1) (h : impl_IsDisplacedFor.f k a0_0 a0_1 a0_2 l0_3 l1 = some (r1, r2)) :
    Calls Try.prog 62 #[.agg #[.int .i64 a0_0, .int .i64 a0_1, .int .i64 a0_2, .slice A0_3 l0_3.length c0_3], .slice A1 l1.length c1] w fun e w' => e = .returned (.tuple #[.bool r1, .bool r2]) ∧ Below w.heap.size w w' := by
  have hu28 := Try.underlying28
  have HR0_3 := Aside0.mk hr0_3
  have HC0_3 := Aside0.mk hc0_3
  clear hr0_3 hc0_3
  have HR1 := Aside0.mk hr1
  have HC1 := Aside0.mk hc1
  clear hr1 hc1
  have HB := Aside0.mk (Below.refl w.heap.size w)
  have H : ((impl_IsDisplaced.f k a0_0 a0_1 a0_2 l0_3).bind fun t868 => (if t868 = true then ((impl_AreKeys.f k l1).bind fun t869 => (impl_IsDisplacedFor.j0 k l1 (!t869) a0_0 a0_1 a0_2 l0_3)) else (impl_IsDisplacedFor.j0 k l1 true a0_0 a0_1 a0_2 l0_3))) = some (r1, r2) := h
  clear h
  have HC3 := Aside0.mk H
  clear H
  go_enter Try.func62, Try.ntmps62
  go_upto_region 1 with (first | ((with_reducible refine gate_dst (N := 2) rfl ?_); refine box_event ?hg (N := 2) ?hd (cs := #[.int .i64 a0_0, .int .i64 a0_1, .int .i64 a0_2, .slice A0_3 l0_3.length c0_3]) (t := 28) ?hr ?_; (case hd => rfl); (case hg => rfl); (case hr => first | (go_simp; done) | (go_simp; rfl)); intro gb867 hg w4 hbox hb; have n0_ := Aside0.mk (below_step (by repeat (first | (with_reducible first | exact HB.out | apply below_alloc | apply pw_below_drewN | apply below_drew1) | exact HB.out)) hb); have n1_ := Aside0.mk (hbox); have n2_ := Aside0.mk ((by rw [hg]; exact (below_size (by repeat (first | (with_reducible first | exact HB.out | apply below_alloc | apply pw_below_drewN | apply below_drew1) | exact HB.out))) : w.heap.size ≤ gb867)); have n3_ := Aside0.mk ((by rw [hg]; exact (below_size (by repeat (first | (with_reducible first | exact HB.out | apply below_alloc | apply pw_below_drewN | apply below_drew1) | exact HB.out))) : w.heap.size ≤ gb867)); clear HB; have HB := n0_; have BK867 := n1_; have GW867 := n2_; have GE867 := n3_; clear n0_ n1_ n2_ n3_; clear hb hbox hg))
  (try simp only [Act.put, List.setIfInBounds_toArray, List.set_cons_zero, List.set_cons_succ])
  go_cut [13] (fun v13 wc => ∃ (kq : Nat) (x13_2 : Bool), v13 = .bool x13_2 ∧ Aside0 (impl_IsDisplacedFor.j0 kq l1 x13_2 a0_0 a0_1 a0_2 l0_3 = some (r1, r2)) ∧ Aside0 (kq ≤ k) ∧ Aside0 (wc.heap[gb867]? = some (.cells #[.int .i64 a0_0, .int .i64 a0_1, .int .i64 a0_2, (.slice A0_3 l0_3.length c0_3)] 28 (0, 0))) ∧ Aside0 (Below w.heap.size w wc))
  case first =>
   have H := HC3.out
   clear HC3
   replace H := Option.bind_eq_some_iff.mp H
   obtain ⟨t868, A50, H⟩ := H
   replace H : (if t868 = true then ((impl_AreKeys.f k l1).bind fun t869 => (impl_IsDisplacedFor.j0 k l1 (!t869) a0_0 a0_1 a0_2 l0_3)) else (impl_IsDisplacedFor.j0 k l1 true a0_0 a0_1 a0_2 l0_3)) = some (r1, r2) := H
   have A5 := Aside0.mk A50
   clear A50
   by_cases c6 : t868 = true
   ·subst c6
    have H1 : ((impl_AreKeys.f k l1).bind fun t869 => (impl_IsDisplacedFor.j0 k l1 (!t869) a0_0 a0_1 a0_2 l0_3)) = some (r1, r2) := by rw [if_pos rfl] at H; exact H
    clear H
    have H := H1
    clear H1
    replace H := Option.bind_eq_some_iff.mp H
    obtain ⟨t869, A70, H⟩ := H
    replace H : (impl_IsDisplacedFor.j0 k l1 (!t869) a0_0 a0_1 a0_2 l0_3) = some (r1, r2) := H
    have A7 := Aside0.mk A70
    clear A70
    have H' := Aside0.mk H
    clear H
    have hcz8_0 : w4.cell? ⟨gb867, 0, none⟩ = some (.int .i64 a0_0) := (blk_cell BK867.out 0).trans rfl
    have hcz8_1 : w4.cell? ⟨gb867, 1, none⟩ = some (.int .i64 a0_1) := (blk_cell BK867.out 1).trans rfl
    have hcz8_2 : w4.cell? ⟨gb867, 2, none⟩ = some (.int .i64 a0_2) := (blk_cell BK867.out 2).trans rfl
    have hcz8_3 : w4.cell? ⟨gb867, 3, none⟩ = some (.slice A0_3 l0_3.length c0_3) := (blk_cell BK867.out 3).trans rfl
    have hfz8_0 := blk_frozen BK867.out 0
    have hfz8_1 := blk_frozen BK867.out 1
    have hfz8_2 := blk_frozen BK867.out 2
    have hfz8_3 := blk_frozen BK867.out 3
    go_wp2_with (first | ((with_reducible refine gate_callee (f := 73) rfl ?_); refine goesL_ (some 7) rfl rfl Try.func73 (by kernel_rfl) rfl #[.agg #[.int .i64 a0_0, .int .i64 a0_1, .int .i64 a0_2, .slice A0_3 l0_3.length c0_3]] rfl (by (try simp only [List.map_toArray, List.map_cons, List.map_nil]); first | done | rfl | (simp only [List.length_drop, List.length_take]; rfl)) ?_; (with_reducible refine (impl_IsDisplaced.calls k a0_0 a0_1 a0_2 _ _ l0_3 true _ ?side1 ?side2 A5.out).mono ?_); (case side1 => repeat (first | exact (Kd.C_below HR0_3.out HB.out) | (with_reducible refine Kd.C_alloc ?_ _) | (with_reducible refine Kd.C_drewN ?_ _) | (with_reducible refine Kd.C_drew ?_))); (case side2 => exact HC0_3.out); rintro e w9 ⟨rfl, hb⟩; refine ⟨_, rfl, ?_⟩; have n0_ := Aside0.mk (blk_below (g := gb867) (o := .cells #[.int .i64 a0_0, .int .i64 a0_1, .int .i64 a0_2, .slice A0_3 l0_3.length c0_3] 28 (0, 0)) (by (with_reducible repeat (first | refine blk_drewN ?_ _ | refine blk_drew ?_ | refine blk_alloc ?_ _)); exact BK867.out) hb); have n1_ := Aside0.mk (below_step (by repeat (first | (with_reducible first | exact HB.out | apply below_alloc | apply pw_below_drewN | apply below_drew1 | refine below_set ?_ GE867.out) | exact HB.out)) hb); clear BK867; clear HB; have BK867 := n0_; have HB := n1_; clear n0_ n1_; (try clear hb); (try clear hb2); (try clear hk); (try clear hi)) | (go_at_call 86; (with_reducible refine (impl_AreKeys.calls k _ _ l1 t869 _ ?side1 ?side2 A7.out).mono ?_); (case side1 => repeat (first | exact (Kd.C_below HR1.out HB.out) | (with_reducible refine Kd.C_alloc ?_ _) | (with_reducible refine Kd.C_drewN ?_ _) | (with_reducible refine Kd.C_drew ?_))); (case side2 => exact HC1.out); rintro e w' ⟨rfl, ⟨nd, rfl⟩⟩))
    go_meet
    case rel => exact ⟨_, (!t869), (by first | rfl | (simp; done) | (simp [*]; done)), H', ⟨by first | omega | exact Nat.le_refl _⟩, ⟨by (with_reducible repeat (first | refine blk_drewN ?_ _ | refine blk_drew ?_ | refine blk_alloc ?_ _)); exact BK867.out⟩, ⟨by repeat (first | (with_reducible first | exact HB.out | apply below_alloc | apply pw_below_drewN | apply below_drew1 | refine below_set ?_ GE867.out) | exact HB.out)⟩⟩
   ·replace c6 := Bool.eq_false_iff.mpr c6
    subst c6
    have H1 : (impl_IsDisplacedFor.j0 k l1 true a0_0 a0_1 a0_2 l0_3) = some (r1, r2) := by rw [if_neg (show ¬ (false = true) by decide)] at H; exact H
    clear H
    have H := H1
    clear H1
    have H' := Aside0.mk H
    clear H
    have hcz10_0 : w4.cell? ⟨gb867, 0, none⟩ = some (.int .i64 a0_0) := (blk_cell BK867.out 0).trans rfl
    have hcz10_1 : w4.cell? ⟨gb867, 1, none⟩ = some (.int .i64 a0_1) := (blk_cell BK867.out 1).trans rfl
    have hcz10_2 : w4.cell? ⟨gb867, 2, none⟩ = some (.int .i64 a0_2) := (blk_cell BK867.out 2).trans rfl
    have hcz10_3 : w4.cell? ⟨gb867, 3, none⟩ = some (.slice A0_3 l0_3.length c0_3) := (blk_cell BK867.out 3).trans rfl
    have hfz10_0 := blk_frozen BK867.out 0
    have hfz10_1 := blk_frozen BK867.out 1
    have hfz10_2 := blk_frozen BK867.out 2
    have hfz10_3 := blk_frozen BK867.out 3
    go_wp2_with (first | ((with_reducible refine gate_callee (f := 73) rfl ?_); refine goesL_ (some 7) rfl rfl Try.func73 (by kernel_rfl) rfl #[.agg #[.int .i64 a0_0, .int .i64 a0_1, .int .i64 a0_2, .slice A0_3 l0_3.length c0_3]] rfl (by (try simp only [List.map_toArray, List.map_cons, List.map_nil]); first | done | rfl | (simp only [List.length_drop, List.length_take]; rfl)) ?_; (with_reducible refine (impl_IsDisplaced.calls k a0_0 a0_1 a0_2 _ _ l0_3 false _ ?side1 ?side2 A5.out).mono ?_); (case side1 => repeat (first | exact (Kd.C_below HR0_3.out HB.out) | (with_reducible refine Kd.C_alloc ?_ _) | (with_reducible refine Kd.C_drewN ?_ _) | (with_reducible refine Kd.C_drew ?_))); (case side2 => exact HC0_3.out); rintro e w11 ⟨rfl, hb⟩; refine ⟨_, rfl, ?_⟩; have n0_ := Aside0.mk (blk_below (g := gb867) (o := .cells #[.int .i64 a0_0, .int .i64 a0_1, .int .i64 a0_2, .slice A0_3 l0_3.length c0_3] 28 (0, 0)) (by (with_reducible repeat (first | refine blk_drewN ?_ _ | refine blk_drew ?_ | refine blk_alloc ?_ _)); exact BK867.out) hb); have n1_ := Aside0.mk (below_step (by repeat (first | (with_reducible first | exact HB.out | apply below_alloc | apply pw_below_drewN | apply below_drew1 | refine below_set ?_ GE867.out) | exact HB.out)) hb); clear BK867; clear HB; have BK867 := n0_; have HB := n1_; clear n0_ n1_; (try clear hb); (try clear hb2); (try clear hk); (try clear hi)))
    go_meet
    case rel => exact ⟨_, (true), (by first | rfl | (simp; done) | (simp [*]; done)), H', ⟨by first | omega | exact Nat.le_refl _⟩, ⟨by (with_reducible repeat (first | refine blk_drewN ?_ _ | refine blk_drew ?_ | refine blk_alloc ?_ _)); exact BK867.out⟩, ⟨by repeat (first | (with_reducible first | exact HB.out | apply below_alloc | apply pw_below_drewN | apply below_drew1 | refine below_set ?_ GE867.out) | exact HB.out)⟩⟩
  case rest =>
   clear HC3
   try clear c1
   try clear p2
   try clear c6
   try clear c7
   try clear hcz10_0
   try clear hcz10_1
   try clear hcz10_2
   try clear hcz10_3
   try clear hcz8_0
   try clear hcz8_1
   try clear hcz8_2
   try clear hcz8_3
   try clear hfz10_0
   try clear hfz10_1
   try clear hfz10_2
   try clear hfz10_3
   try clear hfz8_0
   try clear hfz8_1
   try clear hfz8_2
   try clear hfz8_3
   obtain ⟨kq, x13_2, rfl, HA, HJ2, BK867, HB⟩ := hcut
   cases kq with
   | zero => exact absurd HA.out (by simp [impl_IsDisplacedFor.j0])
   | succ kj2 =>
    have H := HA.out
    clear HA
    simp only [impl_IsDisplacedFor.j0] at H
    by_cases c12 : x13_2 = true
    ·subst c12
     have H1 : (some (false, false)) = some (r1, r2) := by rw [if_pos rfl] at H; exact H
     clear H
     have H := H1
     clear H1
     simp only [Option.some.injEq, Prod.mk.injEq] at H
     obtain ⟨rfl, rfl⟩ := H
     go_wp2
     go_ret2
     exact ⟨by first | rfl | (simp [errW_none, errW_some] <;> rfl) | (simp [*, errW_none, errW_some] <;> rfl), by repeat (first | (with_reducible first | exact HB.out | apply below_alloc | apply pw_below_drewN | apply below_drew1 | refine below_set ?_ GE867.out) | exact HB.out)⟩
    ·replace c12 := Bool.eq_false_iff.mpr c12
     subst c12
     have H1 : ((impl_Displaced_slots.f kj2 a0_0 a0_1 a0_2 l0_3 l1).bind fun t870 => ((impl_distinct.f kj2 t870).bind fun t873 => (some (t873, true)))) = some (r1, r2) := by rw [if_neg (show ¬ (false = true) by decide)] at H; exact H
     clear H
     have H := H1
     clear H1
     replace H := Option.bind_eq_some_iff.mp H
     obtain ⟨t870, A130, H⟩ := H
     replace H : ((impl_distinct.f kj2 t870).bind fun t873 => (some (t873, true))) = some (r1, r2) := H
     have A13 := Aside0.mk A130
     clear A130
     replace H := Option.bind_eq_some_iff.mp H
     obtain ⟨t873, A140, H⟩ := H
     replace H : (some (t873, true)) = some (r1, r2) := H
     have A14 := Aside0.mk A140
     clear A140
     simp only [Option.some.injEq, Prod.mk.injEq] at H
     obtain ⟨rfl, rfl⟩ := H
     go_wp2_with (first | ((with_reducible refine gate_callee (f := 112) rfl ?_); refine goesL_ (some 15) rfl rfl Try.func112 (by kernel_rfl) rfl #[.pointer (some ⟨gb867, 0, none⟩), .slice A1 l1.length c1] rfl (by (try simp only [List.map_toArray, List.map_cons, List.map_nil]); first | done | rfl | (simp only [List.length_drop, List.length_take]; rfl)) ?_; (with_reducible refine (impl_Displaced_slots.calls kj2 gb867 a0_0 a0_1 a0_2 A0_3 c0_3 l0_3 _ _ l1 t870 _ ?side1 ?side2 ?side3 ?side4 ?side5 A13.out).mono ?_); (case side1 => repeat (first | exact (Kd.C_below HR0_3.out HB.out) | (with_reducible refine Kd.C_alloc ?_ _) | (with_reducible refine Kd.C_drewN ?_ _) | (with_reducible refine Kd.C_drew ?_))); (case side2 => exact HC0_3.out); (case side3 => repeat (first | exact (Kd.C_below HR1.out HB.out) | (with_reducible refine Kd.C_alloc ?_ _) | (with_reducible refine Kd.C_drewN ?_ _) | (with_reducible refine Kd.C_drew ?_))); (case side4 => exact HC1.out); (case side5 => exact (by (with_reducible repeat (first | refine blk_drewN ?_ _ | refine blk_drew ?_ | refine blk_alloc ?_ _)); exact BK867.out)); rintro e w15 ⟨v871, rfl, ho0, hb⟩; refine ⟨_, rfl, ?_⟩; have n0_ := Aside0.mk (Kd.R_lower ho0 (below_size (by repeat (first | (with_reducible first | exact HB.out | apply below_alloc | apply pw_below_drewN | apply below_drew1 | refine below_set ?_ GE867.out) | exact HB.out)))); have n1_ := Aside0.mk (blk_below (g := gb867) (o := .cells #[.int .i64 a0_0, .int .i64 a0_1, .int .i64 a0_2, .slice A0_3 l0_3.length c0_3] 28 (0, 0)) (by (with_reducible repeat (first | refine blk_drewN ?_ _ | refine blk_drew ?_ | refine blk_alloc ?_ _)); exact BK867.out) hb); have n2_ := Aside0.mk (below_step (by repeat (first | (with_reducible first | exact HB.out | apply below_alloc | apply pw_below_drewN | apply below_drew1 | refine below_set ?_ GE867.out) | exact HB.out)) hb); clear BK867; clear HB; have HO872 := n0_; have BK867 := n1_; have HB := n2_; clear n0_ n1_ n2_; (try clear hb); (try clear hb2); (try clear hk); (try clear hi); (try clear ho0); obtain ⟨Ao16, co16, eo16⟩ := Kd.R_slice HO872.out; subst eo16) | ((with_reducible refine gate_callee (f := 91) rfl ?_); refine goesL_ (some 16) rfl rfl Try.func91 (by kernel_rfl) rfl #[.slice Ao16 t870.length co16] rfl (by (try simp only [List.map_toArray, List.map_cons, List.map_nil]); first | done | rfl | (simp only [List.length_drop, List.length_take]; rfl)) ?_; (with_reducible refine (impl_distinct.calls kj2 _ _ t870 t873 _ ?side1 ?side2 A14.out).mono ?_); (case side1 => repeat (first | exact (Kd.R_reads' HO872.out).2.2 | (with_reducible refine Kd.C_alloc ?_ _) | (with_reducible refine Kd.C_drewN ?_ _) | (with_reducible refine Kd.C_drew ?_))); (case side2 => exact (Kd.R_reads' HO872.out).2.1); rintro e w17 ⟨rfl, hb⟩; refine ⟨_, rfl, ?_⟩; have n0_ := Aside0.mk (Kd.R_below (by (with_reducible repeat (first | apply Kd.R_alloc | apply Kd.R_drewN | apply Kd.R_drew)); exact HO872.out) hb); have n1_ := Aside0.mk (blk_below (g := gb867) (o := .cells #[.int .i64 a0_0, .int .i64 a0_1, .int .i64 a0_2, .slice A0_3 l0_3.length c0_3] 28 (0, 0)) (by (with_reducible repeat (first | refine blk_drewN ?_ _ | refine blk_drew ?_ | refine blk_alloc ?_ _)); exact BK867.out) hb); have n2_ := Aside0.mk (below_step (by repeat (first | (with_reducible first | exact HB.out | apply below_alloc | apply pw_below_drewN | apply below_drew1 | refine below_set ?_ GE867.out) | exact HB.out)) hb); clear HO872; clear BK867; clear HB; have HO872 := n0_; have BK867 := n1_; have HB := n2_; clear n0_ n1_ n2_; (try clear hb); (try clear hb2); (try clear hk); (try clear hi)))
     go_ret2
     exact ⟨by first | rfl | (simp [errW_none, errW_some] <;> rfl) | (simp [*, errW_none, errW_some] <;> rfl), by repeat (first | (with_reducible first | exact HB.out | apply below_alloc | apply pw_below_drewN | apply below_drew1 | refine below_set ?_ GE867.out) | exact HB.out)⟩
/-! ### laws_FnExactIsDisplacedFor: function 13 -/
def laws_FnExactIsDisplacedFor.f (k : Nat) (a0_0 : Int) (a0_1 : Int) (a0_2 : Int) (l0_3 : List Int) (l1 : List ByteArray) : Option (Bool) := (laws_szDisplaced.f a0_0 a0_1 a0_2 l0_3 1048576).bind fun t875 => (if t875 < 0 then (some true) else ((laws_szStringS.f k l1 t875).bind fun t876 => (if t876 < 0 then (some true) else ((laws_toDisplaced.f k a0_0 a0_1 a0_2 l0_3).bind fun bt877 => ((laws_toStringS.f k l1).bind fun t883 => ((spec_IsDisplacedFor.f k bt877.1 bt877.2.1 bt877.2.2.1 bt877.2.2.2 t883).bind fun bt886 => ((laws_toDisplaced.f k a0_0 a0_1 a0_2 l0_3).bind fun bt888 => ((laws_toStringS.f k l1).bind fun t895 => ((impl_IsDisplacedFor.f k bt888.1 bt888.2.1 bt888.2.2.1 bt888.2.2.2 t895).bind fun bt898 => (if (bt898.1 != bt886.1) = true then (none) else (if (bt898.2 != bt886.2) = true then (none) else ((laws_toDisplaced.f k a0_0 a0_1 a0_2 l0_3).bind fun bt900 => ((laws_eqDisplaced.f k bt888.1 bt888.2.1 bt888.2.2.1 bt888.2.2.2 bt900.1 bt900.2.1 bt900.2.2.1 bt900.2.2.2).bind fun t906 => (if t906 = true then ((laws_toStringS.f k l1).bind fun t907 => ((laws_eqStringS.f k t895 t907).bind fun t910 => (if t910 = true then (some true) else (none)))) else (none)))))))))))))))
theorem laws_FnExactIsDisplacedFor.mono : ∀ a0 a1 a2 a3 a4 k, LeO (laws_FnExactIsDisplacedFor.f k a0 a1 a2 a3 a4) (laws_FnExactIsDisplacedFor.f (k + 1) a0 a1 a2 a3 a4) := by
  intro a0 a1 a2 a3 a4 k
  unfold laws_FnExactIsDisplacedFor.f
  repeat' first
      | (with_reducible exact impl_IsDisplacedFor.mono _ _ _ _ _ _)
      | (with_reducible exact laws_eqDisplaced.mono _ _ _ _ _ _ _ _ _)
      | (with_reducible exact laws_eqStringS.mono _ _ _)
      | (with_reducible exact laws_szStringS.mono _ _ _)
      | (with_reducible exact laws_toDisplaced.mono _ _ _ _ _)
      | (with_reducible exact laws_toStringS.mono _ _)
      | (with_reducible exact spec_IsDisplacedFor.mono _ _ _ _ _ _)
      | (with_reducible exact LeO.refl _)
      | (with_reducible exact LeO.none _)
      | (with_reducible refine LeO.ite ?_ ?_)
      | (with_reducible refine LeO.bind ?_ (fun _ => ?_))
      | exact impl_IsDisplacedFor.mono _ _ _ _ _ _
      | exact laws_eqDisplaced.mono _ _ _ _ _ _ _ _ _
      | exact laws_eqStringS.mono _ _ _
      | exact laws_szStringS.mono _ _ _
      | exact laws_toDisplaced.mono _ _ _ _ _
      | exact laws_toStringS.mono _ _
      | exact spec_IsDisplacedFor.mono _ _ _ _ _ _
      | exact LeO.none _
      | refine LeO.ite ?_ ?_
      | refine LeO.bind ?_ (fun _ => ?_)
noncomputable def laws_FnExactIsDisplacedFor.F (a0_0 : Int) (a0_1 : Int) (a0_2 : Int) (l0_3 : List Int) (l1 : List ByteArray) : Option (Bool) := lim fun k => laws_FnExactIsDisplacedFor.f k a0_0 a0_1 a0_2 l0_3 l1
theorem laws_FnExactIsDisplacedFor.F_sup (a0_0 : Int) (a0_1 : Int) (a0_2 : Int) (l0_3 : List Int) (l1 : List ByteArray) : Sup (fun k => laws_FnExactIsDisplacedFor.f k a0_0 a0_1 a0_2 l0_3 l1) (laws_FnExactIsDisplacedFor.F a0_0 a0_1 a0_2 l0_3 l1) := Sup.of_mono fun k => laws_FnExactIsDisplacedFor.mono a0_0 a0_1 a0_2 l0_3 l1 k
theorem laws_FnExactIsDisplacedFor.F_eq (a0_0 : Int) (a0_1 : Int) (a0_2 : Int) (l0_3 : List Int) (l1 : List ByteArray) : laws_FnExactIsDisplacedFor.F a0_0 a0_1 a0_2 l0_3 l1 = (laws_szDisplaced.f a0_0 a0_1 a0_2 l0_3 1048576).bind fun t875 => (if t875 < 0 then (some true) else ((laws_szStringS.F l1 t875).bind fun t876 => (if t876 < 0 then (some true) else ((laws_toDisplaced.F a0_0 a0_1 a0_2 l0_3).bind fun bt877 => ((laws_toStringS.F l1).bind fun t883 => ((spec_IsDisplacedFor.F bt877.1 bt877.2.1 bt877.2.2.1 bt877.2.2.2 t883).bind fun bt886 => ((laws_toDisplaced.F a0_0 a0_1 a0_2 l0_3).bind fun bt888 => ((laws_toStringS.F l1).bind fun t895 => ((impl_IsDisplacedFor.F bt888.1 bt888.2.1 bt888.2.2.1 bt888.2.2.2 t895).bind fun bt898 => (if (bt898.1 != bt886.1) = true then (none) else (if (bt898.2 != bt886.2) = true then (none) else ((laws_toDisplaced.F a0_0 a0_1 a0_2 l0_3).bind fun bt900 => ((laws_eqDisplaced.F bt888.1 bt888.2.1 bt888.2.2.1 bt888.2.2.2 bt900.1 bt900.2.1 bt900.2.2.1 bt900.2.2.2).bind fun t906 => (if t906 = true then ((laws_toStringS.F l1).bind fun t907 => ((laws_eqStringS.F t895 t907).bind fun t910 => (if t910 = true then (some true) else (none)))) else (none))))))))))))))) := by
  refine Sup.unique (laws_FnExactIsDisplacedFor.F_sup a0_0 a0_1 a0_2 l0_3 l1) (Sup.congr (g' := fun k => (laws_szDisplaced.f a0_0 a0_1 a0_2 l0_3 1048576).bind fun t875 => (if t875 < 0 then (some true) else ((laws_szStringS.f k l1 t875).bind fun t876 => (if t876 < 0 then (some true) else ((laws_toDisplaced.f k a0_0 a0_1 a0_2 l0_3).bind fun bt877 => ((laws_toStringS.f k l1).bind fun t883 => ((spec_IsDisplacedFor.f k bt877.1 bt877.2.1 bt877.2.2.1 bt877.2.2.2 t883).bind fun bt886 => ((laws_toDisplaced.f k a0_0 a0_1 a0_2 l0_3).bind fun bt888 => ((laws_toStringS.f k l1).bind fun t895 => ((impl_IsDisplacedFor.f k bt888.1 bt888.2.1 bt888.2.2.1 bt888.2.2.2 t895).bind fun bt898 => (if (bt898.1 != bt886.1) = true then (none) else (if (bt898.2 != bt886.2) = true then (none) else ((laws_toDisplaced.f k a0_0 a0_1 a0_2 l0_3).bind fun bt900 => ((laws_eqDisplaced.f k bt888.1 bt888.2.1 bt888.2.2.1 bt888.2.2.2 bt900.1 bt900.2.1 bt900.2.2.1 bt900.2.2.2).bind fun t906 => (if t906 = true then ((laws_toStringS.f k l1).bind fun t907 => ((laws_eqStringS.f k t895 t907).bind fun t910 => (if t910 = true then (some true) else (none)))) else (none)))))))))))))))) (fun k => by first | rfl | simp only [laws_FnExactIsDisplacedFor.f]) ?_)
  repeat' first
    | (with_reducible exact laws_toDisplaced.F_sup _ _ _ _)
    | (with_reducible exact laws_eqDisplaced.F_sup _ _ _ _ _ _ _ _)
    | (with_reducible exact laws_szStringS.F_sup _ _)
    | (with_reducible exact laws_toStringS.F_sup _)
    | (with_reducible exact laws_eqStringS.F_sup _ _)
    | (with_reducible exact spec_IsDisplacedFor.F_sup _ _ _ _ _)
    | (with_reducible exact impl_IsDisplacedFor.F_sup _ _ _ _ _)
    | (with_reducible refine Sup.ite ?_ ?_)
    | (with_reducible refine Sup.bind ?_ (fun _ => ?_))
    | (with_reducible exact Sup.const _)
    | exact laws_toDisplaced.F_sup _ _ _ _
    | exact laws_eqDisplaced.F_sup _ _ _ _ _ _ _ _
    | exact laws_szStringS.F_sup _ _
    | exact laws_toStringS.F_sup _
    | exact laws_eqStringS.F_sup _ _
    | exact spec_IsDisplacedFor.F_sup _ _ _ _ _
    | exact impl_IsDisplacedFor.F_sup _ _ _ _ _
    | exact Sup.const _
set_option maxHeartbeats 8000000 in
set_option maxRecDepth 100000 in
theorem laws_FnExactIsDisplacedFor.calls (k : Nat) (a0_0 : Int) (a0_1 : Int) (a0_2 : Int) (A0_3 : Option Addr) (c0_3 : Nat) (l0_3 : List Int) (A1 : Option Addr) (c1 : Nat) (l1 : List ByteArray) (r : Bool) (w : World) (hr0_3 : Kd.C (Kd.int .i64) w A0_3 l0_3.length l0_3) (hc0_3 : l0_3.length ≤ c0_3) (hr1 : Kd.C Kd.string w A1 l1.length l1) (hc1 : l1.length ≤ c1) (h : laws_FnExactIsDisplacedFor.f k a0_0 a0_1 a0_2 l0_3 l1 = some r) :
    Calls Try.prog 13 #[.agg #[.int .i64 a0_0, .int .i64 a0_1, .int .i64 a0_2, .slice A0_3 l0_3.length c0_3], .slice A1 l1.length c1] w fun e w' => e = .returned (.bool r) ∧ Below w.heap.size w w' := by
  have hu24 := Try.underlying24
  have hu28 := Try.underlying28
  have HR0_3 := Aside0.mk hr0_3
  have HC0_3 := Aside0.mk hc0_3
  clear hr0_3 hc0_3
  have HR1 := Aside0.mk hr1
  have HC1 := Aside0.mk hc1
  clear hr1 hc1
  have HB := Aside0.mk (Below.refl w.heap.size w)
  have H : ((laws_szDisplaced.f a0_0 a0_1 a0_2 l0_3 1048576).bind fun t875 => (if t875 < 0 then (some true) else ((laws_szStringS.f k l1 t875).bind fun t876 => (if t876 < 0 then (some true) else ((laws_toDisplaced.f k a0_0 a0_1 a0_2 l0_3).bind fun bt877 => ((laws_toStringS.f k l1).bind fun t883 => ((spec_IsDisplacedFor.f k bt877.1 bt877.2.1 bt877.2.2.1 bt877.2.2.2 t883).bind fun bt886 => ((laws_toDisplaced.f k a0_0 a0_1 a0_2 l0_3).bind fun bt888 => ((laws_toStringS.f k l1).bind fun t895 => ((impl_IsDisplacedFor.f k bt888.1 bt888.2.1 bt888.2.2.1 bt888.2.2.2 t895).bind fun bt898 => (if (bt898.1 != bt886.1) = true then (none) else (if (bt898.2 != bt886.2) = true then (none) else ((laws_toDisplaced.f k a0_0 a0_1 a0_2 l0_3).bind fun bt900 => ((laws_eqDisplaced.f k bt888.1 bt888.2.1 bt888.2.2.1 bt888.2.2.2 bt900.1 bt900.2.1 bt900.2.2.1 bt900.2.2.2).bind fun t906 => (if t906 = true then ((laws_toStringS.f k l1).bind fun t907 => ((laws_eqStringS.f k t895 t907).bind fun t910 => (if t910 = true then (some true) else (none)))) else (none)))))))))))))))) = some r := h
  clear h
  replace H := Option.bind_eq_some_iff.mp H
  obtain ⟨t875, A30, H⟩ := H
  replace H : (if t875 < 0 then (some true) else ((laws_szStringS.f k l1 t875).bind fun t876 => (if t876 < 0 then (some true) else ((laws_toDisplaced.f k a0_0 a0_1 a0_2 l0_3).bind fun bt877 => ((laws_toStringS.f k l1).bind fun t883 => ((spec_IsDisplacedFor.f k bt877.1 bt877.2.1 bt877.2.2.1 bt877.2.2.2 t883).bind fun bt886 => ((laws_toDisplaced.f k a0_0 a0_1 a0_2 l0_3).bind fun bt888 => ((laws_toStringS.f k l1).bind fun t895 => ((impl_IsDisplacedFor.f k bt888.1 bt888.2.1 bt888.2.2.1 bt888.2.2.2 t895).bind fun bt898 => (if (bt898.1 != bt886.1) = true then (none) else (if (bt898.2 != bt886.2) = true then (none) else ((laws_toDisplaced.f k a0_0 a0_1 a0_2 l0_3).bind fun bt900 => ((laws_eqDisplaced.f k bt888.1 bt888.2.1 bt888.2.2.1 bt888.2.2.2 bt900.1 bt900.2.1 bt900.2.2.1 bt900.2.2.2).bind fun t906 => (if t906 = true then ((laws_toStringS.f k l1).bind fun t907 => ((laws_eqStringS.f k t895 t907).bind fun t910 => (if t910 = true then (some true) else (none)))) else (none))))))))))))))) = some r := H
  have A3 := Aside0.mk A30
  clear A30
  by_cases c4 : t875 < 0
  ·rw [if_pos c4] at H
   have c4b0 : decide (t875 < 0) = true := decide_eq_true c4
   clear c4
   obtain rfl := Option.some.inj H
   go_enter Try.func13, Try.ntmps13
   go_wp2_with (first | ((with_reducible refine gate_dst (N := 2) rfl ?_); refine box_event ?hg (N := 2) ?hd (cs := #[.int .i64 a0_0, .int .i64 a0_1, .int .i64 a0_2, .slice A0_3 l0_3.length c0_3]) (t := 24) ?hr ?_; (case hd => rfl); (case hg => rfl); (case hr => first | (go_simp; done) | (go_simp; rfl)); intro gb874 hg w5 hbox hb; have n0_ := Aside0.mk (below_step (by repeat (first | (with_reducible first | exact HB.out | apply below_alloc | apply pw_below_drewN | apply below_drew1) | exact HB.out)) hb); have n1_ := Aside0.mk (hbox); have n2_ := Aside0.mk ((by rw [hg]; exact (below_size (by repeat (first | (with_reducible first | exact HB.out | apply below_alloc | apply pw_below_drewN | apply below_drew1) | exact HB.out))) : w.heap.size ≤ gb874)); have n3_ := Aside0.mk ((by rw [hg]; exact (below_size (by repeat (first | (with_reducible first | exact HB.out | apply below_alloc | apply pw_below_drewN | apply below_drew1) | exact HB.out))) : w.heap.size ≤ gb874)); clear HB; have HB := n0_; have BK874 := n1_; have GW874 := n2_; have GE874 := n3_; clear n0_ n1_ n2_ n3_; clear hb hbox hg; have hcz6_0 : w5.cell? ⟨gb874, 0, none⟩ = some (.int .i64 a0_0) := (blk_cell BK874.out 0).trans rfl; have hcz6_1 : w5.cell? ⟨gb874, 1, none⟩ = some (.int .i64 a0_1) := (blk_cell BK874.out 1).trans rfl; have hcz6_2 : w5.cell? ⟨gb874, 2, none⟩ = some (.int .i64 a0_2) := (blk_cell BK874.out 2).trans rfl; have hcz6_3 : w5.cell? ⟨gb874, 3, none⟩ = some (.slice A0_3 l0_3.length c0_3) := (blk_cell BK874.out 3).trans rfl; have hfz6_0 := blk_frozen BK874.out 0; have hfz6_1 := blk_frozen BK874.out 1; have hfz6_2 := blk_frozen BK874.out 2; have hfz6_3 := blk_frozen BK874.out 3) | ((with_reducible refine gate_callee (f := 15) rfl ?_); refine goesL_ (some 14) rfl rfl Try.func15 (by kernel_rfl) rfl #[.agg #[.int .i64 a0_0, .int .i64 a0_1, .int .i64 a0_2, .slice A0_3 l0_3.length c0_3], .int .i64 1048576] rfl (by (try simp only [List.map_toArray, List.map_cons, List.map_nil]); first | done | rfl | (simp only [List.length_drop, List.length_take]; rfl)) ?_; (with_reducible refine (laws_szDisplaced.calls a0_0 a0_1 a0_2 _ _ l0_3 1048576 t875 _ ?side1 ?side2 A3.out).mono ?_); (case side1 => repeat (first | exact (Kd.C_below HR0_3.out HB.out) | (with_reducible refine Kd.C_alloc ?_ _) | (with_reducible refine Kd.C_drewN ?_ _) | (with_reducible refine Kd.C_drew ?_))); (case side2 => exact HC0_3.out); rintro e w7 ⟨rfl, hb⟩; refine ⟨_, rfl, ?_⟩; have n0_ := Aside0.mk (blk_below (g := gb874) (o := .cells #[.int .i64 a0_0, .int .i64 a0_1, .int .i64 a0_2, .slice A0_3 l0_3.length c0_3] 24 (0, 0)) (by (with_reducible repeat (first | refine blk_drewN ?_ _ | refine blk_drew ?_ | refine blk_alloc ?_ _)); exact BK874.out) hb); have n1_ := Aside0.mk (below_step (by repeat (first | (with_reducible first | exact HB.out | apply below_alloc | apply pw_below_drewN | apply below_drew1 | refine below_set ?_ GE874.out) | exact HB.out)) hb); clear BK874; clear HB; have BK874 := n0_; have HB := n1_; clear n0_ n1_; (try clear hb); (try clear hb2); (try clear hk); (try clear hi)))
   go_ret
   exact ⟨by first | rfl | (simp [errW_none, errW_some] <;> rfl) | (simp [*, errW_none, errW_some] <;> rfl), by repeat (first | (with_reducible first | exact HB.out | apply below_alloc | apply pw_below_drewN | apply below_drew1 | refine below_set ?_ GE874.out) | exact HB.out)⟩
  ·rw [if_neg c4] at H
   have c4b0 : decide (t875 < 0) = false := decide_eq_false c4
   clear c4
   replace H := Option.bind_eq_some_iff.mp H
   obtain ⟨t876, A80, H⟩ := H
   replace H : (if t876 < 0 then (some true) else ((laws_toDisplaced.f k a0_0 a0_1 a0_2 l0_3).bind fun bt877 => ((laws_toStringS.f k l1).bind fun t883 => ((spec_IsDisplacedFor.f k bt877.1 bt877.2.1 bt877.2.2.1 bt877.2.2.2 t883).bind fun bt886 => ((laws_toDisplaced.f k a0_0 a0_1 a0_2 l0_3).bind fun bt888 => ((laws_toStringS.f k l1).bind fun t895 => ((impl_IsDisplacedFor.f k bt888.1 bt888.2.1 bt888.2.2.1 bt888.2.2.2 t895).bind fun bt898 => (if (bt898.1 != bt886.1) = true then (none) else (if (bt898.2 != bt886.2) = true then (none) else ((laws_toDisplaced.f k a0_0 a0_1 a0_2 l0_3).bind fun bt900 => ((laws_eqDisplaced.f k bt888.1 bt888.2.1 bt888.2.2.1 bt888.2.2.2 bt900.1 bt900.2.1 bt900.2.2.1 bt900.2.2.2).bind fun t906 => (if t906 = true then ((laws_toStringS.f k l1).bind fun t907 => ((laws_eqStringS.f k t895 t907).bind fun t910 => (if t910 = true then (some true) else (none)))) else (none))))))))))))) = some r := H
   have A8 := Aside0.mk A80
   clear A80
   by_cases c9 : t876 < 0
   ·rw [if_pos c9] at H
    have c9b0 : decide (t876 < 0) = true := decide_eq_true c9
    clear c9
    obtain rfl := Option.some.inj H
    go_enter Try.func13, Try.ntmps13
    go_wp2_with (first | ((with_reducible refine gate_dst (N := 2) rfl ?_); refine box_event ?hg (N := 2) ?hd (cs := #[.int .i64 a0_0, .int .i64 a0_1, .int .i64 a0_2, .slice A0_3 l0_3.length c0_3]) (t := 24) ?hr ?_; (case hd => rfl); (case hg => rfl); (case hr => first | (go_simp; done) | (go_simp; rfl)); intro gb874 hg w10 hbox hb; have n0_ := Aside0.mk (below_step (by repeat (first | (with_reducible first | exact HB.out | apply below_alloc | apply pw_below_drewN | apply below_drew1) | exact HB.out)) hb); have n1_ := Aside0.mk (hbox); have n2_ := Aside0.mk ((by rw [hg]; exact (below_size (by repeat (first | (with_reducible first | exact HB.out | apply below_alloc | apply pw_below_drewN | apply below_drew1) | exact HB.out))) : w.heap.size ≤ gb874)); have n3_ := Aside0.mk ((by rw [hg]; exact (below_size (by repeat (first | (with_reducible first | exact HB.out | apply below_alloc | apply pw_below_drewN | apply below_drew1) | exact HB.out))) : w.heap.size ≤ gb874)); clear HB; have HB := n0_; have BK874 := n1_; have GW874 := n2_; have GE874 := n3_; clear n0_ n1_ n2_ n3_; clear hb hbox hg; have hcz11_0 : w10.cell? ⟨gb874, 0, none⟩ = some (.int .i64 a0_0) := (blk_cell BK874.out 0).trans rfl; have hcz11_1 : w10.cell? ⟨gb874, 1, none⟩ = some (.int .i64 a0_1) := (blk_cell BK874.out 1).trans rfl; have hcz11_2 : w10.cell? ⟨gb874, 2, none⟩ = some (.int .i64 a0_2) := (blk_cell BK874.out 2).trans rfl; have hcz11_3 : w10.cell? ⟨gb874, 3, none⟩ = some (.slice A0_3 l0_3.length c0_3) := (blk_cell BK874.out 3).trans rfl; have hfz11_0 := blk_frozen BK874.out 0; have hfz11_1 := blk_frozen BK874.out 1; have hfz11_2 := blk_frozen BK874.out 2; have hfz11_3 := blk_frozen BK874.out 3) | ((with_reducible refine gate_callee (f := 15) rfl ?_); refine goesL_ (some 14) rfl rfl Try.func15 (by kernel_rfl) rfl #[.agg #[.int .i64 a0_0, .int .i64 a0_1, .int .i64 a0_2, .slice A0_3 l0_3.length c0_3], .int .i64 1048576] rfl (by (try simp only [List.map_toArray, List.map_cons, List.map_nil]); first | done | rfl | (simp only [List.length_drop, List.length_take]; rfl)) ?_; (with_reducible refine (laws_szDisplaced.calls a0_0 a0_1 a0_2 _ _ l0_3 1048576 t875 _ ?side1 ?side2 A3.out).mono ?_); (case side1 => repeat (first | exact (Kd.C_below HR0_3.out HB.out) | (with_reducible refine Kd.C_alloc ?_ _) | (with_reducible refine Kd.C_drewN ?_ _) | (with_reducible refine Kd.C_drew ?_))); (case side2 => exact HC0_3.out); rintro e w12 ⟨rfl, hb⟩; refine ⟨_, rfl, ?_⟩; have n0_ := Aside0.mk (blk_below (g := gb874) (o := .cells #[.int .i64 a0_0, .int .i64 a0_1, .int .i64 a0_2, .slice A0_3 l0_3.length c0_3] 24 (0, 0)) (by (with_reducible repeat (first | refine blk_drewN ?_ _ | refine blk_drew ?_ | refine blk_alloc ?_ _)); exact BK874.out) hb); have n1_ := Aside0.mk (below_step (by repeat (first | (with_reducible first | exact HB.out | apply below_alloc | apply pw_below_drewN | apply below_drew1 | refine below_set ?_ GE874.out) | exact HB.out)) hb); clear BK874; clear HB; have BK874 := n0_; have HB := n1_; clear n0_ n1_; (try clear hb); (try clear hb2); (try clear hk); (try clear hi)) | ((with_reducible refine gate_callee (f := 29) rfl ?_); refine goesL_ (some 19) rfl rfl Try.func29 (by kernel_rfl) rfl #[.slice A1 l1.length c1, .int .i64 t875] rfl (by (try simp only [List.map_toArray, List.map_cons, List.map_nil]); first | done | rfl | (simp only [List.length_drop, List.length_take]; rfl)) ?_; (with_reducible refine (laws_szStringS.calls k _ _ l1 t875 t876 _ ?side1 ?side2 A8.out).mono ?_); (case side1 => repeat (first | exact (Kd.C_below HR1.out HB.out) | (with_reducible refine Kd.C_alloc ?_ _) | (with_reducible refine Kd.C_drewN ?_ _) | (with_reducible refine Kd.C_drew ?_))); (case side2 => exact HC1.out); rintro e w' ⟨rfl, ⟨nd, rfl⟩⟩; refine ⟨_, rfl, ?_⟩))
    go_ret
    exact ⟨by first | rfl | (simp [errW_none, errW_some] <;> rfl) | (simp [*, errW_none, errW_some] <;> rfl), by repeat (first | (with_reducible first | exact HB.out | apply below_alloc | apply pw_below_drewN | apply below_drew1 | refine below_set ?_ GE874.out) | exact HB.out)⟩
   ·rw [if_neg c9] at H
    have c9b0 : decide (t876 < 0) = false := decide_eq_false c9
    clear c9
    replace H := Option.bind_eq_some_iff.mp H
    obtain ⟨⟨t877, t878, t879, t880⟩, A130, H⟩ := H
    replace H : ((laws_toStringS.f k l1).bind fun t883 => ((spec_IsDisplacedFor.f k t877 t878 t879 t880 t883).bind fun bt886 => ((laws_toDisplaced.f k a0_0 a0_1 a0_2 l0_3).bind fun bt888 => ((laws_toStringS.f k l1).bind fun t895 => ((impl_IsDisplacedFor.f k bt888.1 bt888.2.1 bt888.2.2.1 bt888.2.2.2 t895).bind fun bt898 => (if (bt898.1 != bt886.1) = true then (none) else (if (bt898.2 != bt886.2) = true then (none) else ((laws_toDisplaced.f k a0_0 a0_1 a0_2 l0_3).bind fun bt900 => ((laws_eqDisplaced.f k bt888.1 bt888.2.1 bt888.2.2.1 bt888.2.2.2 bt900.1 bt900.2.1 bt900.2.2.1 bt900.2.2.2).bind fun t906 => (if t906 = true then ((laws_toStringS.f k l1).bind fun t907 => ((laws_eqStringS.f k t895 t907).bind fun t910 => (if t910 = true then (some true) else (none)))) else (none))))))))))) = some r := H
    have A13 := Aside0.mk A130
    clear A130
    replace H := Option.bind_eq_some_iff.mp H
    obtain ⟨t883, A140, H⟩ := H
    replace H : ((spec_IsDisplacedFor.f k t877 t878 t879 t880 t883).bind fun bt886 => ((laws_toDisplaced.f k a0_0 a0_1 a0_2 l0_3).bind fun bt888 => ((laws_toStringS.f k l1).bind fun t895 => ((impl_IsDisplacedFor.f k bt888.1 bt888.2.1 bt888.2.2.1 bt888.2.2.2 t895).bind fun bt898 => (if (bt898.1 != bt886.1) = true then (none) else (if (bt898.2 != bt886.2) = true then (none) else ((laws_toDisplaced.f k a0_0 a0_1 a0_2 l0_3).bind fun bt900 => ((laws_eqDisplaced.f k bt888.1 bt888.2.1 bt888.2.2.1 bt888.2.2.2 bt900.1 bt900.2.1 bt900.2.2.1 bt900.2.2.2).bind fun t906 => (if t906 = true then ((laws_toStringS.f k l1).bind fun t907 => ((laws_eqStringS.f k t895 t907).bind fun t910 => (if t910 = true then (some true) else (none)))) else (none)))))))))) = some r := H
    have A14 := Aside0.mk A140
    clear A140
    replace H := Option.bind_eq_some_iff.mp H
    obtain ⟨⟨t886, t887⟩, A150, H⟩ := H
    replace H : ((laws_toDisplaced.f k a0_0 a0_1 a0_2 l0_3).bind fun bt888 => ((laws_toStringS.f k l1).bind fun t895 => ((impl_IsDisplacedFor.f k bt888.1 bt888.2.1 bt888.2.2.1 bt888.2.2.2 t895).bind fun bt898 => (if (bt898.1 != t886) = true then (none) else (if (bt898.2 != t887) = true then (none) else ((laws_toDisplaced.f k a0_0 a0_1 a0_2 l0_3).bind fun bt900 => ((laws_eqDisplaced.f k bt888.1 bt888.2.1 bt888.2.2.1 bt888.2.2.2 bt900.1 bt900.2.1 bt900.2.2.1 bt900.2.2.2).bind fun t906 => (if t906 = true then ((laws_toStringS.f k l1).bind fun t907 => ((laws_eqStringS.f k t895 t907).bind fun t910 => (if t910 = true then (some true) else (none)))) else (none))))))))) = some r := H
    have A15 := Aside0.mk A150
    clear A150
    replace H := Option.bind_eq_some_iff.mp H
    obtain ⟨⟨t888, t889, t890, t891⟩, A160, H⟩ := H
    replace H : ((laws_toStringS.f k l1).bind fun t895 => ((impl_IsDisplacedFor.f k t888 t889 t890 t891 t895).bind fun bt898 => (if (bt898.1 != t886) = true then (none) else (if (bt898.2 != t887) = true then (none) else ((laws_toDisplaced.f k a0_0 a0_1 a0_2 l0_3).bind fun bt900 => ((laws_eqDisplaced.f k t888 t889 t890 t891 bt900.1 bt900.2.1 bt900.2.2.1 bt900.2.2.2).bind fun t906 => (if t906 = true then ((laws_toStringS.f k l1).bind fun t907 => ((laws_eqStringS.f k t895 t907).bind fun t910 => (if t910 = true then (some true) else (none)))) else (none)))))))) = some r := H
    have A16 := Aside0.mk A160
    clear A160
    replace H := Option.bind_eq_some_iff.mp H
    obtain ⟨t895, A170, H⟩ := H
    replace H : ((impl_IsDisplacedFor.f k t888 t889 t890 t891 t895).bind fun bt898 => (if (bt898.1 != t886) = true then (none) else (if (bt898.2 != t887) = true then (none) else ((laws_toDisplaced.f k a0_0 a0_1 a0_2 l0_3).bind fun bt900 => ((laws_eqDisplaced.f k t888 t889 t890 t891 bt900.1 bt900.2.1 bt900.2.2.1 bt900.2.2.2).bind fun t906 => (if t906 = true then ((laws_toStringS.f k l1).bind fun t907 => ((laws_eqStringS.f k t895 t907).bind fun t910 => (if t910 = true then (some true) else (none)))) else (none))))))) = some r := H
    have A17 := Aside0.mk A170
    clear A170
    replace H := Option.bind_eq_some_iff.mp H
    obtain ⟨⟨t898, t899⟩, A180, H⟩ := H
    replace H : (if (t898 != t886) = true then (none) else (if (t899 != t887) = true then (none) else ((laws_toDisplaced.f k a0_0 a0_1 a0_2 l0_3).bind fun bt900 => ((laws_eqDisplaced.f k t888 t889 t890 t891 bt900.1 bt900.2.1 bt900.2.2.1 bt900.2.2.2).bind fun t906 => (if t906 = true then ((laws_toStringS.f k l1).bind fun t907 => ((laws_eqStringS.f k t895 t907).bind fun t910 => (if t910 = true then (some true) else (none)))) else (none)))))) = some r := H
    have A18 := Aside0.mk A180
    clear A180
    by_cases c19 : (t898 != t886) = true
    ·rw [if_pos c19] at H
     exact absurd H (by simp)
    ·rw [if_neg c19] at H
     have c19b0 : (t898 != t886) = false := by simpa using c19
     (try (have c19b1 : decide (t898 = t886) = true := by simpa using c19))
     (try (have c19b2 : (t898 == t886) = true := by simpa using c19))
     clear c19
     by_cases c20 : (t899 != t887) = true
     ·rw [if_pos c20] at H
      exact absurd H (by simp)
     ·rw [if_neg c20] at H
      have c20b0 : (t899 != t887) = false := by simpa using c20
      (try (have c20b1 : decide (t899 = t887) = true := by simpa using c20))
      (try (have c20b2 : (t899 == t887) = true := by simpa using c20))
      clear c20
      replace H := Option.bind_eq_some_iff.mp H
      obtain ⟨⟨t900, t901, t902, t903⟩, A210, H⟩ := H
      replace H : ((laws_eqDisplaced.f k t888 t889 t890 t891 t900 t901 t902 t903).bind fun t906 => (if t906 = true then ((laws_toStringS.f k l1).bind fun t907 => ((laws_eqStringS.f k t895 t907).bind fun t910 => (if t910 = true then (some true) else (none)))) else (none))) = some r := H
      have A21 := Aside0.mk A210
      clear A210
      replace H := Option.bind_eq_some_iff.mp H
      obtain ⟨t906, A220, H⟩ := H
      replace H : (if t906 = true then ((laws_toStringS.f k l1).bind fun t907 => ((laws_eqStringS.f k t895 t907).bind fun t910 => (if t910 = true then (some true) else (none)))) else (none)) = some r := H
      have A22 := Aside0.mk A220
      clear A220
      by_cases c23 : t906 = true
      ·subst c23
       have H1 : ((laws_toStringS.f k l1).bind fun t907 => ((laws_eqStringS.f k t895 t907).bind fun t910 => (if t910 = true then (some true) else (none)))) = some r := by rw [if_pos rfl] at H; exact H
       clear H
       have H := H1
       clear H1
       replace H := Option.bind_eq_some_iff.mp H
       obtain ⟨t907, A240, H⟩ := H
       replace H : ((laws_eqStringS.f k t895 t907).bind fun t910 => (if t910 = true then (some true) else (none))) = some r := H
       have A24 := Aside0.mk A240
       clear A240
       replace H := Option.bind_eq_some_iff.mp H
       obtain ⟨t910, A250, H⟩ := H
       replace H : (if t910 = true then (some true) else (none)) = some r := H
       have A25 := Aside0.mk A250
       clear A250
       by_cases c26 : t910 = true
       ·subst c26
        have H1 : (some true) = some r := by rw [if_pos rfl] at H; exact H
        clear H
        have H := H1
        clear H1
        obtain rfl := Option.some.inj H
        go_enter Try.func13, Try.ntmps13
        try go_wp2_with (first | ((with_reducible refine gate_dst (N := 2) rfl ?_); refine box_event ?hg (N := 2) ?hd (cs := #[.int .i64 a0_0, .int .i64 a0_1, .int .i64 a0_2, .slice A0_3 l0_3.length c0_3]) (t := 24) ?hr ?_; (case hd => rfl); (case hg => rfl); (case hr => first | (go_simp; done) | (go_simp; rfl)); intro gb874 hg w27 hbox hb; have n0_ := Aside0.mk (below_step (by repeat (first | (with_reducible first | exact HB.out | apply below_alloc | apply pw_below_drewN | apply below_drew1) | exact HB.out)) hb); have n1_ := Aside0.mk (hbox); have n2_ := Aside0.mk ((by rw [hg]; exact (below_size (by repeat (first | (with_reducible first | exact HB.out | apply below_alloc | apply pw_below_drewN | apply below_drew1) | exact HB.out))) : w.heap.size ≤ gb874)); have n3_ := Aside0.mk ((by rw [hg]; exact (below_size (by repeat (first | (with_reducible first | exact HB.out | apply below_alloc | apply pw_below_drewN | apply below_drew1) | exact HB.out))) : w.heap.size ≤ gb874)); clear HB; have HB := n0_; have BK874 := n1_; have GW874 := n2_; have GE874 := n3_; clear n0_ n1_ n2_ n3_; clear hb hbox hg; have hcz28_0 : w27.cell? ⟨gb874, 0, none⟩ = some (.int .i64 a0_0) := (blk_cell BK874.out 0).trans rfl; have hcz28_1 : w27.cell? ⟨gb874, 1, none⟩ = some (.int .i64 a0_1) := (blk_cell BK874.out 1).trans rfl; have hcz28_2 : w27.cell? ⟨gb874, 2, none⟩ = some (.int .i64 a0_2) := (blk_cell BK874.out 2).trans rfl; have hcz28_3 : w27.cell? ⟨gb874, 3, none⟩ = some (.slice A0_3 l0_3.length c0_3) := (blk_cell BK874.out 3).trans rfl; have hfz28_0 := blk_frozen BK874.out 0; have hfz28_1 := blk_frozen BK874.out 1; have hfz28_2 := blk_frozen BK874.out 2; have hfz28_3 := blk_frozen BK874.out 3) | ((with_reducible refine gate_callee (f := 15) rfl ?_); refine goesL_ (some 14) rfl rfl Try.func15 (by kernel_rfl) rfl #[.agg #[.int .i64 a0_0, .int .i64 a0_1, .int .i64 a0_2, .slice A0_3 l0_3.length c0_3], .int .i64 1048576] rfl (by (try simp only [List.map_toArray, List.map_cons, List.map_nil]); first | done | rfl | (simp only [List.length_drop, List.length_take]; rfl)) ?_; (with_reducible refine (laws_szDisplaced.calls a0_0 a0_1 a0_2 _ _ l0_3 1048576 t875 _ ?side1 ?side2 A3.out).mono ?_); (case side1 => repeat (first | exact (Kd.C_below HR0_3.out HB.out) | (with_reducible refine Kd.C_alloc ?_ _) | (with_reducible refine Kd.C_drewN ?_ _) | (with_reducible refine Kd.C_drew ?_))); (case side2 => exact HC0_3.out); rintro e w29 ⟨rfl, hb⟩; refine ⟨_, rfl, ?_⟩; have n0_ := Aside0.mk (blk_below (g := gb874) (o := .cells #[.int .i64 a0_0, .int .i64 a0_1, .int .i64 a0_2, .slice A0_3 l0_3.length c0_3] 24 (0, 0)) (by (with_reducible repeat (first | refine blk_drewN ?_ _ | refine blk_drew ?_ | refine blk_alloc ?_ _)); exact BK874.out) hb); have n1_ := Aside0.mk (below_step (by repeat (first | (with_reducible first | exact HB.out | apply below_alloc | apply pw_below_drewN | apply below_drew1 | refine below_set ?_ GE874.out) | exact HB.out)) hb); clear BK874; clear HB; have BK874 := n0_; have HB := n1_; clear n0_ n1_; (try clear hb); (try clear hb2); (try clear hk); (try clear hi)) | ((with_reducible refine gate_callee (f := 29) rfl ?_); refine goesL_ (some 19) rfl rfl Try.func29 (by kernel_rfl) rfl #[.slice A1 l1.length c1, .int .i64 t875] rfl (by (try simp only [List.map_toArray, List.map_cons, List.map_nil]); first | done | rfl | (simp only [List.length_drop, List.length_take]; rfl)) ?_; (with_reducible refine (laws_szStringS.calls k _ _ l1 t875 t876 _ ?side1 ?side2 A8.out).mono ?_); (case side1 => repeat (first | exact (Kd.C_below HR1.out HB.out) | (with_reducible refine Kd.C_alloc ?_ _) | (with_reducible refine Kd.C_drewN ?_ _) | (with_reducible refine Kd.C_drew ?_))); (case side2 => exact HC1.out); rintro e w' ⟨rfl, ⟨nd, rfl⟩⟩; refine ⟨_, rfl, ?_⟩; (try (rw [drewN_self w29]; generalize hq_ : World.drewN w29 _ = w29; have n0_ : Aside0 (w29.heap[gb874]? = some (.cells #[.int .i64 a0_0, .int .i64 a0_1, .int .i64 a0_2, .slice A0_3 l0_3.length c0_3] 24 (0, 0))) := ⟨by rw [← hq_]; exact (by (with_reducible repeat (first | refine blk_drewN ?_ _ | refine blk_drew ?_ | refine blk_alloc ?_ _)); exact BK874.out)⟩; have n1_ : Aside0 (Below w.heap.size w w29) := ⟨by rw [← hq_]; exact (by repeat (first | (with_reducible first | exact HB.out | apply below_alloc | apply pw_below_drewN | apply below_drew1 | refine below_set ?_ GE874.out) | exact HB.out))⟩; clear BK874 HB hq_; have BK874 := n0_; have HB := n1_; clear n0_ n1_)); have hcz30_0 : w29.cell? ⟨gb874, 0, none⟩ = some (.int .i64 a0_0) := (blk_cell BK874.out 0).trans rfl; have hcz30_1 : w29.cell? ⟨gb874, 1, none⟩ = some (.int .i64 a0_1) := (blk_cell BK874.out 1).trans rfl; have hcz30_2 : w29.cell? ⟨gb874, 2, none⟩ = some (.int .i64 a0_2) := (blk_cell BK874.out 2).trans rfl; have hcz30_3 : w29.cell? ⟨gb874, 3, none⟩ = some (.slice A0_3 l0_3.length c0_3) := (blk_cell BK874.out 3).trans rfl; have hfz30_0 := blk_frozen BK874.out 0; have hfz30_1 := blk_frozen BK874.out 1; have hfz30_2 := blk_frozen BK874.out 2; have hfz30_3 := blk_frozen BK874.out 3) | ((with_reducible refine gate_callee (f := 17) rfl ?_); refine goesL_ (some 24) rfl rfl Try.func17 (by kernel_rfl) rfl #[.agg #[.int .i64 a0_0, .int .i64 a0_1, .int .i64 a0_2, .slice A0_3 l0_3.length c0_3]] rfl (by (try simp only [List.map_toArray, List.map_cons, List.map_nil]); first | done | rfl | (simp only [List.length_drop, List.length_take]; rfl)) ?_; (with_reducible refine (laws_toDisplaced.calls k a0_0 a0_1 a0_2 _ _ l0_3 t877 t878 t879 t880 _ ?side1 ?side2 A13.out).mono ?_); (case side1 => repeat (first | exact (Kd.C_below HR0_3.out HB.out) | (with_reducible refine Kd.C_alloc ?_ _) | (with_reducible refine Kd.C_drewN ?_ _) | (with_reducible refine Kd.C_drew ?_))); (case side2 => exact HC0_3.out); rintro e w31 ⟨v881, rfl, ho0, hb⟩; refine ⟨_, rfl, ?_⟩; have n0_ := Aside0.mk (Kd.R_lower ho0 (below_size (by repeat (first | (with_reducible first | exact HB.out | apply below_alloc | apply pw_below_drewN | apply below_drew1 | refine below_set ?_ GE874.out) | exact HB.out)))); have n1_ := Aside0.mk (blk_below (g := gb874) (o := .cells #[.int .i64 a0_0, .int .i64 a0_1, .int .i64 a0_2, .slice A0_3 l0_3.length c0_3] 24 (0, 0)) (by (with_reducible repeat (first | refine blk_drewN ?_ _ | refine blk_drew ?_ | refine blk_alloc ?_ _)); exact BK874.out) hb); have n2_ := Aside0.mk (below_step (by repeat (first | (with_reducible first | exact HB.out | apply below_alloc | apply pw_below_drewN | apply below_drew1 | refine below_set ?_ GE874.out) | exact HB.out)) hb); clear BK874; clear HB; have HO882 := n0_; have BK874 := n1_; have HB := n2_; clear n0_ n1_ n2_; (try clear hb); (try clear hb2); (try clear hk); (try clear hi); (try clear ho0)) | ((with_reducible refine gate_callee (f := 31) rfl ?_); refine goesL_ (some 26) rfl rfl Try.func31 (by kernel_rfl) rfl #[.slice A1 l1.length c1] rfl (by (try simp only [List.map_toArray, List.map_cons, List.map_nil]); first | done | rfl | (simp only [List.length_drop, List.length_take]; rfl)) ?_; (with_reducible refine (laws_toStringS.calls k _ _ l1 t883 _ ?side1 ?side2 A14.out).mono ?_); (case side1 => repeat (first | exact (Kd.C_below HR1.out HB.out) | (with_reducible refine Kd.C_alloc ?_ _) | (with_reducible refine Kd.C_drewN ?_ _) | (with_reducible refine Kd.C_drew ?_))); (case side2 => exact HC1.out); rintro e w32 ⟨v884, rfl, ho0, hb⟩; refine ⟨_, rfl, ?_⟩; have n0_ := Aside0.mk (Kd.R_below (by (with_reducible repeat (first | apply Kd.R_alloc | apply Kd.R_drewN | apply Kd.R_drew)); exact HO882.out) hb); have n1_ := Aside0.mk (Kd.R_lower ho0 (below_size (by repeat (first | (with_reducible first | exact HB.out | apply below_alloc | apply pw_below_drewN | apply below_drew1 | refine below_set ?_ GE874.out) | exact HB.out)))); have n2_ := Aside0.mk (blk_below (g := gb874) (o := .cells #[.int .i64 a0_0, .int .i64 a0_1, .int .i64 a0_2, .slice A0_3 l0_3.length c0_3] 24 (0, 0)) (by (with_reducible repeat (first | refine blk_drewN ?_ _ | refine blk_drew ?_ | refine blk_alloc ?_ _)); exact BK874.out) hb); have n3_ := Aside0.mk (below_step (by repeat (first | (with_reducible first | exact HB.out | apply below_alloc | apply pw_below_drewN | apply below_drew1 | refine below_set ?_ GE874.out) | exact HB.out)) hb); clear HO882; clear BK874; clear HB; have HO882 := n0_; have HO885 := n1_; have BK874 := n2_; have HB := n3_; clear n0_ n1_ n2_ n3_; (try clear hb); (try clear hb2); (try clear hk); (try clear hi); (try clear ho0); obtain ⟨Ao33, co33, eo33⟩ := Kd.R_slice HO882.out; subst eo33; obtain ⟨Ao34, co34, eo34⟩ := Kd.R_slice HO885.out; subst eo34) | ((with_reducible refine gate_callee (f := 61) rfl ?_); refine goesL_ (some 27) rfl rfl Try.func61 (by kernel_rfl) rfl #[.agg #[.int .i64 t877, .int .i64 t878, .int .i64 t879, .slice Ao33 t880.length co33], .slice Ao34 t883.length co34] rfl (by (try simp only [List.map_toArray, List.map_cons, List.map_nil]); first | done | rfl | (simp only [List.length_drop, List.length_take]; rfl)) ?_; (with_reducible refine (spec_IsDisplacedFor.calls k t877 t878 t879 _ _ t880 _ _ t883 t886 t887 _ ?side1 ?side2 ?side3 ?side4 A15.out).mono ?_); (case side1 => repeat (first | exact (Kd.R_reads' HO882.out).2.2 | (with_reducible refine Kd.C_alloc ?_ _) | (with_reducible refine Kd.C_drewN ?_ _) | (with_reducible refine Kd.C_drew ?_))); (case side2 => exact (Kd.R_reads' HO882.out).2.1); (case side3 => repeat (first | exact (Kd.R_reads' HO885.out).2.2 | (with_reducible refine Kd.C_alloc ?_ _) | (with_reducible refine Kd.C_drewN ?_ _) | (with_reducible refine Kd.C_drew ?_))); (case side4 => exact (Kd.R_reads' HO885.out).2.1); rintro e w35 ⟨rfl, hb⟩; refine ⟨_, rfl, ?_⟩; have n0_ := Aside0.mk (Kd.R_below (by (with_reducible repeat (first | apply Kd.R_alloc | apply Kd.R_drewN | apply Kd.R_drew)); exact HO882.out) hb); have n1_ := Aside0.mk (Kd.R_below (by (with_reducible repeat (first | apply Kd.R_alloc | apply Kd.R_drewN | apply Kd.R_drew)); exact HO885.out) hb); have n2_ := Aside0.mk (blk_below (g := gb874) (o := .cells #[.int .i64 a0_0, .int .i64 a0_1, .int .i64 a0_2, .slice A0_3 l0_3.length c0_3] 24 (0, 0)) (by (with_reducible repeat (first | refine blk_drewN ?_ _ | refine blk_drew ?_ | refine blk_alloc ?_ _)); exact BK874.out) hb); have n3_ := Aside0.mk (below_step (by repeat (first | (with_reducible first | exact HB.out | apply below_alloc | apply pw_below_drewN | apply below_drew1 | refine below_set ?_ GE874.out) | exact HB.out)) hb); clear HO882; clear HO885; clear BK874; clear HB; have HO882 := n0_; have HO885 := n1_; have BK874 := n2_; have HB := n3_; clear n0_ n1_ n2_ n3_; (try clear hb); (try clear hb2); (try clear hk); (try clear hi); have hcz36_0 : w35.cell? ⟨gb874, 0, none⟩ = some (.int .i64 a0_0) := (blk_cell BK874.out 0).trans rfl; have hcz36_1 : w35.cell? ⟨gb874, 1, none⟩ = some (.int .i64 a0_1) := (blk_cell BK874.out 1).trans rfl; have hcz36_2 : w35.cell? ⟨gb874, 2, none⟩ = some (.int .i64 a0_2) := (blk_cell BK874.out 2).trans rfl; have hcz36_3 : w35.cell? ⟨gb874, 3, none⟩ = some (.slice A0_3 l0_3.length c0_3) := (blk_cell BK874.out 3).trans rfl; have hfz36_0 := blk_frozen BK874.out 0; have hfz36_1 := blk_frozen BK874.out 1; have hfz36_2 := blk_frozen BK874.out 2; have hfz36_3 := blk_frozen BK874.out 3) | ((with_reducible refine gate_callee (f := 17) rfl ?_); refine goesL_ (some 31) rfl rfl Try.func17 (by kernel_rfl) rfl #[.agg #[.int .i64 a0_0, .int .i64 a0_1, .int .i64 a0_2, .slice A0_3 l0_3.length c0_3]] rfl (by (try simp only [List.map_toArray, List.map_cons, List.map_nil]); first | done | rfl | (simp only [List.length_drop, List.length_take]; rfl)) ?_; (with_reducible refine (laws_toDisplaced.calls k a0_0 a0_1 a0_2 _ _ l0_3 t888 t889 t890 t891 _ ?side1 ?side2 A16.out).mono ?_); (case side1 => repeat (first | exact (Kd.C_below HR0_3.out HB.out) | (with_reducible refine Kd.C_alloc ?_ _) | (with_reducible refine Kd.C_drewN ?_ _) | (with_reducible refine Kd.C_drew ?_))); (case side2 => exact HC0_3.out); rintro e w37 ⟨v892, rfl, ho0, hb⟩; refine ⟨_, rfl, ?_⟩; have n0_ := Aside0.mk (Kd.R_elder' (by (with_reducible repeat (first | apply Kd.R_alloc | apply Kd.R_drewN | apply Kd.R_drew)); exact HO882.out) (Kd.R_base ho0) hb); have n1_ := Aside0.mk (Kd.R_below (by (with_reducible repeat (first | apply Kd.R_alloc | apply Kd.R_drewN | apply Kd.R_drew)); exact HO885.out) hb); have n2_ := Aside0.mk (Kd.R_lower (Kd.R_new' ho0 (Kd.R_lt (by (with_reducible repeat (first | apply Kd.R_alloc | apply Kd.R_drewN | apply Kd.R_drew)); exact HO882.out))) (below_size (by repeat (first | (with_reducible first | exact HB.out | apply below_alloc | apply pw_below_drewN | apply below_drew1 | refine below_set ?_ GE874.out) | exact HB.out)))); have n3_ := Aside0.mk (blk_below (g := gb874) (o := .cells #[.int .i64 a0_0, .int .i64 a0_1, .int .i64 a0_2, .slice A0_3 l0_3.length c0_3] 24 (0, 0)) (by (with_reducible repeat (first | refine blk_drewN ?_ _ | refine blk_drew ?_ | refine blk_alloc ?_ _)); exact BK874.out) hb); have n4_ := Aside0.mk (below_step (by repeat (first | (with_reducible first | exact HB.out | apply below_alloc | apply pw_below_drewN | apply below_drew1 | refine below_set ?_ GE874.out) | exact HB.out)) hb); clear HO882; clear HO885; clear BK874; clear HB; have HO882 := n0_; have HO885 := n1_; have HO893 := n2_; have BK874 := n3_; have HB := n4_; clear n0_ n1_ n2_ n3_ n4_; (try clear hb); (try clear hb2); (try clear hk); (try clear hi); (try clear ho0)) | ((with_reducible refine gate_dst (N := 8) rfl ?_); refine box_event ?hg (N := 8) ?hd (cs := #[.int .i64 0, .int .i64 0, .int .i64 0, .slice none 0 0]) (t := 28) ?hr ?_; (case hd => rfl); (case hg => rfl); (case hr => first | (go_simp; done) | (go_simp; rfl)); intro gb894 hg w38 hbox hb; have n0_ := Aside0.mk (Kd.R_below (by (with_reducible repeat (first | apply Kd.R_alloc | apply Kd.R_drewN | apply Kd.R_drew)); exact HO882.out) hb); have n1_ := Aside0.mk (Kd.R_below (by (with_reducible repeat (first | apply Kd.R_alloc | apply Kd.R_drewN | apply Kd.R_drew)); exact HO885.out) hb); have n2_ := Aside0.mk (Kd.R_below (by (with_reducible repeat (first | apply Kd.R_alloc | apply Kd.R_drewN | apply Kd.R_drew)); exact HO893.out) hb); have n3_ := Aside0.mk (blk_below (g := gb874) (o := .cells #[.int .i64 a0_0, .int .i64 a0_1, .int .i64 a0_2, .slice A0_3 l0_3.length c0_3] 24 (0, 0)) (by (with_reducible repeat (first | refine blk_drewN ?_ _ | refine blk_drew ?_ | refine blk_alloc ?_ _)); exact BK874.out) hb); have n4_ := Aside0.mk (below_step (by repeat (first | (with_reducible first | exact HB.out | apply below_alloc | apply pw_below_drewN | apply below_drew1 | refine below_set ?_ GE874.out) | exact HB.out)) hb); have n5_ := Aside0.mk (hbox); have n6_ := Aside0.mk ((by rw [hg]; exact (below_size (by repeat (first | (with_reducible first | exact HB.out | apply below_alloc | apply pw_below_drewN | apply below_drew1 | refine below_set ?_ GE874.out) | exact HB.out))) : w.heap.size ≤ gb894)); have n7_ := Aside0.mk ((by rw [hg]; exact (below_size (by repeat (first | (with_reducible first | exact HB.out | apply below_alloc | apply pw_below_drewN | apply below_drew1 | refine below_set ?_ GE874.out) | exact HB.out))) : w.heap.size ≤ gb894)); have n8_ := Aside0.mk ((by rw [hg]; exact Nat.ne_of_lt (blk_lt (g := gb874) (o := .cells #[.int .i64 a0_0, .int .i64 a0_1, .int .i64 a0_2, .slice A0_3 l0_3.length c0_3] 24 (0, 0)) (by (with_reducible repeat (first | refine blk_drewN ?_ _ | refine blk_drew ?_ | refine blk_alloc ?_ _)); exact BK874.out)) : gb874 ≠ gb894)); have n9_ := Aside0.mk ((by rw [hg]; exact Nat.ne_of_gt (blk_lt (g := gb874) (o := .cells #[.int .i64 a0_0, .int .i64 a0_1, .int .i64 a0_2, .slice A0_3 l0_3.length c0_3] 24 (0, 0)) (by (with_reducible repeat (first | refine blk_drewN ?_ _ | refine blk_drew ?_ | refine blk_alloc ?_ _)); exact BK874.out)) : gb894 ≠ gb874)); clear HO882; clear HO885; clear HO893; clear BK874; clear HB; have HO882 := n0_; have HO885 := n1_; have HO893 := n2_; have BK874 := n3_; have HB := n4_; have BK894 := n5_; have GW894 := n6_; have GE894 := n7_; have NB874_894 := n8_; have NB894_874 := n9_; clear n0_ n1_ n2_ n3_ n4_ n5_ n6_ n7_ n8_ n9_; clear hb hbox hg; have hnb39 := NB894_874.out; have hnc39 := NB874_894.out; have hcz40_0 : w38.cell? ⟨gb894, 0, none⟩ = some (.int .i64 0) := (blk_cell BK894.out 0).trans rfl; have hcz40_1 : w38.cell? ⟨gb894, 1, none⟩ = some (.int .i64 0) := (blk_cell BK894.out 1).trans rfl; have hcz40_2 : w38.cell? ⟨gb894, 2, none⟩ = some (.int .i64 0) := (blk_cell BK894.out 2).trans rfl; have hcz40_3 : w38.cell? ⟨gb894, 3, none⟩ = some (.slice none 0 0) := (blk_cell BK894.out 3).trans rfl; have hfz40_0 := blk_frozen BK894.out 0; have hfz40_1 := blk_frozen BK894.out 1; have hfz40_2 := blk_frozen BK894.out 2; have hfz40_3 := blk_frozen BK894.out 3; obtain ⟨Ao41, co41, eo41⟩ := Kd.R_slice HO893.out; subst eo41) | ((with_reducible refine gate_callee (f := 31) rfl ?_); refine goesL_ (some 33) rfl rfl Try.func31 (by kernel_rfl) rfl #[.slice A1 l1.length c1] rfl (by (try simp only [List.map_toArray, List.map_cons, List.map_nil]); first | done | rfl | (simp only [List.length_drop, List.length_take]; rfl)) ?_; (with_reducible refine (laws_toStringS.calls k _ _ l1 t895 _ ?side1 ?side2 A17.out).mono ?_); (case side1 => exact Kd.C_below HR1.out (by repeat (first | (with_reducible first | exact HB.out | apply below_alloc | apply pw_below_drewN | apply below_drew1 | refine below_set ?_ GE874.out | refine below_set ?_ GE894.out) | exact HB.out))); (case side2 => exact HC1.out); rintro e w42 ⟨v896, rfl, ho0, hb⟩; refine ⟨_, rfl, ?_⟩; have n0_ := Aside0.mk (Kd.R_below (by (with_reducible repeat (first | apply Kd.R_alloc | apply Kd.R_drewN | apply Kd.R_drew)); exact (Kd.R_mono (Kd.R_far (p := ⟨gb894, 3, none⟩) (Kd.R_far (p := ⟨gb894, 2, none⟩) (Kd.R_far (p := ⟨gb894, 1, none⟩) (Kd.R_far (p := ⟨gb894, 0, none⟩) (Kd.R_types HO882.out BK894.out (by decide)) (fun _ hk => hk.2) (.int .i64 t888)) (fun _ hk => hk.2) (.int .i64 t889)) (fun _ hk => hk.2) (.int .i64 t890)) (fun _ hk => hk.2) (.slice Ao41 t891.length co41)) (fun _ h_ => h_.1))) hb); have n1_ := Aside0.mk (Kd.R_elder' (by (with_reducible repeat (first | apply Kd.R_alloc | apply Kd.R_drewN | apply Kd.R_drew)); exact (Kd.R_mono (Kd.R_far (p := ⟨gb894, 3, none⟩) (Kd.R_far (p := ⟨gb894, 2, none⟩) (Kd.R_far (p := ⟨gb894, 1, none⟩) (Kd.R_far (p := ⟨gb894, 0, none⟩) (Kd.R_types HO885.out BK894.out (by decide)) (fun _ hk => hk.2) (.int .i64 t888)) (fun _ hk => hk.2) (.int .i64 t889)) (fun _ hk => hk.2) (.int .i64 t890)) (fun _ hk => hk.2) (.slice Ao41 t891.length co41)) (fun _ h_ => h_.1))) (Kd.R_base ho0) hb); have n2_ := Aside0.mk (Kd.R_below (by (with_reducible repeat (first | apply Kd.R_alloc | apply Kd.R_drewN | apply Kd.R_drew)); exact (Kd.R_mono (Kd.R_far (p := ⟨gb894, 3, none⟩) (Kd.R_far (p := ⟨gb894, 2, none⟩) (Kd.R_far (p := ⟨gb894, 1, none⟩) (Kd.R_far (p := ⟨gb894, 0, none⟩) (Kd.R_types HO893.out BK894.out (by decide)) (fun _ hk => hk.2) (.int .i64 t888)) (fun _ hk => hk.2) (.int .i64 t889)) (fun _ hk => hk.2) (.int .i64 t890)) (fun _ hk => hk.2) (.slice Ao41 t891.length co41)) (fun _ h_ => h_.1))) hb); have n3_ := Aside0.mk (Kd.R_lower (Kd.R_new' ho0 (Kd.R_lt (by (with_reducible repeat (first | apply Kd.R_alloc | apply Kd.R_drewN | apply Kd.R_drew)); exact (Kd.R_mono (Kd.R_far (p := ⟨gb894, 3, none⟩) (Kd.R_far (p := ⟨gb894, 2, none⟩) (Kd.R_far (p := ⟨gb894, 1, none⟩) (Kd.R_far (p := ⟨gb894, 0, none⟩) (Kd.R_types HO885.out BK894.out (by decide)) (fun _ hk => hk.2) (.int .i64 t888)) (fun _ hk => hk.2) (.int .i64 t889)) (fun _ hk => hk.2) (.int .i64 t890)) (fun _ hk => hk.2) (.slice Ao41 t891.length co41)) (fun _ h_ => h_.1))))) (below_size (by repeat (first | (with_reducible first | exact HB.out | apply below_alloc | apply pw_below_drewN | apply below_drew1 | refine below_set ?_ GE874.out | refine below_set ?_ GE894.out) | exact HB.out)))); have n4_ := Aside0.mk (blk_below (g := gb874) (o := .cells #[.int .i64 a0_0, .int .i64 a0_1, .int .i64 a0_2, .slice A0_3 l0_3.length c0_3] 24 (0, 0)) (by (with_reducible repeat (first | refine blk_drewN ?_ _ | refine blk_drew ?_ | refine blk_alloc ?_ _)); refine blk_far ?_ NB874_894.out _; (with_reducible repeat (first | refine blk_drewN ?_ _ | refine blk_drew ?_ | refine blk_alloc ?_ _)); refine blk_far ?_ NB874_894.out _; (with_reducible repeat (first | refine blk_drewN ?_ _ | refine blk_drew ?_ | refine blk_alloc ?_ _)); refine blk_far ?_ NB874_894.out _; (with_reducible repeat (first | refine blk_drewN ?_ _ | refine blk_drew ?_ | refine blk_alloc ?_ _)); refine blk_far ?_ NB874_894.out _; (with_reducible repeat (first | refine blk_drewN ?_ _ | refine blk_drew ?_ | refine blk_alloc ?_ _)); exact BK874.out) hb); have n5_ := Aside0.mk (blk_below (g := gb894) (o := .cells #[.int .i64 t888, .int .i64 t889, .int .i64 t890, .slice Ao41 t891.length co41] 28 (0, 0)) (by (with_reducible repeat (first | refine blk_drewN ?_ _ | refine blk_drew ?_ | refine blk_alloc ?_ _)); refine blk_put (cs := #[.int .i64 t888, .int .i64 t889, .int .i64 t890, .slice none 0 0]) ?_ 3 _ rfl; (with_reducible repeat (first | refine blk_drewN ?_ _ | refine blk_drew ?_ | refine blk_alloc ?_ _)); refine blk_put (cs := #[.int .i64 t888, .int .i64 t889, .int .i64 0, .slice none 0 0]) ?_ 2 _ rfl; (with_reducible repeat (first | refine blk_drewN ?_ _ | refine blk_drew ?_ | refine blk_alloc ?_ _)); refine blk_put (cs := #[.int .i64 t888, .int .i64 0, .int .i64 0, .slice none 0 0]) ?_ 1 _ rfl; (with_reducible repeat (first | refine blk_drewN ?_ _ | refine blk_drew ?_ | refine blk_alloc ?_ _)); refine blk_put (cs := #[.int .i64 0, .int .i64 0, .int .i64 0, .slice none 0 0]) ?_ 0 _ rfl; (with_reducible repeat (first | refine blk_drewN ?_ _ | refine blk_drew ?_ | refine blk_alloc ?_ _)); exact BK894.out) hb); have n6_ := Aside0.mk (below_step (by repeat (first | (with_reducible first | exact HB.out | apply below_alloc | apply pw_below_drewN | apply below_drew1 | refine below_set ?_ GE874.out | refine below_set ?_ GE894.out) | exact HB.out)) hb); clear HO882; clear HO885; clear HO893; clear BK874; clear BK894; clear HB; have HO882 := n0_; have HO885 := n1_; have HO893 := n2_; have HO897 := n3_; have BK874 := n4_; have BK894 := n5_; have HB := n6_; clear n0_ n1_ n2_ n3_ n4_ n5_ n6_; (try clear hb); (try clear hb2); (try clear hk); (try clear hi); (try clear ho0); have hcz43_0 : w42.cell? ⟨gb894, 0, none⟩ = some (.int .i64 t888) := (blk_cell BK894.out 0).trans rfl; have hcz43_1 : w42.cell? ⟨gb894, 1, none⟩ = some (.int .i64 t889) := (blk_cell BK894.out 1).trans rfl; have hcz43_2 : w42.cell? ⟨gb894, 2, none⟩ = some (.int .i64 t890) := (blk_cell BK894.out 2).trans rfl; have hcz43_3 : w42.cell? ⟨gb894, 3, none⟩ = some (.slice Ao41 t891.length co41) := (blk_cell BK894.out 3).trans rfl; have hfz43_0 := blk_frozen BK894.out 0; have hfz43_1 := blk_frozen BK894.out 1; have hfz43_2 := blk_frozen BK894.out 2; have hfz43_3 := blk_frozen BK894.out 3; obtain ⟨Ao44, co44, eo44⟩ := Kd.R_slice HO897.out; subst eo44) | ((with_reducible refine gate_callee (f := 62) rfl ?_); refine goesL_ (some 37) rfl rfl Try.func62 (by kernel_rfl) rfl #[.agg #[.int .i64 t888, .int .i64 t889, .int .i64 t890, .slice Ao41 t891.length co41], .slice Ao44 t895.length co44] rfl (by (try simp only [List.map_toArray, List.map_cons, List.map_nil]); first | done | rfl | (simp only [List.length_drop, List.length_take]; rfl)) ?_; (with_reducible refine (impl_IsDisplacedFor.calls k t888 t889 t890 _ _ t891 _ _ t895 t898 t899 _ ?side1 ?side2 ?side3 ?side4 A18.out).mono ?_); (case side1 => repeat (first | exact (Kd.R_reads' HO893.out).2.2 | (with_reducible refine Kd.C_alloc ?_ _) | (with_reducible refine Kd.C_drewN ?_ _) | (with_reducible refine Kd.C_drew ?_))); (case side2 => exact (Kd.R_reads' HO893.out).2.1); (case side3 => repeat (first | exact (Kd.R_reads' HO897.out).2.2 | (with_reducible refine Kd.C_alloc ?_ _) | (with_reducible refine Kd.C_drewN ?_ _) | (with_reducible refine Kd.C_drew ?_))); (case side4 => exact (Kd.R_reads' HO897.out).2.1); rintro e w45 ⟨rfl, hb⟩; refine ⟨_, rfl, ?_⟩; have n0_ := Aside0.mk (Kd.R_below (by (with_reducible repeat (first | apply Kd.R_alloc | apply Kd.R_drewN | apply Kd.R_drew)); exact HO882.out) hb); have n1_ := Aside0.mk (Kd.R_below (by (with_reducible repeat (first | apply Kd.R_alloc | apply Kd.R_drewN | apply Kd.R_drew)); exact HO885.out) hb); have n2_ := Aside0.mk (Kd.R_below (by (with_reducible repeat (first | apply Kd.R_alloc | apply Kd.R_drewN | apply Kd.R_drew)); exact HO893.out) hb); have n3_ := Aside0.mk (Kd.R_below (by (with_reducible repeat (first | apply Kd.R_alloc | apply Kd.R_drewN | apply Kd.R_drew)); exact HO897.out) hb); have n4_ := Aside0.mk (blk_below (g := gb874) (o := .cells #[.int .i64 a0_0, .int .i64 a0_1, .int .i64 a0_2, .slice A0_3 l0_3.length c0_3] 24 (0, 0)) (by (with_reducible repeat (first | refine blk_drewN ?_ _ | refine blk_drew ?_ | refine blk_alloc ?_ _)); exact BK874.out) hb); have n5_ := Aside0.mk (blk_below (g := gb894) (o := .cells #[.int .i64 t888, .int .i64 t889, .int .i64 t890, .slice Ao41 t891.length co41] 28 (0, 0)) (by (with_reducible repeat (first | refine blk_drewN ?_ _ | refine blk_drew ?_ | refine blk_alloc ?_ _)); exact BK894.out) hb); have n6_ := Aside0.mk (below_step (by repeat (first | (with_reducible first | exact HB.out | apply below_alloc | apply pw_below_drewN | apply below_drew1 | refine below_set ?_ GE874.out | refine below_set ?_ GE894.out) | exact HB.out)) hb); clear HO882; clear HO885; clear HO893; clear HO897; clear BK874; clear BK894; clear HB; have HO882 := n0_; have HO885 := n1_; have HO893 := n2_; have HO897 := n3_; have BK874 := n4_; have BK894 := n5_; have HB := n6_; clear n0_ n1_ n2_ n3_ n4_ n5_ n6_; (try clear hb); (try clear hb2); (try clear hk); (try clear hi)))
        have n0_ := Aside0.mk (Kd.R_drew HO882.out)
        have n1_ := Aside0.mk (Kd.R_drew HO885.out)
        have n2_ := Aside0.mk (Kd.R_drew HO893.out)
        have n3_ := Aside0.mk (Kd.R_drew HO897.out)
        have n4_ := Aside0.mk (blk_drew BK874.out)
        have n5_ := Aside0.mk (blk_drew BK894.out)
        have n6_ := Aside0.mk (below_drew1 HB.out)
        clear HO882
        clear HO885
        clear HO893
        clear HO897
        clear BK874
        clear BK894
        clear HB
        have HO882 := n0_
        have HO885 := n1_
        have HO893 := n2_
        have HO897 := n3_
        have BK874 := n4_
        have BK894 := n5_
        have HB := n6_
        clear n0_ n1_ n2_ n3_ n4_ n5_ n6_
        refine start_ (n := 5) (S := fun w' => w'.cell? ⟨gb894, 0, none⟩ = some (.int .i64 t888) ∧ w'.cell? ⟨gb894, 1, none⟩ = some (.int .i64 t889) ∧ w'.cell? ⟨gb894, 2, none⟩ = some (.int .i64 t890) ∧ w'.cell? ⟨gb894, 3, none⟩ = some (.slice Ao41 t891.length co41) ∧ w'.cell? ⟨gb874, 0, none⟩ = some (.int .i64 a0_0) ∧ w'.cell? ⟨gb874, 1, none⟩ = some (.int .i64 a0_1) ∧ w'.cell? ⟨gb874, 2, none⟩ = some (.int .i64 a0_2) ∧ w'.cell? ⟨gb874, 3, none⟩ = some (.slice A0_3 l0_3.length c0_3)) (ds := []) #[false, false, false, false, false] (by kernel_rfl) rfl rfl ⟨(blk_cell BK894.out 0).trans rfl, (blk_cell BK894.out 1).trans rfl, (blk_cell BK894.out 2).trans rfl, (blk_cell BK894.out 3).trans rfl, (blk_cell BK874.out 0).trans rfl, (blk_cell BK874.out 1).trans rfl, (blk_cell BK874.out 2).trans rfl, (blk_cell BK874.out 3).trans rfl⟩ (fun hHeld => ?_)
        generalize w45.drew = w46 at HO882 HO885 HO893 HO897 BK874 BK894 HB hHeld ⊢
        refine take_ (i := 0) (N := some 48) (v := ?_) (a' := ?_) (bsA 5 1) rfl rfl (by kernel_rfl) (fun _ _ _ h => h) (Or.inl ⟨by rfl, ?_⟩) hHeld ?_ ?_
        rotate_left
        ·rintro w' ⟨s0, s1, s2, s3, s4, s5, s6, s7⟩
         go_simp
         with_reducible rfl
        rotate_left
        ·simp only [Act.put, List.setIfInBounds_toArray, List.set_cons_zero, List.set_cons_succ, i64_w]
         rfl
        refine take_ (i := 1) (N := some 49) (v := ?_) (a' := ?_) (bsA 5 3) rfl rfl (by kernel_rfl) (fun _ _ _ h => h) (Or.inl ⟨by rfl, ?_⟩) hHeld ?_ ?_
        rotate_left
        ·rintro w' ⟨s0, s1, s2, s3, s4, s5, s6, s7⟩
         go_simp
         with_reducible rfl
        rotate_left
        ·simp only [Act.put, List.setIfInBounds_toArray, List.set_cons_zero, List.set_cons_succ, i64_w]
         rfl
        refine one_ (i := 2) (N := some 50) (bsA 5 7) rfl rfl (by kernel_rfl) (by decide) (fun K hK => ?_)
        refine goes_ Try.func17 (by kernel_rfl) rfl #[.agg #[.int .i64 a0_0, .int .i64 a0_1, .int .i64 a0_2, .slice A0_3 l0_3.length c0_3]] (by rfl) rfl rfl (by (try simp only [List.map_toArray, List.map_cons, List.map_nil]); first | done | rfl | (simp only [List.length_drop, List.length_take]; rfl)) ?_
        with_reducible refine (laws_toDisplaced.calls k a0_0 a0_1 a0_2 _ _ l0_3 t900 t901 t902 t903 _ ?side1 ?side2 A21.out).mono ?_
        (case side1 => repeat (first | exact (Kd.C_below HR0_3.out HB.out) | (with_reducible refine Kd.C_alloc ?_ _) | (with_reducible refine Kd.C_drewN ?_ _) | (with_reducible refine Kd.C_drew ?_)))
        (case side2 => exact HC0_3.out)
        rintro e w47 ⟨v904, rfl, ho0, hb⟩
        refine ⟨_, rfl, ?_⟩
        have n0_ := Aside0.mk (Kd.R_elder' (by (with_reducible repeat (first | apply Kd.R_alloc | apply Kd.R_drewN | apply Kd.R_drew)); exact HO882.out) (Kd.R_base ho0) hb)
        have n1_ := Aside0.mk (Kd.R_below (by (with_reducible repeat (first | apply Kd.R_alloc | apply Kd.R_drewN | apply Kd.R_drew)); exact HO885.out) hb)
        have n2_ := Aside0.mk (Kd.R_elder' (by (with_reducible repeat (first | apply Kd.R_alloc | apply Kd.R_drewN | apply Kd.R_drew)); exact HO893.out) (Kd.R_base ho0) hb)
        have n3_ := Aside0.mk (Kd.R_below (by (with_reducible repeat (first | apply Kd.R_alloc | apply Kd.R_drewN | apply Kd.R_drew)); exact HO897.out) hb)
        have n4_ := Aside0.mk (Kd.R_lower (Kd.R_new' (Kd.R_new' ho0 (Kd.R_lt (by (with_reducible repeat (first | apply Kd.R_alloc | apply Kd.R_drewN | apply Kd.R_drew)); exact HO882.out))) (Kd.R_lt (by (with_reducible repeat (first | apply Kd.R_alloc | apply Kd.R_drewN | apply Kd.R_drew)); exact HO893.out))) (below_size (by repeat (first | (with_reducible first | exact HB.out | apply below_alloc | apply pw_below_drewN | apply below_drew1 | refine below_set ?_ GE874.out | refine below_set ?_ GE894.out) | exact HB.out))))
        have n5_ := Aside0.mk (blk_below (g := gb874) (o := .cells #[.int .i64 a0_0, .int .i64 a0_1, .int .i64 a0_2, .slice A0_3 l0_3.length c0_3] 24 (0, 0)) (by (with_reducible repeat (first | refine blk_drewN ?_ _ | refine blk_drew ?_ | refine blk_alloc ?_ _)); exact BK874.out) hb)
        have n6_ := Aside0.mk (blk_below (g := gb894) (o := .cells #[.int .i64 t888, .int .i64 t889, .int .i64 t890, .slice Ao41 t891.length co41] 28 (0, 0)) (by (with_reducible repeat (first | refine blk_drewN ?_ _ | refine blk_drew ?_ | refine blk_alloc ?_ _)); exact BK894.out) hb)
        have n7_ := Aside0.mk (below_step (by repeat (first | (with_reducible first | exact HB.out | apply below_alloc | apply pw_below_drewN | apply below_drew1 | refine below_set ?_ GE874.out | refine below_set ?_ GE894.out) | exact HB.out)) hb)
        clear HO882
        clear HO885
        clear HO893
        clear HO897
        clear BK874
        clear BK894
        clear HB
        have HO882 := n0_
        have HO885 := n1_
        have HO893 := n2_
        have HO897 := n3_
        have HO905 := n4_
        have BK874 := n5_
        have BK894 := n6_
        have HB := n7_
        clear n0_ n1_ n2_ n3_ n4_ n5_ n6_ n7_
        (try clear hb)
        (try clear hb2)
        (try clear hk)
        (try clear hi)
        (try clear ho0)
        obtain ⟨Ao48, co48, eo48⟩ := Kd.R_slice HO905.out
        (first | subst eo48 | (injection eo48 with f1_ f2_ f3_; have f4_ := f1_.symm; have f5_ := f3_.symm; clear f1_ f2_ f3_; subst f4_; subst f5_))
        refine hK.out _ _ ⟨(blk_cell BK894.out 0).trans rfl, (blk_cell BK894.out 1).trans rfl, (blk_cell BK894.out 2).trans rfl, (blk_cell BK894.out 3).trans rfl, (blk_cell BK874.out 0).trans rfl, (blk_cell BK874.out 1).trans rfl, (blk_cell BK874.out 2).trans rfl, (blk_cell BK874.out 3).trans rfl⟩ (fun hHeld => ?_)
        clear hK K
        refine norm_ (a' := ?_) ?_ ?_
        rotate_left
        ·show Act.put _ (some 50) _ = _
         simp only [Act.put, List.setIfInBounds_toArray, List.set_cons_zero, List.set_cons_succ, i64_w]
         rfl
        refine one_ (i := 3) (N := some 51) (bsA 5 15) rfl rfl (by kernel_rfl) (by decide) (fun K hK => ?_)
        refine goes_ Try.func19 (by kernel_rfl) rfl #[.agg #[.int .i64 t888, .int .i64 t889, .int .i64 t890, .slice Ao41 t891.length co41], .agg #[.int .i64 t900, .int .i64 t901, .int .i64 t902, .slice Ao48 t903.length co48]] (by rfl) rfl rfl (by (try simp only [List.map_toArray, List.map_cons, List.map_nil]); first | done | rfl | (simp only [List.length_drop, List.length_take]; rfl)) ?_
        with_reducible refine (laws_eqDisplaced.calls k t888 t889 t890 _ _ t891 t900 t901 t902 _ _ t903 true _ ?side1 ?side2 ?side3 ?side4 A22.out).mono ?_
        (case side1 => repeat (first | exact (Kd.R_reads' HO893.out).2.2 | (with_reducible refine Kd.C_alloc ?_ _) | (with_reducible refine Kd.C_drewN ?_ _) | (with_reducible refine Kd.C_drew ?_)))
        (case side2 => exact (Kd.R_reads' HO893.out).2.1)
        (case side3 => repeat (first | exact (Kd.R_reads' HO905.out).2.2 | (with_reducible refine Kd.C_alloc ?_ _) | (with_reducible refine Kd.C_drewN ?_ _) | (with_reducible refine Kd.C_drew ?_)))
        (case side4 => exact (Kd.R_reads' HO905.out).2.1)
        rintro e w49 ⟨rfl, hb⟩
        refine ⟨_, rfl, ?_⟩
        have n0_ := Aside0.mk (Kd.R_below (by (with_reducible repeat (first | apply Kd.R_alloc | apply Kd.R_drewN | apply Kd.R_drew)); exact HO882.out) hb)
        have n1_ := Aside0.mk (Kd.R_below (by (with_reducible repeat (first | apply Kd.R_alloc | apply Kd.R_drewN | apply Kd.R_drew)); exact HO885.out) hb)
        have n2_ := Aside0.mk (Kd.R_below (by (with_reducible repeat (first | apply Kd.R_alloc | apply Kd.R_drewN | apply Kd.R_drew)); exact HO893.out) hb)
        have n3_ := Aside0.mk (Kd.R_below (by (with_reducible repeat (first | apply Kd.R_alloc | apply Kd.R_drewN | apply Kd.R_drew)); exact HO897.out) hb)
        have n4_ := Aside0.mk (Kd.R_below (by (with_reducible repeat (first | apply Kd.R_alloc | apply Kd.R_drewN | apply Kd.R_drew)); exact HO905.out) hb)
        have n5_ := Aside0.mk (blk_below (g := gb874) (o := .cells #[.int .i64 a0_0, .int .i64 a0_1, .int .i64 a0_2, .slice A0_3 l0_3.length c0_3] 24 (0, 0)) (by (with_reducible repeat (first | refine blk_drewN ?_ _ | refine blk_drew ?_ | refine blk_alloc ?_ _)); exact BK874.out) hb)
        have n6_ := Aside0.mk (blk_below (g := gb894) (o := .cells #[.int .i64 t888, .int .i64 t889, .int .i64 t890, .slice Ao41 t891.length co41] 28 (0, 0)) (by (with_reducible repeat (first | refine blk_drewN ?_ _ | refine blk_drew ?_ | refine blk_alloc ?_ _)); exact BK894.out) hb)
        have n7_ := Aside0.mk (below_step (by repeat (first | (with_reducible first | exact HB.out | apply below_alloc | apply pw_below_drewN | apply below_drew1 | refine below_set ?_ GE874.out | refine below_set ?_ GE894.out) | exact HB.out)) hb)
        clear HO882
        clear HO885
        clear HO893
        clear HO897
        clear HO905
        clear BK874
        clear BK894
        clear HB
        have HO882 := n0_
        have HO885 := n1_
        have HO893 := n2_
        have HO897 := n3_
        have HO905 := n4_
        have BK874 := n5_
        have BK894 := n6_
        have HB := n7_
        clear n0_ n1_ n2_ n3_ n4_ n5_ n6_ n7_
        (try clear hb)
        (try clear hb2)
        (try clear hk)
        (try clear hi)
        refine hK.out _ _ ⟨(blk_cell BK894.out 0).trans rfl, (blk_cell BK894.out 1).trans rfl, (blk_cell BK894.out 2).trans rfl, (blk_cell BK894.out 3).trans rfl, (blk_cell BK874.out 0).trans rfl, (blk_cell BK874.out 1).trans rfl, (blk_cell BK874.out 2).trans rfl, (blk_cell BK874.out 3).trans rfl⟩ (fun hHeld => ?_)
        clear hK K
        refine norm_ (a' := ?_) ?_ ?_
        rotate_left
        ·show Act.put _ (some 51) _ = _
         simp only [Act.put, List.setIfInBounds_toArray, List.set_cons_zero, List.set_cons_succ, i64_w]
         rfl
        refine pure_ (i := 4) (N := some 52) (v := ?_) (a' := ?_) (bsA 5 31) rfl rfl (by kernel_rfl) (fun _ _ _ h => h) (Or.inl ⟨by rfl, ?_⟩) ?_ ?_
        rotate_left
        ·intro w'
         go_simp
         with_reducible rfl
        rotate_left
        ·simp only [Act.put, List.setIfInBounds_toArray, List.set_cons_zero, List.set_cons_succ, i64_w]
         rfl
        refine done_ (by kernel_rfl) ?_
        try go_wp2_with (first | ((with_reducible refine gate_callee (f := 31) rfl ?_); refine goesL_ (some 55) rfl rfl Try.func31 (by kernel_rfl) rfl #[.slice A1 l1.length c1] rfl (by (try simp only [List.map_toArray, List.map_cons, List.map_nil]); first | done | rfl | (simp only [List.length_drop, List.length_take]; rfl)) ?_; (with_reducible refine (laws_toStringS.calls k _ _ l1 t907 _ ?side1 ?side2 A24.out).mono ?_); (case side1 => repeat (first | exact (Kd.C_below HR1.out HB.out) | (with_reducible refine Kd.C_alloc ?_ _) | (with_reducible refine Kd.C_drewN ?_ _) | (with_reducible refine Kd.C_drew ?_))); (case side2 => exact HC1.out); rintro e w50 ⟨v908, rfl, ho0, hb⟩; refine ⟨_, rfl, ?_⟩; have n0_ := Aside0.mk (Kd.R_below (by (with_reducible repeat (first | apply Kd.R_alloc | apply Kd.R_drewN | apply Kd.R_drew)); exact HO882.out) hb); have n1_ := Aside0.mk (Kd.R_elder' (by (with_reducible repeat (first | apply Kd.R_alloc | apply Kd.R_drewN | apply Kd.R_drew)); exact HO885.out) (Kd.R_base ho0) hb); have n2_ := Aside0.mk (Kd.R_below (by (with_reducible repeat (first | apply Kd.R_alloc | apply Kd.R_drewN | apply Kd.R_drew)); exact HO893.out) hb); have n3_ := Aside0.mk (Kd.R_elder' (by (with_reducible repeat (first | apply Kd.R_alloc | apply Kd.R_drewN | apply Kd.R_drew)); exact HO897.out) (Kd.R_base ho0) hb); have n4_ := Aside0.mk (Kd.R_below (by (with_reducible repeat (first | apply Kd.R_alloc | apply Kd.R_drewN | apply Kd.R_drew)); exact HO905.out) hb); have n5_ := Aside0.mk (Kd.R_lower (Kd.R_new' (Kd.R_new' ho0 (Kd.R_lt (by (with_reducible repeat (first | apply Kd.R_alloc | apply Kd.R_drewN | apply Kd.R_drew)); exact HO885.out))) (Kd.R_lt (by (with_reducible repeat (first | apply Kd.R_alloc | apply Kd.R_drewN | apply Kd.R_drew)); exact HO897.out))) (below_size (by repeat (first | (with_reducible first | exact HB.out | apply below_alloc | apply pw_below_drewN | apply below_drew1 | refine below_set ?_ GE874.out | refine below_set ?_ GE894.out) | exact HB.out)))); have n6_ := Aside0.mk (blk_below (g := gb874) (o := .cells #[.int .i64 a0_0, .int .i64 a0_1, .int .i64 a0_2, .slice A0_3 l0_3.length c0_3] 24 (0, 0)) (by (with_reducible repeat (first | refine blk_drewN ?_ _ | refine blk_drew ?_ | refine blk_alloc ?_ _)); exact BK874.out) hb); have n7_ := Aside0.mk (blk_below (g := gb894) (o := .cells #[.int .i64 t888, .int .i64 t889, .int .i64 t890, .slice Ao41 t891.length co41] 28 (0, 0)) (by (with_reducible repeat (first | refine blk_drewN ?_ _ | refine blk_drew ?_ | refine blk_alloc ?_ _)); exact BK894.out) hb); have n8_ := Aside0.mk (below_step (by repeat (first | (with_reducible first | exact HB.out | apply below_alloc | apply pw_below_drewN | apply below_drew1 | refine below_set ?_ GE874.out | refine below_set ?_ GE894.out) | exact HB.out)) hb); clear HO882; clear HO885; clear HO893; clear HO897; clear HO905; clear BK874; clear BK894; clear HB; have HO882 := n0_; have HO885 := n1_; have HO893 := n2_; have HO897 := n3_; have HO905 := n4_; have HO909 := n5_; have BK874 := n6_; have BK894 := n7_; have HB := n8_; clear n0_ n1_ n2_ n3_ n4_ n5_ n6_ n7_ n8_; (try clear hb); (try clear hb2); (try clear hk); (try clear hi); (try clear ho0); obtain ⟨Ao51, co51, eo51⟩ := Kd.R_slice HO909.out; subst eo51) | ((with_reducible refine gate_callee (f := 33) rfl ?_); refine goesL_ (some 56) rfl rfl Try.func33 (by kernel_rfl) rfl #[.slice Ao44 t895.length co44, .slice Ao51 t907.length co51] rfl (by (try simp only [List.map_toArray, List.map_cons, List.map_nil]); first | done | rfl | (simp only [List.length_drop, List.length_take]; rfl)) ?_; (with_reducible refine (laws_eqStringS.calls k _ _ t895 _ _ t907 true _ ?side1 ?side2 ?side3 ?side4 A25.out).mono ?_); (case side1 => repeat (first | exact (Kd.R_reads' HO897.out).2.2 | (with_reducible refine Kd.C_alloc ?_ _) | (with_reducible refine Kd.C_drewN ?_ _) | (with_reducible refine Kd.C_drew ?_))); (case side2 => exact (Kd.R_reads' HO897.out).2.1); (case side3 => repeat (first | exact (Kd.R_reads' HO909.out).2.2 | (with_reducible refine Kd.C_alloc ?_ _) | (with_reducible refine Kd.C_drewN ?_ _) | (with_reducible refine Kd.C_drew ?_))); (case side4 => exact (Kd.R_reads' HO909.out).2.1); rintro e w' ⟨rfl, ⟨nd, rfl⟩⟩; refine ⟨_, rfl, ?_⟩))
        go_ret
        exact ⟨by first | rfl | (simp [errW_none, errW_some] <;> rfl) | (simp [*, errW_none, errW_some] <;> rfl), by repeat (first | (with_reducible first | exact HB.out | apply below_alloc | apply pw_below_drewN | apply below_drew1 | refine below_set ?_ GE874.out | refine below_set ?_ GE894.out) | exact HB.out)⟩
       ·replace c26 := Bool.eq_false_iff.mpr c26
        subst c26
        have H1 : (none) = some r := by rw [if_neg (show ¬ (false = true) by decide)] at H; exact H
        clear H
        have H := H1
        clear H1
        exact absurd H (by simp)
      ·replace c23 := Bool.eq_false_iff.mpr c23
       subst c23
       have H1 : (none) = some r := by rw [if_neg (show ¬ (false = true) by decide)] at H; exact H
       clear H
       have H := H1
       clear H1
       exact absurd H (by simp)

/-- What is to be shown of laws_FnExactIsDisplacedFor: plain. -/
def laws_FnExactIsDisplacedFor.Pure : Prop := ∀ (a0_0 : Int) (a0_1 : Int) (a0_2 : Int) (l0_3 : List Int) (l1 : List ByteArray), (wfI .i64) a0_0 → (wfI .i64) a0_1 → (wfI .i64) a0_2 → (wfL (wfI .i64)) l0_3 → (wfL wfS) l1 → ∃ k, laws_FnExactIsDisplacedFor.f k a0_0 a0_1 a0_2 l0_3 l1 = some true
theorem laws_FnExactIsDisplacedFor.walk (P : laws_FnExactIsDisplacedFor.Pure) (a0_0 : Int) (a0_1 : Int) (a0_2 : Int) (A0_3 : Option Addr) (c0_3 : Nat) (l0_3 : List Int) (A1 : Option Addr) (c1 : Nat) (l1 : List ByteArray) (w : World) (hr0_3 : Kd.C (Kd.int .i64) w A0_3 l0_3.length l0_3) (hc0_3 : l0_3.length ≤ c0_3) (hr1 : Kd.C Kd.string w A1 l1.length l1) (hc1 : l1.length ≤ c1) (hw0_0 : (wfI .i64) a0_0) (hw0_1 : (wfI .i64) a0_1) (hw0_2 : (wfI .i64) a0_2) (hw0_3 : (wfL (wfI .i64)) l0_3) (hw1 : (wfL wfS) l1) :
    Calls Try.prog 13 #[.agg #[.int .i64 a0_0, .int .i64 a0_1, .int .i64 a0_2, .slice A0_3 l0_3.length c0_3], .slice A1 l1.length c1] w fun e w' => e = .returned (.bool true) ∧ Below w.heap.size w w' := by
  obtain ⟨k, h⟩ := P a0_0 a0_1 a0_2 l0_3 l1 hw0_0 hw0_1 hw0_2 hw0_3 hw1
  refine (laws_FnExactIsDisplacedFor.calls k a0_0 a0_1 a0_2 A0_3 c0_3 l0_3 A1 c1 l1 true w hr0_3 hc0_3 hr1 hc1 h).mono ?_
  rintro e w' ⟨rfl, hd⟩
  exact ⟨rfl, hd⟩
end Go.Proofs.Ytioncjcmfbndmaa.X
