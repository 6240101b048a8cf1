/- Written by a program of this session: what functions of the given program compute, and that their calls do so. -/
import Derived.Test.YthafknjaljhibaaXx0
import Derived.Test.YthafknjaljhibaaXg1b
import Derived.Test.YthafknjaljhibaaXs
namespace Go.Proofs.Ythafknjaljhibaa.X
open Go.RowKit Go.Proofs.YthafknjaljhibaaW.PrintWords Go.Proofs.YthafknjaljhibaaW.PrintLast Go.Proofs.YthafknjaljhibaaW.PrintMore
attribute [local go_sem] max2_int min2_int max_two min_two max_three min_three max_four min_four   -- for this text's walks alone
set_option linter.unusedVariables false
set_option linter.unusedSimpArgs false
/-! ### impl_groups: function 18 -/
mutual
def impl_groups.l0 : Nat → List (List Int) → List Int → Int → Int → List (List Int) → Option ((List (List Int)))
  | 0, _, _, _, _, _ => none
  | k + 1, x3, x4, x17, x18, x224000 => if x18 < x17 then (if 0 ≤ x18 then (if x18 < (x4.length : Int) then (impl_groups.l0 k x3 (x4.set (x18 : Int).toNat (-1)) x17 (wrap64 (x18 + 1)) x224000) else (none)) else (none)) else (impl_groups.l1 k x3 x4 (x224000.length : Int) 0 x224000)
def impl_groups.l1 : Nat → List (List Int) → List Int → Int → Int → List (List Int) → Option ((List (List Int)))
  | 0, _, _, _, _, _ => none
  | k + 1, x3, x4, x26, x27, x224000 => if x27 < x26 then (if 0 ≤ x27 then (if x27 < (x4.length : Int) then (if (rd x4 x27) ≥ 0 then (impl_groups.l1 k x3 x4 x26 (wrap64 (x27 + 1)) x224000) else (impl_groups.l2 k x3 (x4.set (x27 : Int).toNat (x3.length : Int)) (x3.length : Int) x26 x27 x224000 (([x27] : List Int)))) else (none)) else (none)) else (impl_groups.l4 k x3 x4 (x4.length : Int) 0)
def impl_groups.l2 : Nat → List (List Int) → List Int → Int → Int → Int → List (List Int) → List Int → Option ((List (List Int)))
  | 0, _, _, _, _, _, _, _ => none
  | k + 1, x3, x4, x7, x26, x27, x224000, x237000 => if (x237000.length : Int) > 0 then (impl_groups.l3 k x3 x4 x7 x26 x27 (x224000.length : Int) 0 x224000 x237000) else (if x3.length < 5864062014805 then (impl_groups.l1 k (x3 ++ [[]]) x4 x26 (wrap64 (x27 + 1)) x224000) else (none))
def impl_groups.l3 : Nat → List (List Int) → List Int → Int → Int → Int → Int → Int → List (List Int) → List Int → Option ((List (List Int)))
  | 0, _, _, _, _, _, _, _, _, _ => none
  | k + 1, x3, x4, x7, x26, x27, x49, x50, x224000, x237000 => if x50 < x49 then (if 0 ≤ x50 then (if x50 < (x4.length : Int) then (if (rd x4 x50) < 0 then (if x50 < (x224000.length : Int) then ((slices_ContainsFunc_int_int_at_impl_groups_1.f k (rd_L1 x224000 x50) x224000 x237000).bind fun t242 => (if t242 = true then (if x237000.length < 17592186044416 then (impl_groups.l3 k x3 (x4.set (x50 : Int).toNat x7) x7 x26 x27 x49 (wrap64 (x50 + 1)) x224000 (x237000 ++ [x50])) else (none)) else (impl_groups.l3 k x3 x4 x7 x26 x27 x49 (wrap64 (x50 + 1)) x224000 x237000))) else (none)) else (impl_groups.l3 k x3 x4 x7 x26 x27 x49 (wrap64 (x50 + 1)) x224000 x237000)) else (none)) else (none)) else (if 1 ≤ (x237000.length : Int) then (impl_groups.l2 k x3 x4 x7 x26 x27 x224000 (x237000.drop (1 : Int).toNat)) else (none))
def impl_groups.l4 : Nat → List (List Int) → List Int → Int → Int → Option ((List (List Int)))
  | 0, _, _, _, _ => none
  | k + 1, x3, x80, x81, x82 => if x82 < x81 then (if 0 ≤ x82 then (if x82 < (x80.length : Int) then (if 0 ≤ (rd x80 x82) then (if (rd x80 x82) < (x3.length : Int) then (if (rd_L1 x3 (rd x80 x82)).length < 17592186044416 then (impl_groups.l4 k (x3.set ((rd x80 x82) : Int).toNat ((rd_L1 x3 (rd x80 x82)) ++ [x82])) x80 x81 (wrap64 (x82 + 1))) else (none)) else (none)) else (none)) else (none)) else (none)) else (some x3)
end
def impl_groups.f (k : Nat) (l0 : List (List Int)) : Option ((List (List Int))) := if 0 ≤ (l0.length : Int) then (if ((l0.length : Int) : Int).toNat ≤ 35184372088832 then ((some (List.replicate ((l0.length : Int) : Int).toNat 0 : List Int)).bind fun y227 => (impl_groups.l0 k (([] : List (List Int))) y227 (y227.length : Int) 0 l0)) else (none)) else (none)
theorem impl_groups.mono_l : ∀ k, (∀ y0 y1 y2 y3 y4, LeO (impl_groups.l0 k y0 y1 y2 y3 y4) (impl_groups.l0 (k + 1) y0 y1 y2 y3 y4)) ∧ (∀ y0 y1 y2 y3 y4, LeO (impl_groups.l1 k y0 y1 y2 y3 y4) (impl_groups.l1 (k + 1) y0 y1 y2 y3 y4)) ∧ (∀ y0 y1 y2 y3 y4 y5 y6, LeO (impl_groups.l2 k y0 y1 y2 y3 y4 y5 y6) (impl_groups.l2 (k + 1) y0 y1 y2 y3 y4 y5 y6)) ∧ (∀ y0 y1 y2 y3 y4 y5 y6 y7 y8, LeO (impl_groups.l3 k y0 y1 y2 y3 y4 y5 y6 y7 y8) (impl_groups.l3 (k + 1) y0 y1 y2 y3 y4 y5 y6 y7 y8)) ∧ (∀ y0 y1 y2 y3, LeO (impl_groups.l4 k y0 y1 y2 y3) (impl_groups.l4 (k + 1) y0 y1 y2 y3))
  | 0 => ⟨fun _ _ _ _ _ r h => by simp [impl_groups.l0] at h, fun _ _ _ _ _ r h => by simp [impl_groups.l1] at h, fun _ _ _ _ _ _ _ r h => by simp [impl_groups.l2] at h, fun _ _ _ _ _ _ _ _ _ r h => by simp [impl_groups.l3] at h, fun _ _ _ _ r h => by simp [impl_groups.l4] at h⟩
  | k + 1 => by
    obtain ⟨ih0, ih1, ih2, ih3, ih4⟩ := impl_groups.mono_l k
    refine ⟨?_, ?_, ?_, ?_, ?_⟩
    · intro y0 y1 y2 y3 y4
      unfold impl_groups.l0
      repeat' first
      | (with_reducible exact ih0 _ _ _ _ _)
      | (with_reducible exact ih1 _ _ _ _ _)
      | (with_reducible exact ih2 _ _ _ _ _ _ _)
      | (with_reducible exact ih3 _ _ _ _ _ _ _ _ _)
      | (with_reducible exact ih4 _ _ _ _)
      | (with_reducible exact slices_ContainsFunc_int_int_at_impl_groups_1.mono _ _ _ _)
      | (with_reducible exact LeO.refl _)
      | (with_reducible exact LeO.none _)
      | (with_reducible refine LeO.ite ?_ ?_)
      | (with_reducible refine LeO.bind ?_ (fun _ => ?_))
      | exact ih0 _ _ _ _ _
      | exact ih1 _ _ _ _ _
      | exact ih2 _ _ _ _ _ _ _
      | exact ih3 _ _ _ _ _ _ _ _ _
      | exact ih4 _ _ _ _
      | exact slices_ContainsFunc_int_int_at_impl_groups_1.mono _ _ _ _
      | exact LeO.none _
      | refine LeO.ite ?_ ?_
      | refine LeO.bind ?_ (fun _ => ?_)
    · intro y0 y1 y2 y3 y4
      unfold impl_groups.l1
      repeat' first
      | (with_reducible exact ih0 _ _ _ _ _)
      | (with_reducible exact ih1 _ _ _ _ _)
      | (with_reducible exact ih2 _ _ _ _ _ _ _)
      | (with_reducible exact ih3 _ _ _ _ _ _ _ _ _)
      | (with_reducible exact ih4 _ _ _ _)
      | (with_reducible exact slices_ContainsFunc_int_int_at_impl_groups_1.mono _ _ _ _)
      | (with_reducible exact LeO.refl _)
      | (with_reducible exact LeO.none _)
      | (with_reducible refine LeO.ite ?_ ?_)
      | (with_reducible refine LeO.bind ?_ (fun _ => ?_))
      | exact ih0 _ _ _ _ _
      | exact ih1 _ _ _ _ _
      | exact ih2 _ _ _ _ _ _ _
      | exact ih3 _ _ _ _ _ _ _ _ _
      | exact ih4 _ _ _ _
      | exact slices_ContainsFunc_int_int_at_impl_groups_1.mono _ _ _ _
      | exact LeO.none _
      | refine LeO.ite ?_ ?_
      | refine LeO.bind ?_ (fun _ => ?_)
    · intro y0 y1 y2 y3 y4 y5 y6
      unfold impl_groups.l2
      repeat' first
      | (with_reducible exact ih0 _ _ _ _ _)
      | (with_reducible exact ih1 _ _ _ _ _)
      | (with_reducible exact ih2 _ _ _ _ _ _ _)
      | (with_reducible exact ih3 _ _ _ _ _ _ _ _ _)
      | (with_reducible exact ih4 _ _ _ _)
      | (with_reducible exact slices_ContainsFunc_int_int_at_impl_groups_1.mono _ _ _ _)
      | (with_reducible exact LeO.refl _)
      | (with_reducible exact LeO.none _)
      | (with_reducible refine LeO.ite ?_ ?_)
      | (with_reducible refine LeO.bind ?_ (fun _ => ?_))
      | exact ih0 _ _ _ _ _
      | exact ih1 _ _ _ _ _
      | exact ih2 _ _ _ _ _ _ _
      | exact ih3 _ _ _ _ _ _ _ _ _
      | exact ih4 _ _ _ _
      | exact slices_ContainsFunc_int_int_at_impl_groups_1.mono _ _ _ _
      | exact LeO.none _
      | refine LeO.ite ?_ ?_
      | refine LeO.bind ?_ (fun _ => ?_)
    · intro y0 y1 y2 y3 y4 y5 y6 y7 y8
      unfold impl_groups.l3
      repeat' first
      | (with_reducible exact ih0 _ _ _ _ _)
      | (with_reducible exact ih1 _ _ _ _ _)
      | (with_reducible exact ih2 _ _ _ _ _ _ _)
      | (with_reducible exact ih3 _ _ _ _ _ _ _ _ _)
      | (with_reducible exact ih4 _ _ _ _)
      | (with_reducible exact slices_ContainsFunc_int_int_at_impl_groups_1.mono _ _ _ _)
      | (with_reducible exact LeO.refl _)
      | (with_reducible exact LeO.none _)
      | (with_reducible refine LeO.ite ?_ ?_)
      | (with_reducible refine LeO.bind ?_ (fun _ => ?_))
      | exact ih0 _ _ _ _ _
      | exact ih1 _ _ _ _ _
      | exact ih2 _ _ _ _ _ _ _
      | exact ih3 _ _ _ _ _ _ _ _ _
      | exact ih4 _ _ _ _
      | exact slices_ContainsFunc_int_int_at_impl_groups_1.mono _ _ _ _
      | exact LeO.none _
      | refine LeO.ite ?_ ?_
      | refine LeO.bind ?_ (fun _ => ?_)
    · intro y0 y1 y2 y3
      unfold impl_groups.l4
      repeat' first
      | (with_reducible exact ih0 _ _ _ _ _)
      | (with_reducible exact ih1 _ _ _ _ _)
      | (with_reducible exact ih2 _ _ _ _ _ _ _)
      | (with_reducible exact ih3 _ _ _ _ _ _ _ _ _)
      | (with_reducible exact ih4 _ _ _ _)
      | (with_reducible exact slices_ContainsFunc_int_int_at_impl_groups_1.mono _ _ _ _)
      | (with_reducible exact LeO.refl _)
      | (with_reducible exact LeO.none _)
      | (with_reducible refine LeO.ite ?_ ?_)
      | (with_reducible refine LeO.bind ?_ (fun _ => ?_))
      | exact ih0 _ _ _ _ _
      | exact ih1 _ _ _ _ _
      | exact ih2 _ _ _ _ _ _ _
      | exact ih3 _ _ _ _ _ _ _ _ _
      | exact ih4 _ _ _ _
      | exact slices_ContainsFunc_int_int_at_impl_groups_1.mono _ _ _ _
      | exact LeO.none _
      | refine LeO.ite ?_ ?_
      | refine LeO.bind ?_ (fun _ => ?_)
theorem impl_groups.mono : ∀ a0 k, LeO (impl_groups.f k a0) (impl_groups.f (k + 1) a0) := by
  intro a0 k
  obtain ⟨ih0, ih1, ih2, ih3, ih4⟩ := impl_groups.mono_l k
  unfold impl_groups.f
  repeat' first
      | (with_reducible exact ih0 _ _ _ _ _)
      | (with_reducible exact ih1 _ _ _ _ _)
      | (with_reducible exact ih2 _ _ _ _ _ _ _)
      | (with_reducible exact ih3 _ _ _ _ _ _ _ _ _)
      | (with_reducible exact ih4 _ _ _ _)
      | (with_reducible exact slices_ContainsFunc_int_int_at_impl_groups_1.mono _ _ _ _)
      | (with_reducible exact LeO.refl _)
      | (with_reducible exact LeO.none _)
      | (with_reducible refine LeO.ite ?_ ?_)
      | (with_reducible refine LeO.bind ?_ (fun _ => ?_))
      | exact ih0 _ _ _ _ _
      | exact ih1 _ _ _ _ _
      | exact ih2 _ _ _ _ _ _ _
      | exact ih3 _ _ _ _ _ _ _ _ _
      | exact ih4 _ _ _ _
      | exact slices_ContainsFunc_int_int_at_impl_groups_1.mono _ _ _ _
      | exact LeO.none _
      | refine LeO.ite ?_ ?_
      | refine LeO.bind ?_ (fun _ => ?_)
noncomputable def impl_groups.L0 (y0 : List (List Int)) (y1 : List Int) (y2 : Int) (y3 : Int) (y4 : List (List Int)) : Option ((List (List Int))) := lim fun k => impl_groups.l0 k y0 y1 y2 y3 y4
theorem impl_groups.L0_sup (y0 : List (List Int)) (y1 : List Int) (y2 : Int) (y3 : Int) (y4 : List (List Int)) : Sup (fun k => impl_groups.l0 k y0 y1 y2 y3 y4) (impl_groups.L0 y0 y1 y2 y3 y4) := Sup.of_mono fun k => (impl_groups.mono_l k).1 y0 y1 y2 y3 y4
noncomputable def impl_groups.L1 (y0 : List (List Int)) (y1 : List Int) (y2 : Int) (y3 : Int) (y4 : List (List Int)) : Option ((List (List Int))) := lim fun k => impl_groups.l1 k y0 y1 y2 y3 y4
theorem impl_groups.L1_sup (y0 : List (List Int)) (y1 : List Int) (y2 : Int) (y3 : Int) (y4 : List (List Int)) : Sup (fun k => impl_groups.l1 k y0 y1 y2 y3 y4) (impl_groups.L1 y0 y1 y2 y3 y4) := Sup.of_mono fun k => (impl_groups.mono_l k).2.1 y0 y1 y2 y3 y4
noncomputable def impl_groups.L2 (y0 : List (List Int)) (y1 : List Int) (y2 : Int) (y3 : Int) (y4 : Int) (y5 : List (List Int)) (y6 : List Int) : Option ((List (List Int))) := lim fun k => impl_groups.l2 k y0 y1 y2 y3 y4 y5 y6
theorem impl_groups.L2_sup (y0 : List (List Int)) (y1 : List Int) (y2 : Int) (y3 : Int) (y4 : Int) (y5 : List (List Int)) (y6 : List Int) : Sup (fun k => impl_groups.l2 k y0 y1 y2 y3 y4 y5 y6) (impl_groups.L2 y0 y1 y2 y3 y4 y5 y6) := Sup.of_mono fun k => (impl_groups.mono_l k).2.2.1 y0 y1 y2 y3 y4 y5 y6
noncomputable def impl_groups.L3 (y0 : List (List Int)) (y1 : List Int) (y2 : Int) (y3 : Int) (y4 : Int) (y5 : Int) (y6 : Int) (y7 : List (List Int)) (y8 : List Int) : Option ((List (List Int))) := lim fun k => impl_groups.l3 k y0 y1 y2 y3 y4 y5 y6 y7 y8
theorem impl_groups.L3_sup (y0 : List (List Int)) (y1 : List Int) (y2 : Int) (y3 : Int) (y4 : Int) (y5 : Int) (y6 : Int) (y7 : List (List Int)) (y8 : List Int) : Sup (fun k => impl_groups.l3 k y0 y1 y2 y3 y4 y5 y6 y7 y8) (impl_groups.L3 y0 y1 y2 y3 y4 y5 y6 y7 y8) := Sup.of_mono fun k => (impl_groups.mono_l k).2.2.2.1 y0 y1 y2 y3 y4 y5 y6 y7 y8
noncomputable def impl_groups.L4 (y0 : List (List Int)) (y1 : List Int) (y2 : Int) (y3 : Int) : Option ((List (List Int))) := lim fun k => impl_groups.l4 k y0 y1 y2 y3
theorem impl_groups.L4_sup (y0 : List (List Int)) (y1 : List Int) (y2 : Int) (y3 : Int) : Sup (fun k => impl_groups.l4 k y0 y1 y2 y3) (impl_groups.L4 y0 y1 y2 y3) := Sup.of_mono fun k => (impl_groups.mono_l k).2.2.2.2 y0 y1 y2 y3
noncomputable def impl_groups.F (l0 : List (List Int)) : Option ((List (List Int))) := lim fun k => impl_groups.f k l0
theorem impl_groups.F_sup (l0 : List (List Int)) : Sup (fun k => impl_groups.f k l0) (impl_groups.F l0) := Sup.of_mono fun k => impl_groups.mono l0 k
theorem impl_groups.L0_eq (x3 : List (List Int)) (x4 : List Int) (x17 : Int) (x18 : Int) (x224000 : List (List Int)) : impl_groups.L0 x3 x4 x17 x18 x224000 = if x18 < x17 then (if 0 ≤ x18 then (if x18 < (x4.length : Int) then (impl_groups.L0 x3 (x4.set (x18 : Int).toNat (-1)) x17 (wrap64 (x18 + 1)) x224000) else (none)) else (none)) else (impl_groups.L1 x3 x4 (x224000.length : Int) 0 x224000) := by
  refine Sup.unique (impl_groups.L0_sup x3 x4 x17 x18 x224000) (Sup.shift (fun k => (impl_groups.mono_l k).1 x3 x4 x17 x18 x224000) (Sup.congr (g' := fun k => if x18 < x17 then (if 0 ≤ x18 then (if x18 < (x4.length : Int) then (impl_groups.l0 k x3 (x4.set (x18 : Int).toNat (-1)) x17 (wrap64 (x18 + 1)) x224000) else (none)) else (none)) else (impl_groups.l1 k x3 x4 (x224000.length : Int) 0 x224000)) (fun k => by first | rfl | simp only [impl_groups.l0]) ?_))
  repeat' first
    | (with_reducible exact impl_groups.L0_sup _ _ _ _ _)
    | (with_reducible exact impl_groups.L1_sup _ _ _ _ _)
    | (with_reducible exact impl_groups.L2_sup _ _ _ _ _ _ _)
    | (with_reducible exact impl_groups.L3_sup _ _ _ _ _ _ _ _ _)
    | (with_reducible exact impl_groups.L4_sup _ _ _ _)
    | (with_reducible exact slices_ContainsFunc_int_int_at_impl_groups_1.F_sup _ _ _)
    | (with_reducible refine Sup.ite ?_ ?_)
    | (with_reducible refine Sup.bind ?_ (fun _ => ?_))
    | (with_reducible exact Sup.const _)
    | exact impl_groups.L0_sup _ _ _ _ _
    | exact impl_groups.L1_sup _ _ _ _ _
    | exact impl_groups.L2_sup _ _ _ _ _ _ _
    | exact impl_groups.L3_sup _ _ _ _ _ _ _ _ _
    | exact impl_groups.L4_sup _ _ _ _
    | exact slices_ContainsFunc_int_int_at_impl_groups_1.F_sup _ _ _
    | exact Sup.const _
theorem impl_groups.L1_eq (x3 : List (List Int)) (x4 : List Int) (x26 : Int) (x27 : Int) (x224000 : List (List Int)) : impl_groups.L1 x3 x4 x26 x27 x224000 = if x27 < x26 then (if 0 ≤ x27 then (if x27 < (x4.length : Int) then (if (rd x4 x27) ≥ 0 then (impl_groups.L1 x3 x4 x26 (wrap64 (x27 + 1)) x224000) else (impl_groups.L2 x3 (x4.set (x27 : Int).toNat (x3.length : Int)) (x3.length : Int) x26 x27 x224000 (([x27] : List Int)))) else (none)) else (none)) else (impl_groups.L4 x3 x4 (x4.length : Int) 0) := by
  refine Sup.unique (impl_groups.L1_sup x3 x4 x26 x27 x224000) (Sup.shift (fun k => (impl_groups.mono_l k).2.1 x3 x4 x26 x27 x224000) (Sup.congr (g' := fun k => if x27 < x26 then (if 0 ≤ x27 then (if x27 < (x4.length : Int) then (if (rd x4 x27) ≥ 0 then (impl_groups.l1 k x3 x4 x26 (wrap64 (x27 + 1)) x224000) else (impl_groups.l2 k x3 (x4.set (x27 : Int).toNat (x3.length : Int)) (x3.length : Int) x26 x27 x224000 (([x27] : List Int)))) else (none)) else (none)) else (impl_groups.l4 k x3 x4 (x4.length : Int) 0)) (fun k => by first | rfl | simp only [impl_groups.l1]) ?_))
  repeat' first
    | (with_reducible exact impl_groups.L0_sup _ _ _ _ _)
    | (with_reducible exact impl_groups.L1_sup _ _ _ _ _)
    | (with_reducible exact impl_groups.L2_sup _ _ _ _ _ _ _)
    | (with_reducible exact impl_groups.L3_sup _ _ _ _ _ _ _ _ _)
    | (with_reducible exact impl_groups.L4_sup _ _ _ _)
    | (with_reducible exact slices_ContainsFunc_int_int_at_impl_groups_1.F_sup _ _ _)
    | (with_reducible refine Sup.ite ?_ ?_)
    | (with_reducible refine Sup.bind ?_ (fun _ => ?_))
    | (with_reducible exact Sup.const _)
    | exact impl_groups.L0_sup _ _ _ _ _
    | exact impl_groups.L1_sup _ _ _ _ _
    | exact impl_groups.L2_sup _ _ _ _ _ _ _
    | exact impl_groups.L3_sup _ _ _ _ _ _ _ _ _
    | exact impl_groups.L4_sup _ _ _ _
    | exact slices_ContainsFunc_int_int_at_impl_groups_1.F_sup _ _ _
    | exact Sup.const _
theorem impl_groups.L2_eq (x3 : List (List Int)) (x4 : List Int) (x7 : Int) (x26 : Int) (x27 : Int) (x224000 : List (List Int)) (x237000 : List Int) : impl_groups.L2 x3 x4 x7 x26 x27 x224000 x237000 = if (x237000.length : Int) > 0 then (impl_groups.L3 x3 x4 x7 x26 x27 (x224000.length : Int) 0 x224000 x237000) else (if x3.length < 5864062014805 then (impl_groups.L1 (x3 ++ [[]]) x4 x26 (wrap64 (x27 + 1)) x224000) else (none)) := by
  refine Sup.unique (impl_groups.L2_sup x3 x4 x7 x26 x27 x224000 x237000) (Sup.shift (fun k => (impl_groups.mono_l k).2.2.1 x3 x4 x7 x26 x27 x224000 x237000) (Sup.congr (g' := fun k => if (x237000.length : Int) > 0 then (impl_groups.l3 k x3 x4 x7 x26 x27 (x224000.length : Int) 0 x224000 x237000) else (if x3.length < 5864062014805 then (impl_groups.l1 k (x3 ++ [[]]) x4 x26 (wrap64 (x27 + 1)) x224000) else (none))) (fun k => by first | rfl | simp only [impl_groups.l2]) ?_))
  repeat' first
    | (with_reducible exact impl_groups.L0_sup _ _ _ _ _)
    | (with_reducible exact impl_groups.L1_sup _ _ _ _ _)
    | (with_reducible exact impl_groups.L2_sup _ _ _ _ _ _ _)
    | (with_reducible exact impl_groups.L3_sup _ _ _ _ _ _ _ _ _)
    | (with_reducible exact impl_groups.L4_sup _ _ _ _)
    | (with_reducible exact slices_ContainsFunc_int_int_at_impl_groups_1.F_sup _ _ _)
    | (with_reducible refine Sup.ite ?_ ?_)
    | (with_reducible refine Sup.bind ?_ (fun _ => ?_))
    | (with_reducible exact Sup.const _)
    | exact impl_groups.L0_sup _ _ _ _ _
    | exact impl_groups.L1_sup _ _ _ _ _
    | exact impl_groups.L2_sup _ _ _ _ _ _ _
    | exact impl_groups.L3_sup _ _ _ _ _ _ _ _ _
    | exact impl_groups.L4_sup _ _ _ _
    | exact slices_ContainsFunc_int_int_at_impl_groups_1.F_sup _ _ _
    | exact Sup.const _
theorem impl_groups.L3_eq (x3 : List (List Int)) (x4 : List Int) (x7 : Int) (x26 : Int) (x27 : Int) (x49 : Int) (x50 : Int) (x224000 : List (List Int)) (x237000 : List Int) : impl_groups.L3 x3 x4 x7 x26 x27 x49 x50 x224000 x237000 = if x50 < x49 then (if 0 ≤ x50 then (if x50 < (x4.length : Int) then (if (rd x4 x50) < 0 then (if x50 < (x224000.length : Int) then ((slices_ContainsFunc_int_int_at_impl_groups_1.F (rd_L1 x224000 x50) x224000 x237000).bind fun t242 => (if t242 = true then (if x237000.length < 17592186044416 then (impl_groups.L3 x3 (x4.set (x50 : Int).toNat x7) x7 x26 x27 x49 (wrap64 (x50 + 1)) x224000 (x237000 ++ [x50])) else (none)) else (impl_groups.L3 x3 x4 x7 x26 x27 x49 (wrap64 (x50 + 1)) x224000 x237000))) else (none)) else (impl_groups.L3 x3 x4 x7 x26 x27 x49 (wrap64 (x50 + 1)) x224000 x237000)) else (none)) else (none)) else (if 1 ≤ (x237000.length : Int) then (impl_groups.L2 x3 x4 x7 x26 x27 x224000 (x237000.drop (1 : Int).toNat)) else (none)) := by
  refine Sup.unique (impl_groups.L3_sup x3 x4 x7 x26 x27 x49 x50 x224000 x237000) (Sup.shift (fun k => (impl_groups.mono_l k).2.2.2.1 x3 x4 x7 x26 x27 x49 x50 x224000 x237000) (Sup.congr (g' := fun k => if x50 < x49 then (if 0 ≤ x50 then (if x50 < (x4.length : Int) then (if (rd x4 x50) < 0 then (if x50 < (x224000.length : Int) then ((slices_ContainsFunc_int_int_at_impl_groups_1.f k (rd_L1 x224000 x50) x224000 x237000).bind fun t242 => (if t242 = true then (if x237000.length < 17592186044416 then (impl_groups.l3 k x3 (x4.set (x50 : Int).toNat x7) x7 x26 x27 x49 (wrap64 (x50 + 1)) x224000 (x237000 ++ [x50])) else (none)) else (impl_groups.l3 k x3 x4 x7 x26 x27 x49 (wrap64 (x50 + 1)) x224000 x237000))) else (none)) else (impl_groups.l3 k x3 x4 x7 x26 x27 x49 (wrap64 (x50 + 1)) x224000 x237000)) else (none)) else (none)) else (if 1 ≤ (x237000.length : Int) then (impl_groups.l2 k x3 x4 x7 x26 x27 x224000 (x237000.drop (1 : Int).toNat)) else (none))) (fun k => by first | rfl | simp only [impl_groups.l3]) ?_))
  repeat' first
    | (with_reducible exact impl_groups.L0_sup _ _ _ _ _)
    | (with_reducible exact impl_groups.L1_sup _ _ _ _ _)
    | (with_reducible exact impl_groups.L2_sup _ _ _ _ _ _ _)
    | (with_reducible exact impl_groups.L3_sup _ _ _ _ _ _ _ _ _)
    | (with_reducible exact impl_groups.L4_sup _ _ _ _)
    | (with_reducible exact slices_ContainsFunc_int_int_at_impl_groups_1.F_sup _ _ _)
    | (with_reducible refine Sup.ite ?_ ?_)
    | (with_reducible refine Sup.bind ?_ (fun _ => ?_))
    | (with_reducible exact Sup.const _)
    | exact impl_groups.L0_sup _ _ _ _ _
    | exact impl_groups.L1_sup _ _ _ _ _
    | exact impl_groups.L2_sup _ _ _ _ _ _ _
    | exact impl_groups.L3_sup _ _ _ _ _ _ _ _ _
    | exact impl_groups.L4_sup _ _ _ _
    | exact slices_ContainsFunc_int_int_at_impl_groups_1.F_sup _ _ _
    | exact Sup.const _
theorem impl_groups.L4_eq (x3 : List (List Int)) (x80 : List Int) (x81 : Int) (x82 : Int) : impl_groups.L4 x3 x80 x81 x82 = if x82 < x81 then (if 0 ≤ x82 then (if x82 < (x80.length : Int) then (if 0 ≤ (rd x80 x82) then (if (rd x80 x82) < (x3.length : Int) then (if (rd_L1 x3 (rd x80 x82)).length < 17592186044416 then (impl_groups.L4 (x3.set ((rd x80 x82) : Int).toNat ((rd_L1 x3 (rd x80 x82)) ++ [x82])) x80 x81 (wrap64 (x82 + 1))) else (none)) else (none)) else (none)) else (none)) else (none)) else (some x3) := by
  refine Sup.unique (impl_groups.L4_sup x3 x80 x81 x82) (Sup.shift (fun k => (impl_groups.mono_l k).2.2.2.2 x3 x80 x81 x82) (Sup.congr (g' := fun k => if x82 < x81 then (if 0 ≤ x82 then (if x82 < (x80.length : Int) then (if 0 ≤ (rd x80 x82) then (if (rd x80 x82) < (x3.length : Int) then (if (rd_L1 x3 (rd x80 x82)).length < 17592186044416 then (impl_groups.l4 k (x3.set ((rd x80 x82) : Int).toNat ((rd_L1 x3 (rd x80 x82)) ++ [x82])) x80 x81 (wrap64 (x82 + 1))) else (none)) else (none)) else (none)) else (none)) else (none)) else (some x3)) (fun k => by first | rfl | simp only [impl_groups.l4]) ?_))
  repeat' first
    | (with_reducible exact impl_groups.L0_sup _ _ _ _ _)
    | (with_reducible exact impl_groups.L1_sup _ _ _ _ _)
    | (with_reducible exact impl_groups.L2_sup _ _ _ _ _ _ _)
    | (with_reducible exact impl_groups.L3_sup _ _ _ _ _ _ _ _ _)
    | (with_reducible exact impl_groups.L4_sup _ _ _ _)
    | (with_reducible exact slices_ContainsFunc_int_int_at_impl_groups_1.F_sup _ _ _)
    | (with_reducible refine Sup.ite ?_ ?_)
    | (with_reducible refine Sup.bind ?_ (fun _ => ?_))
    | (with_reducible exact Sup.const _)
    | exact impl_groups.L0_sup _ _ _ _ _
    | exact impl_groups.L1_sup _ _ _ _ _
    | exact impl_groups.L2_sup _ _ _ _ _ _ _
    | exact impl_groups.L3_sup _ _ _ _ _ _ _ _ _
    | exact impl_groups.L4_sup _ _ _ _
    | exact slices_ContainsFunc_int_int_at_impl_groups_1.F_sup _ _ _
    | exact Sup.const _
theorem impl_groups.F_eq (l0 : List (List Int)) : impl_groups.F l0 = if 0 ≤ (l0.length : Int) then (if ((l0.length : Int) : Int).toNat ≤ 35184372088832 then ((some (List.replicate ((l0.length : Int) : Int).toNat 0 : List Int)).bind fun y227 => (impl_groups.L0 (([] : List (List Int))) y227 (y227.length : Int) 0 l0)) else (none)) else (none) := by
  refine Sup.unique (impl_groups.F_sup l0) (Sup.congr (g' := fun k => if 0 ≤ (l0.length : Int) then (if ((l0.length : Int) : Int).toNat ≤ 35184372088832 then ((some (List.replicate ((l0.length : Int) : Int).toNat 0 : List Int)).bind fun y227 => (impl_groups.l0 k (([] : List (List Int))) y227 (y227.length : Int) 0 l0)) else (none)) else (none)) (fun k => by first | rfl | simp only [impl_groups.f]) ?_)
  repeat' first
    | (with_reducible exact impl_groups.L0_sup _ _ _ _ _)
    | (with_reducible exact impl_groups.L1_sup _ _ _ _ _)
    | (with_reducible exact impl_groups.L2_sup _ _ _ _ _ _ _)
    | (with_reducible exact impl_groups.L3_sup _ _ _ _ _ _ _ _ _)
    | (with_reducible exact impl_groups.L4_sup _ _ _ _)
    | (with_reducible exact slices_ContainsFunc_int_int_at_impl_groups_1.F_sup _ _ _)
    | (with_reducible refine Sup.ite ?_ ?_)
    | (with_reducible refine Sup.bind ?_ (fun _ => ?_))
    | (with_reducible exact Sup.const _)
    | exact impl_groups.L0_sup _ _ _ _ _
    | exact impl_groups.L1_sup _ _ _ _ _
    | exact impl_groups.L2_sup _ _ _ _ _ _ _
    | exact impl_groups.L3_sup _ _ _ _ _ _ _ _ _
    | exact impl_groups.L4_sup _ _ _ _
    | exact slices_ContainsFunc_int_int_at_impl_groups_1.F_sup _ _ _
    | exact Sup.const _
set_option maxHeartbeats 8000000 in
set_option maxRecDepth 100000 in
theorem impl_groups.calls (k : Nat) (A0 : Option Addr) (c0 : Nat) (l0 : List (List Int)) (r : List (List Int)) (w : World) (hr0 : Kd.C (Kd.slice 3 (Kd.int .i64)) w A0 l0.length l0) (hc0 : l0.length ≤ c0) (h : impl_groups.f k l0 = some r) :
    Calls Try.prog 18 #[.slice A0 l0.length c0] w fun e w' => ∃ v0_ : Value, e = .returned (v0_) ∧ Kd.S (Kd.slice 3 (Kd.int .i64)) 36 w' w.heap.size (fun _ => True) v0_ r ∧ Below w.heap.size w w' := by
  have hu22 := Try.underlying22
  have hu36 := Try.underlying36
  have HR0 := Aside0.mk hr0
  have HC0 := Aside0.mk hc0
  clear hr0 hc0
  have HB := Aside0.mk (Below.refl w.heap.size w)
  have H : (if 0 ≤ (l0.length : Int) then (if ((l0.length : Int) : Int).toNat ≤ 35184372088832 then ((some (List.replicate ((l0.length : Int) : Int).toNat 0 : List Int)).bind fun y227 => (impl_groups.l0 k (([] : List (List Int))) y227 (y227.length : Int) 0 l0)) else (none)) else (none)) = some r := h
  clear h
  obtain ⟨y224, hy224⟩ : ∃ y_ : List (List Int), y_ = (([] : List (List Int))) := ⟨_, rfl⟩
  replace H : (if 0 ≤ (l0.length : Int) then (if ((l0.length : Int) : Int).toNat ≤ 35184372088832 then ((some (List.replicate ((l0.length : Int) : Int).toNat 0 : List Int)).bind fun y227 => (impl_groups.l0 k y224 y227 (y227.length : Int) 0 l0)) else (none)) else (none)) = some r := by first | (rw [hy224]; with_reducible exact H) | (have H2_ := (Option.bind_some _ _).symm.trans H; rw [hy224]; with_reducible exact H2_) | (have H2_ := (Option.bind_some _ _).symm.trans H; with_reducible exact H2_) | with_reducible exact H | (rw [hy224]; exact H) | exact H
  have Ny224 := Aside0.mk hy224
  clear hy224
  by_cases c2 : 0 ≤ (l0.length : Int)
  ·rw [if_pos c2] at H
   have c2b0 := eq_true c2
   have c2b1 : decide (0 ≤ (l0.length : Int)) = true := decide_eq_true c2
   clear c2
   by_cases c3 : ((l0.length : Int) : Int).toNat ≤ 35184372088832
   ·rw [if_pos c3] at H
    have c3b0 := eq_true c3
    have c3b1 : decide (((l0.length : Int) : Int).toNat ≤ 35184372088832) = true := decide_eq_true c3
    clear c3
    obtain ⟨y227, hy227⟩ : ∃ y_ : List Int, y_ = (List.replicate ((l0.length : Int) : Int).toNat 0) := ⟨_, rfl⟩
    replace H : (impl_groups.l0 k y224 y227 (y227.length : Int) 0 l0) = some r := by first | (rw [hy227]; with_reducible exact H) | (have H2_ := (Option.bind_some _ _).symm.trans H; rw [hy227]; with_reducible exact H2_) | (have H2_ := (Option.bind_some _ _).symm.trans H; with_reducible exact H2_) | with_reducible exact H | (rw [hy227]; exact H) | exact H
    have Ny227 := Aside0.mk hy227
    clear hy227
    have H' := Aside0.mk H
    clear H
    go_enter Try.func18, Try.ntmps18
    try go_wp2_with (first | ((with_reducible refine gate_dst (N := 1) rfl ?_); refine bx_ 1 #[.slice A0 l0.length c0] 22 ?_; intro gb223 hg w4 hbox hb; have BK223 := Aside0.mk (hbox); have GW223 := Aside0.mk ((ge_ hg)); have GE223 := Aside0.mk ((ge_ hg)); replace HB := Aside0.mk (below_step hB_ hb); clear hb hbox hg))
    replace BK223 := Aside0.mk (blk_drew BK223.out)
    replace HB := Aside0.mk (below_drew1 HB.out)
    refine start_ (n := 6) (S := fun w' => w'.cell? ⟨gb223, 0, none⟩ = some (.slice A0 l0.length c0)) (ds := []) #[false, false, false, false, false, false] (by kernel_rfl) rfl rfl ((blk_cell BK223.out 0).trans rfl) (fun hHeld => ?_)
    generalize w4.drew = w5 at BK223 HB hHeld ⊢
    refine take_ (i := 1) (N := some 13) (v := ?_) (a' := ?_) (bsA 6 2) rfl rfl (by kernel_rfl) (fun _ _ _ h => h) (Or.inl ⟨by rfl, ?_⟩) hHeld ?_ ?_
    rotate_left
    ·intro w' s0
     go_simp
     with_reducible rfl
    rotate_left
    ·simp only [Act.put, List.setIfInBounds_toArray, List.set_cons_zero, List.set_cons_succ, i64_w]
     rfl
    refine pure_ (i := 2) (N := some 14) (v := ?_) (a' := ?_) (bsA 6 6) rfl rfl (by kernel_rfl) (fun _ _ _ h => h) (Or.inl ⟨by rfl, ?_⟩) ?_ ?_
    rotate_left
    ·intro w'
     go_simp
     with_reducible rfl
    rotate_left
    ·simp only [Act.put, List.setIfInBounds_toArray, List.set_cons_zero, List.set_cons_succ, i64_w]
     rfl
    refine join_ (σ := Value × Value) 1 #[true, true, true, true, true, false] (fun s_ => [(12, s_.1), (15, s_.2), (3, s_.1)]) (fun s_ w' => (w'.cell? ⟨gb223, 0, none⟩ = some (.slice A0 l0.length c0)) ∧ (Kd.S (Kd.slice 3 (Kd.int .i64)) 36 w' w.heap.size (fun k_ => some k_ ≠ (s_.2 : Value).ownBlock) s_.1 y224) ∧ (Kd.R (Kd.int .i64) 3 w' w.heap.size (fun _ => True) s_.2 y227) ∧ (w'.heap[gb223]? = some (.cells #[.slice A0 l0.length c0] 22 (0, 0))) ∧ (Below w.heap.size w w')) ?_ ?_
    rotate_left
    ·intro hCont
     refine two_ (i := 0) (j := 3) (Ni := some 12) (Nj := some 15) (bsA 6 7) #[false, true, true, true, false, false] rfl rfl rfl rfl (by kernel_rfl) (by decide) (by decide) (fun K hK => ?_) (fun K hK => ?_)
     ·skip
      refine Kd.S_lit_step (Kd.slice 3 (Kd.int .i64)) _ 36 ?hg (N := 12) ?hd (xs := ([] : List (List Int))) (inner := []) (ok := fun _ => True) (okp := fun _ => True) ?hr ?hp (fun _ hk => hk) trivial (Below.refl _ _) (Nat.le_refl _) (by simp) ?_; (case hd => rfl); (case hg => rfl); (case hr => first | (go_simp; done) | (go_simp; rfl)); (case hp => exact (Reps.none _ _))
      intro v225 w6 ho7 hb hg_ hnew_
      clear hg_ hnew_
      (first | rw [← Ny224.out] at ho7 | (simp only [Int.reduceToNat] at ho7; rw [← Ny224.out] at ho7))
      have HO226 := Aside0.mk (Kd.S_lower ho7 (below_size hB_))
      replace BK223 := Aside0.mk (blk_below (kB_ BK223) hb)
      replace HB := Aside0.mk (below_step hB_ hb)
      clear hb ho7
      refine hK.out _ _ ((blk_cell BK223.out 0).trans rfl) (fun hHeld => ?_)
      clear hK K
      refine norm_ (a' := ?_) ?_ ?_
      rotate_left
      ·show Act.put _ (some 12) _ = _
       simp only [Act.put, List.setIfInBounds_toArray, List.set_cons_zero, List.set_cons_succ, i64_w]
       rfl
      refine pure_ (i := 4) (N := some 3) (v := ?_) (a' := ?_) (bsA 6 23) rfl rfl (by kernel_rfl) (fun _ _ _ h => h) (Or.inl ⟨by rfl, ?_⟩) ?_ ?_
      rotate_left
      ·intro w'
       go_simp
       with_reducible rfl
      rotate_left
      ·simp only [Act.put, List.setIfInBounds_toArray, List.set_cons_zero, List.set_cons_succ, i64_w]
       rfl
      refine one_ (i := 3) (N := some 15) (bsA 6 31) rfl rfl (by kernel_rfl) (by decide) (fun K hK => ?_)
      refine Kd.R_make_step (Kd.int .i64) _ 3 (by rfl) (N := 15) rfl 36 _ _ rfl (l0.length : Int) rfl rfl Try.underlying36 (.int .i64 0) 8 info3 rfl (by decide) (by omega) 0 (ok := fun _ => True) (okp := fun _ => True) rfl (fun _ hk => hk) trivial (of_decide_eq_true as_) (Nat.le_trans (Nat.mul_le_mul_right _ (of_decide_eq_true as_ : (l0.length : Int).toNat ≤ 35184372088832)) (by omega)) (Below.refl _ _) (Nat.le_refl _) ?_
      intro v228 w8 ho9 hb hg_ hnew_
      clear hg_ hnew_
      (first | rw [← Ny227.out] at ho9 | (simp only [Int.reduceToNat] at ho9; rw [← Ny227.out] at ho9))
      replace HO226 := Aside0.mk (Kd.S_elder' (by (with_reducible repeat (first | apply Kd.S_alloc | apply Kd.S_drewN | apply Kd.S_drew)); exact HO226.out) (Kd.R_base ho9) hb)
      have HO229 := Aside0.mk (Kd.R_lower ho9 (below_size hB_))
      replace BK223 := Aside0.mk (blk_below (kB_ BK223) hb)
      replace HB := Aside0.mk (below_step hB_ hb)
      clear hb ho9
      refine hK.out _ _ ((blk_cell BK223.out 0).trans rfl) (fun hHeld => ?_)
      clear hK K
      refine norm_ (a' := ?_) ?_ ?_
      rotate_left
      ·show Act.put _ (some 15) _ = _
       simp only [Act.put, List.setIfInBounds_toArray, List.set_cons_zero, List.set_cons_succ, i64_w]
       rfl
      exact norm_ (by simp only [putAll, Act.put, List.setIfInBounds_toArray, List.set_cons_zero, List.set_cons_succ]) (hCont (v225, v228) _ ⟨hHeld, (by (with_reducible repeat (first | apply Kd.S_alloc | apply Kd.S_drewN | apply Kd.S_drew)); exact Kd.S_mono HO226.out (fun _ hk => hk.2)), (kR_ HO229), (kB_ BK223), hB_⟩)
     ·skip
      refine Kd.R_make_step (Kd.int .i64) _ 3 (by rfl) (N := 15) rfl 36 _ _ rfl (l0.length : Int) rfl rfl Try.underlying36 (.int .i64 0) 8 info3 rfl (by decide) (by omega) 0 (ok := fun _ => True) (okp := fun _ => True) rfl (fun _ hk => hk) trivial (of_decide_eq_true as_) (Nat.le_trans (Nat.mul_le_mul_right _ (of_decide_eq_true as_ : (l0.length : Int).toNat ≤ 35184372088832)) (by omega)) (Below.refl _ _) (Nat.le_refl _) ?_
      intro v228 w6 ho7 hb hg_ hnew_
      clear hg_ hnew_
      (first | rw [← Ny227.out] at ho7 | (simp only [Int.reduceToNat] at ho7; rw [← Ny227.out] at ho7))
      have HO229 := Aside0.mk (Kd.R_lower ho7 (below_size hB_))
      replace BK223 := Aside0.mk (blk_below (kB_ BK223) hb)
      replace HB := Aside0.mk (below_step hB_ hb)
      clear hb ho7
      refine hK.out _ _ ((blk_cell BK223.out 0).trans rfl) (fun hHeld => ?_)
      clear hK K
      refine norm_ (a' := ?_) ?_ ?_
      rotate_left
      ·show Act.put _ (some 15) _ = _
       simp only [Act.put, List.setIfInBounds_toArray, List.set_cons_zero, List.set_cons_succ, i64_w]
       rfl
      refine one_ (i := 0) (N := some 12) (bsA 6 15) rfl rfl (by kernel_rfl) (by decide) (fun K hK => ?_)
      refine Kd.S_lit_step (Kd.slice 3 (Kd.int .i64)) _ 36 ?hg (N := 12) ?hd (xs := ([] : List (List Int))) (inner := []) (ok := fun _ => True) (okp := fun _ => True) ?hr ?hp (fun _ hk => hk) trivial (Below.refl _ _) (Nat.le_refl _) (by simp) ?_; (case hd => rfl); (case hg => rfl); (case hr => first | (go_simp; done) | (go_simp; rfl)); (case hp => exact (Reps.none _ _))
      intro v225 w8 ho9 hb hg_ hnew_
      clear hg_ hnew_
      (first | rw [← Ny224.out] at ho9 | (simp only [Int.reduceToNat] at ho9; rw [← Ny224.out] at ho9))
      have HO226 := Aside0.mk (Kd.S_lower (Kd.S_new' ho9 (Kd.R_lt (kR_ HO229))) (below_size hB_))
      replace HO229 := Aside0.mk (Kd.R_below (kR_ HO229) hb)
      replace BK223 := Aside0.mk (blk_below (kB_ BK223) hb)
      replace HB := Aside0.mk (below_step hB_ hb)
      clear hb ho9
      refine hK.out _ _ ((blk_cell BK223.out 0).trans rfl) (fun hHeld => ?_)
      clear hK K
      refine norm_ (a' := ?_) ?_ ?_
      rotate_left
      ·show Act.put _ (some 12) _ = _
       simp only [Act.put, List.setIfInBounds_toArray, List.set_cons_zero, List.set_cons_succ, i64_w]
       rfl
      refine pure_ (i := 4) (N := some 3) (v := ?_) (a' := ?_) (bsA 6 31) rfl rfl (by kernel_rfl) (fun _ _ _ h => h) (Or.inl ⟨by rfl, ?_⟩) ?_ ?_
      rotate_left
      ·intro w'
       go_simp
       with_reducible rfl
      rotate_left
      ·simp only [Act.put, List.setIfInBounds_toArray, List.set_cons_zero, List.set_cons_succ, i64_w]
       rfl
      exact norm_ (by simp only [putAll, Act.put, List.setIfInBounds_toArray, List.set_cons_zero, List.set_cons_succ]) (hCont (v225, v228) _ ⟨hHeld, (by (with_reducible repeat (first | apply Kd.S_alloc | apply Kd.S_drewN | apply Kd.S_drew)); exact Kd.S_mono HO226.out (fun _ hk => hk.2)), (kR_ HO229), (kB_ BK223), hB_⟩)
    rintro ⟨v225, v228⟩ w10 ⟨hS_, h0_, h1_, h2_, h3_⟩
    have n0_ : Aside0 (Kd.S (Kd.slice 3 (Kd.int .i64)) 36 w10 w.heap.size (fun k_ => some k_ ≠ (v228 : Value).ownBlock) v225 y224) := ⟨h0_⟩
    have n1_ : Aside0 (Kd.R (Kd.int .i64) 3 w10 w.heap.size (fun _ => True) v228 y227) := ⟨h1_⟩
    have n2_ : Aside0 (w10.heap[gb223]? = some (.cells #[.slice A0 l0.length c0] 22 (0, 0))) := ⟨h2_⟩
    have n3_ : Aside0 (Below w.heap.size w w10) := ⟨h3_⟩
    clear BK223
    clear HB
    clear h0_ h1_ h2_ h3_
    have HO226 := n0_
    have HO229 := n1_
    have BK223 := n2_
    have HB := n3_
    clear n0_ n1_ n2_ n3_
    have hHeld : w10.cell? ⟨gb223, 0, none⟩ = some (.slice A0 l0.length c0) := hS_
    refine norm_ (a' := ?_) ?_ ?_
    rotate_left
    ·simp only [putAll, Act.put, List.setIfInBounds_toArray, List.set_cons_zero, List.set_cons_succ]
     rfl
    refine pure_ (i := 5) (N := some 4) (v := ?_) (a' := ?_) (bsA 6 63) rfl rfl (by kernel_rfl) (fun _ _ _ h => h) (Or.inl ⟨by rfl, ?_⟩) ?_ ?_
    rotate_left
    ·intro w'
     go_simp
     with_reducible rfl
    rotate_left
    ·simp only [Act.put, List.setIfInBounds_toArray, List.set_cons_zero, List.set_cons_succ, i64_w]
     rfl
    refine done_ (by kernel_rfl) ?_
    obtain ⟨Ao11, co11, eo11⟩ := Kd.R_slice HO229.out
    subst eo11
    try go_wp2
    go_loopg [18] k (fun kq v18 w' => ∃ (x4_1 : List Int) (x18_1 : Int), v18 = .int .i64 x18_1 ∧ Aside0 (impl_groups.l0 kq y224 x4_1 (y227.length : Int) x18_1 l0 = some r) ∧ Aside0 (kq ≤ k) ∧ Aside0 (Kd.S (Kd.slice 3 (Kd.int .i64)) 36 w' w.heap.size (fun k_ => some k_ ≠ ((.slice Ao11 y227.length co11) : Value).ownBlock) v225 y224) ∧ Aside0 (Kd.R (Kd.int .i64) 3 w' w.heap.size (fun _ => True) (.slice Ao11 y227.length co11) x4_1) ∧ Aside0 (w'.heap[gb223]? = some (.cells #[(.slice A0 l0.length c0)] 22 (0, 0))) ∧ Aside0 (Below w.heap.size w w'))
    case atStart => exact ⟨(y227), (0), rg_, H', ⟨Nat.le_refl _⟩, ⟨by (with_reducible repeat (first | apply Kd.S_alloc | apply Kd.S_drewN | apply Kd.S_drew)); exact HO226.out⟩, ⟨kR_ HO229⟩, ⟨kB_ BK223⟩, ⟨hB_⟩⟩
    case round =>
     clear H'
     try clear c1
     try clear c2
     try clear c2b0
     try clear c2b1
     try clear p2
     try clear c3
     try clear c3b0
     try clear c3b1
     obtain ⟨x4_1, x18_1, rfl, HA, HK1, HO_3, HO_4, BK223, HB⟩ := hrel
     have hl4_1 := (Kd.R_reads' HO_4.out).1
     rw [hl4_1] at HO_4
     (try simp only [hl4_1])
     (try simp only [hl4_1] at BK223)
     (try simp only [hl4_1] at HO_3)
     cases gk with
     | zero => exact absurd HA.out (by simp [impl_groups.l0])
     | succ k1 =>
      have H := HA.out
      clear HA
      simp only [impl_groups.l0] at H
      by_cases c12 : x18_1 < (y227.length : Int)
      ·rw [if_pos c12] at H
       have c12b0 : decide (x18_1 < (y227.length : Int)) = true := decide_eq_true c12
       (try (have c12z0 := c12b0; simp only [hl4_1] at c12z0))
       clear c12
       by_cases c13 : 0 ≤ x18_1
       ·rw [if_pos c13] at H
        have c13b0 : decide (0 ≤ x18_1) = true := decide_eq_true c13
        clear c13
        by_cases c14 : x18_1 < (x4_1.length : Int)
        ·rw [if_pos c14] at H
         have c14b0 : decide (x18_1 < (x4_1.length : Int)) = true := decide_eq_true c14
         (try (have c14z0 := c14b0; simp only [hl4_1] at c14z0))
         clear c14
         obtain ⟨y230, hy230⟩ : ∃ y_ : List Int, y_ = (x4_1.set (x18_1 : Int).toNat (-1)) := ⟨_, rfl⟩
         replace H : (impl_groups.l0 k1 y224 y230 (y227.length : Int) (wrap64 (x18_1 + 1)) l0) = some r := by first | (rw [hy230]; with_reducible exact H) | (have H2_ := (Option.bind_some _ _).symm.trans H; rw [hy230]; with_reducible exact H2_) | (have H2_ := (Option.bind_some _ _).symm.trans H; with_reducible exact H2_) | with_reducible exact H | (rw [hy230]; exact H) | exact H
         have Ny230 := Aside0.mk hy230
         clear hy230
         have H' := Aside0.mk H
         clear H
         have p15 : 0 ≤ (x18_1 : Int) := of_decide_eq_true as_
         have q15 : (x18_1 : Int) < ((x4_1.length : Int) : Int) := of_decide_eq_true as_
         obtain ⟨go15, co15, eo15, gb15, gl15, cl15, HG15⟩ := Kd.R_form HO_4.out (by omega)
         (first | cases eo15 | (injection eo15 with ea_ en_ ec_; (first | subst ea_ | (injection ea_ with ea_; subst ea_)); subst ec_; clear en_))
         have GB15 := Aside0.mk gb15
         have GG15 := Aside0.mk HG15
         clear gb15 gl15 HG15
         obtain ⟨hx15_0, hf15_0⟩ := Kd.R_celln 0 HO_4.out (x18_1 : Int) p15 q15
         replace p15 := eq_true p15
         replace q15 := eq_true q15
         have HP16 := Kd.R_putg HO_4.out (x18_1 : Int) (-1)
         go_wp2_with (first | ((with_reducible refine gate_store (t := 3) (p := 23) rfl ?_); refine store_event (t := 3) (p := 23) (v := ?vo_w17) (w1 := (wr.setCell ⟨go15, (x18_1 : Int).toNat, none⟩ (.int .i64 (-1)))) ?hg ?ho ?hn ?hr ?_; (case ho => rfl); (case hg => rfl); (case hn => rfl); (case hr => first | (go_simp; done) | (go_simp; rfl)); intro w17 hw; have hg : wr.grownBy w17 (some go15) := (by rw [hw]; exact HP16.2); have hp_ : Kd.R (Kd.int .i64) 3 w17 w.heap.size (fun _ => True) (.slice (some ⟨go15, 0, none⟩) x4_1.length co11) y230 := (by rw [hw, Ny230.out]; exact HP16.1); clear HP16; replace HO_3 := Aside0.mk (Kd.S_after (v := (.slice (some ⟨go15, 0, none⟩) x4_1.length co11)) (v1 := (.slice (some ⟨go15, 0, none⟩) x4_1.length co11)) (ok := (fun _ => True)) (by (with_reducible repeat (first | apply Kd.S_alloc | apply Kd.S_drewN | apply Kd.S_drew)); exact Kd.S_mono HO_3.out (fun _ hk => ⟨trivial, hk⟩)) hg (.inl rfl)); replace BK223 := Aside0.mk (blk_grown (kB_ BK223) hg (Kd.R_ne HO_4.out BK223.out (by decide))); replace HO_4 := Aside0.mk (hp_); replace HB := Aside0.mk ((by rw [hw]; exact below_set (HB.out) GB15.out : Below w.heap.size w w17)); clear hg hw hp_))
         (try simp only [← hl4_1])
         go_roundg k1
         case measure => have := HK1.out; omega
         case rel => exact ⟨(y230), (wrap64 (x18_1 + 1)), rg_, H', ⟨by have := HK1.out; omega⟩, ⟨by (try simp only [hl4_1]); (with_reducible repeat (first | apply Kd.S_alloc | apply Kd.S_drewN | apply Kd.S_drew)); exact Kd.S_mono HO_3.out (fun _ hk => hk.2)⟩, ⟨by (try simp only [hl4_1]); (with_reducible repeat (first | apply Kd.R_alloc | apply Kd.R_drewN | apply Kd.R_drew)); exact HO_4.out⟩, ⟨by (try simp only [hl4_1]); (with_reducible repeat (first | refine blk_drewN ?_ _ | refine blk_drew ?_ | refine blk_alloc ?_ _)); exact BK223.out⟩, ⟨hB_⟩⟩
        ·rw [if_neg c14] at H
         exact absurd H (by simp)
       ·rw [if_neg c13] at H
        exact absurd H (by simp)
      ·rw [if_neg c12] at H
       have c12b0 : decide (x18_1 < (y227.length : Int)) = false := decide_eq_false c12
       (try (have c12z0 := c12b0; simp only [hl4_1] at c12z0))
       clear c12
       have H' := Aside0.mk H
       clear H
       have hcz18_0 : wr.cell? ⟨gb223, 0, none⟩ = some (.slice A0 l0.length c0) := (blk_cell BK223.out 0).trans rfl
       have hfz18_0 := blk_frozen BK223.out 0
       go_wp2
       go_loopg [3, 27] k1 (fun kq v3 v27 w' => ∃ (x3_2 : List (List Int)) (x4_2 : List Int) (x27_2 : Int), v27 = .int .i64 x27_2 ∧ Aside0 (impl_groups.l1 kq x3_2 x4_2 (l0.length : Int) x27_2 l0 = some r) ∧ Aside0 (kq ≤ k1) ∧ Aside0 (Kd.S (Kd.slice 3 (Kd.int .i64)) 36 w' w.heap.size (fun k_ => some k_ ≠ ((.slice Ao11 x4_1.length co11) : Value).ownBlock) v3 x3_2) ∧ Aside0 (Kd.R (Kd.int .i64) 3 w' w.heap.size (fun _ => True) (.slice Ao11 x4_1.length co11) x4_2) ∧ Aside0 (w'.heap[gb223]? = some (.cells #[(.slice A0 l0.length c0)] 22 (0, 0))) ∧ Aside0 (Below w.heap.size w w'))
       case atStart => exact ⟨(y224), (x4_1), (0), rg_, H', ⟨Nat.le_refl _⟩, ⟨by (try simp only [hl4_1]); (with_reducible repeat (first | apply Kd.S_alloc | apply Kd.S_drewN | apply Kd.S_drew)); exact HO_3.out⟩, ⟨by (try simp only [hl4_1]); (with_reducible repeat (first | apply Kd.R_alloc | apply Kd.R_drewN | apply Kd.R_drew)); exact HO_4.out⟩, ⟨by (try simp only [hl4_1]); (with_reducible repeat (first | refine blk_drewN ?_ _ | refine blk_drew ?_ | refine blk_alloc ?_ _)); exact BK223.out⟩, ⟨hB_⟩⟩
       case round =>
        clear H'
        try clear c1
        try clear p1
        try clear q1
        try clear hx1
        try clear hf1
        try clear c2
        try clear c2b0
        try clear c2b1
        try clear p2
        try clear c3
        try clear c3b0
        try clear c3b1
        try clear p6
        try clear c12
        try clear c12b0
        try clear c13
        try clear c13b0
        try clear c14
        try clear c14b0
        try clear p15
        try clear q15
        try clear hx15
        try clear hf15
        try clear c18
        try clear hcz18_0
        try clear hfz18_0
        try clear hx15_0
        try clear p15
        try clear p2
        try clear q15
        obtain ⟨x3_2, x4_2, x27_2, rfl, HA, HK2, HO_3, HO_4, BK223, HB⟩ := hrel
        have hl4_2 := (Kd.R_reads' HO_4.out).1
        rw [hl4_2] at HO_4
        (try simp only [hl4_2])
        (try simp only [hl4_2] at BK223)
        (try simp only [hl4_2] at HO_3)
        cases gk with
        | zero => exact absurd HA.out (by simp [impl_groups.l1])
        | succ k2 =>
         have H := HA.out
         clear HA
         simp only [impl_groups.l1] at H
         by_cases c19 : x27_2 < (l0.length : Int)
         ·rw [if_pos c19] at H
          have c19b0 : decide (x27_2 < (l0.length : Int)) = true := decide_eq_true c19
          (try (have c19z0 := c19b0; simp only [hl4_1, hl4_2] at c19z0))
          clear c19
          by_cases c20 : 0 ≤ x27_2
          ·rw [if_pos c20] at H
           have c20b0 : decide (0 ≤ x27_2) = true := decide_eq_true c20
           clear c20
           by_cases c21 : x27_2 < (x4_2.length : Int)
           ·rw [if_pos c21] at H
            have c21b0 : decide (x27_2 < (x4_2.length : Int)) = true := decide_eq_true c21
            (try (have c21z0 := c21b0; simp only [hl4_1, hl4_2] at c21z0))
            clear c21
            by_cases c22 : (rd x4_2 x27_2) ≥ 0
            ·rw [if_pos c22] at H
             have c22b0 : decide (0 ≤ (rd x4_2 x27_2)) = true := decide_eq_true c22
             clear c22
             have H' := Aside0.mk H
             clear H
             have p231 : 0 ≤ (x27_2 : Int) := of_decide_eq_true as_
             have q231 : x27_2 < (x4_2.length : Int) := of_decide_eq_true as_
             obtain ⟨ad231, e231, hx231_0⟩ := Kd.at_int (Kd.R_reads' HO_4.out).2.2 x27_2 p231 q231
             cases e231
             replace p231 := eq_true p231
             replace q231 := eq_true q231
             go_wp2
             (try simp only [← hl4_2])
             go_roundg k2
             case measure => have := HK1.out; have := HK2.out; omega
             case rel => exact ⟨(x3_2), (x4_2), (wrap64 (x27_2 + 1)), rg_, H', ⟨by have := HK1.out; have := HK2.out; omega⟩, ⟨by (try simp only [hl4_1]); (try simp only [hl4_2]); (with_reducible repeat (first | apply Kd.S_alloc | apply Kd.S_drewN | apply Kd.S_drew)); exact HO_3.out⟩, ⟨by (try simp only [hl4_1]); (try simp only [hl4_2]); (with_reducible repeat (first | apply Kd.R_alloc | apply Kd.R_drewN | apply Kd.R_drew)); exact HO_4.out⟩, ⟨by (try simp only [hl4_1]); (try simp only [hl4_2]); (with_reducible repeat (first | refine blk_drewN ?_ _ | refine blk_drew ?_ | refine blk_alloc ?_ _)); exact BK223.out⟩, ⟨hB_⟩⟩
            ·rw [if_neg c22] at H
             have c22b0 : decide (0 ≤ (rd x4_2 x27_2)) = false := decide_eq_false c22
             clear c22
             obtain ⟨y232, hy232⟩ : ∃ y_ : List Int, y_ = (x4_2.set (x27_2 : Int).toNat (x3_2.length : Int)) := ⟨_, rfl⟩
             replace H : (impl_groups.l2 k2 x3_2 y232 (x3_2.length : Int) (l0.length : Int) x27_2 l0 (([x27_2] : List Int))) = some r := by first | (rw [hy232]; with_reducible exact H) | (have H2_ := (Option.bind_some _ _).symm.trans H; rw [hy232]; with_reducible exact H2_) | (have H2_ := (Option.bind_some _ _).symm.trans H; with_reducible exact H2_) | with_reducible exact H | (rw [hy232]; exact H) | exact H
             have Ny232 := Aside0.mk hy232
             clear hy232
             obtain ⟨y233, hy233⟩ : ∃ y_ : List Int, y_ = (([x27_2] : List Int)) := ⟨_, rfl⟩
             replace H : (impl_groups.l2 k2 x3_2 y232 (x3_2.length : Int) (l0.length : Int) x27_2 l0 y233) = some r := by first | (rw [hy233]; with_reducible exact H) | (have H2_ := (Option.bind_some _ _).symm.trans H; rw [hy233]; with_reducible exact H2_) | (have H2_ := (Option.bind_some _ _).symm.trans H; with_reducible exact H2_) | with_reducible exact H | (rw [hy233]; exact H) | exact H
             have Ny233 := Aside0.mk hy233
             clear hy233
             have H' := Aside0.mk H
             clear H
             have p231 : 0 ≤ (x27_2 : Int) := of_decide_eq_true as_
             have q231 : x27_2 < (x4_2.length : Int) := of_decide_eq_true as_
             obtain ⟨ad231, e231, hx231_0⟩ := Kd.at_int (Kd.R_reads' HO_4.out).2.2 x27_2 p231 q231
             cases e231
             replace p231 := eq_true p231
             replace q231 := eq_true q231
             obtain ⟨Ao24, co24, eo24⟩ := Kd.S_slice HO_3.out
             subst eo24
             have p23 : 0 ≤ (x27_2 : Int) := of_decide_eq_true as_
             have q23 : (x27_2 : Int) < ((x4_2.length : Int) : Int) := of_decide_eq_true as_
             obtain ⟨go23, co23, eo23, gb23, gl23, cl23, HG23⟩ := Kd.R_form HO_4.out (by omega)
             (first | cases eo23 | (injection eo23 with ea_ en_ ec_; (first | subst ea_ | (injection ea_ with ea_; subst ea_)); subst ec_; clear en_))
             have GB23 := Aside0.mk gb23
             have GG23 := Aside0.mk HG23
             clear gb23 gl23 HG23
             (first | simp only [add_plain] at hx231_0 | skip)
             obtain ⟨hx23_0, hf23_0⟩ := Kd.R_celln 0 HO_4.out (x27_2 : Int) p23 q23
             replace p23 := eq_true p23
             replace q23 := eq_true q23
             have HP25 := Kd.R_putg HO_4.out (x27_2 : Int) (x3_2.length : Int)
             go_wp2_with (first | ((with_reducible refine gate_store (t := 3) (p := 40) rfl ?_); refine store_event (t := 3) (p := 40) (v := ?vo_w26) (w1 := (wr.setCell ⟨go23, (x27_2 : Int).toNat, none⟩ (.int .i64 (x3_2.length : Int)))) ?hg ?ho ?hn ?hr ?_; (case ho => rfl); (case hg => rfl); (case hn => rfl); (case hr => first | (go_simp; done) | (go_simp; rfl)); intro w26 hw; have hg : wr.grownBy w26 (some go23) := (by rw [hw]; exact HP25.2); have hp_ : Kd.R (Kd.int .i64) 3 w26 w.heap.size (fun _ => True) (.slice (some ⟨go23, 0, none⟩) x4_2.length co11) y232 := (by rw [hw, Ny232.out]; exact HP25.1); clear HP25; replace HO_3 := Aside0.mk (Kd.S_after (v := (.slice (some ⟨go23, 0, none⟩) x4_2.length co11)) (v1 := (.slice (some ⟨go23, 0, none⟩) x4_2.length co11)) (ok := (fun _ => True)) (by (with_reducible repeat (first | apply Kd.S_alloc | apply Kd.S_drewN | apply Kd.S_drew)); exact Kd.S_mono HO_3.out (fun _ hk => ⟨trivial, hk⟩)) hg (.inl rfl)); replace BK223 := Aside0.mk (blk_grown (kB_ BK223) hg (Kd.R_ne HO_4.out BK223.out (by decide))); replace HO_4 := Aside0.mk (hp_); replace HB := Aside0.mk ((by rw [hw]; exact below_set (HB.out) GB23.out : Below w.heap.size w w26)); clear hg hw hp_) | ((with_reducible refine gate_dst (N := 42) rfl ?_); refine Kd.R_lit (Kd.int .i64) _ 3 ?hg (N := 42) ?hd (xs := ([x27_2] : List Int)) (inner := [.int .i64 x27_2]) (ok := fun _ => True) (okp := fun _ => True) ?hr ?hp (fun _ hk => hk) trivial (Below.refl _ _) (Nat.le_refl _) (by simp) ?_; (case hd => rfl); (case hg => rfl); (case hr => first | (go_simp; done) | (go_simp; rfl)); (case hp => exact (Reps.one (show Kd.M (Kd.int .i64) _ _ _ x27_2 [.int .i64 x27_2] from rfl) (Reps.none _ _))); intro v234 w27 ho28 hb hg_ hnew_; clear hg_ hnew_; (first | rw [← Ny233.out] at ho28 | (simp only [Int.reduceToNat] at ho28; rw [← Ny233.out] at ho28)); replace HO_3 := Aside0.mk (Kd.S_elder' (by (with_reducible repeat (first | apply Kd.S_alloc | apply Kd.S_drewN | apply Kd.S_drew)); exact HO_3.out) (Kd.R_base ho28) hb); have HO235 := Aside0.mk (Kd.R_lower (Kd.R_new' ho28 (Kd.R_lt (kR_ HO_4))) (below_size hB_)); replace HO_4 := Aside0.mk (Kd.R_elder' (kR_ HO_4) (Kd.R_base ho28) hb); replace BK223 := Aside0.mk (blk_below (kB_ BK223) hb); replace HB := Aside0.mk (below_step hB_ hb); clear hb ho28) | ((with_reducible refine gate_dst (N := 8) rfl ?_); refine bx_ 8 #[.slice none 0 0] 36 ?_; intro gb236 hg w29 hbox hb; replace HO_3 := Aside0.mk (Kd.S_below (Kd.S_elderB (by (with_reducible repeat (first | apply Kd.S_alloc | apply Kd.S_drewN | apply Kd.S_drew)); exact HO_3.out) gb236 (Nat.le_of_eq hg.symm)) hb); replace HO_4 := Aside0.mk (Kd.R_below (kR_ HO_4) hb); replace HO235 := Aside0.mk (Kd.R_below (kR_ HO235) hb); have BK236 := Aside0.mk (hbox); have GW236 := Aside0.mk ((ge_ hg)); have GE236 := Aside0.mk ((ge_ hg)); replace HB := Aside0.mk (below_step hB_ hb); have NB223_236 := Aside0.mk ((ne_ hg BK223)); have NB236_223 := Aside0.mk ((nf_ hg BK223)); replace BK223 := Aside0.mk (blk_below (kB_ BK223) hb); clear hb hbox hg; obtain ⟨Ao30, co30, eo30⟩ := Kd.R_slice HO235.out; subst eo30; have hnb31 := NB236_223.out; have hnc31 := NB223_236.out; have hcz32_0 : w29.cell? ⟨gb236, 0, none⟩ = some (.slice none 0 0) := (blk_cell BK236.out 0).trans rfl; have hfz32_0 := blk_frozen BK236.out 0))
             go_loopg [8] k2 (fun kq v8 w' => ∃ (gb236 : Nat) (x4_3 : List Int) (x237000_3 : List Int) (u237000 : Value), v8 = .pointer (some ⟨gb236, 0, none⟩) ∧ Aside0 (impl_groups.l2 kq x3_2 x4_3 (x3_2.length : Int) (l0.length : Int) x27_2 l0 x237000_3 = some r) ∧ Aside0 (kq ≤ k2) ∧ Aside0 (Kd.S (Kd.slice 3 (Kd.int .i64)) 36 w' w.heap.size (fun k_ => some k_ ≠ ((.slice (some ⟨go23, 0, none⟩) x4_2.length co11) : Value).ownBlock ∧ some k_ ≠ (u237000 : Value).ownBlock ∧ k_ ≠ gb236) (.slice Ao24 x3_2.length co24) x3_2) ∧ Aside0 (Kd.R (Kd.int .i64) 3 w' w.heap.size (fun k_ => some k_ ≠ (u237000 : Value).ownBlock) (.slice (some ⟨go23, 0, none⟩) x4_2.length co11) x4_3) ∧ Aside0 (Kd.Q (Kd.int .i64) 3 w' w.heap.size (fun k_ => some k_ ≠ ((.slice (some ⟨go23, 0, none⟩) x4_2.length co11) : Value).ownBlock) u237000 x237000_3) ∧ Aside0 (w'.heap[gb223]? = some (.cells #[(.slice A0 l0.length c0)] 22 (0, 0))) ∧ Aside0 (w'.heap[gb236]? = some (.cells #[u237000] 36 (0, 0))) ∧ Aside0 (w.heap.size ≤ gb236) ∧ Aside0 (w.heap.size ≤ gb236) ∧ Aside0 (gb236 ≠ gb223) ∧ Aside0 (gb223 ≠ gb236) ∧ Aside0 (Below w.heap.size w w'))
             case atStart => exact ⟨gb236, (y232), (y233), (.slice Ao30 y233.length co30), rfl, H', ⟨Nat.le_refl _⟩, ⟨by (try simp only [hl4_1]); (try simp only [hl4_2]); (with_reducible repeat (first | apply Kd.S_alloc | apply Kd.S_drewN | apply Kd.S_drew)); exact Kd.S_mono (Kd.S_far (p := ⟨gb236, 0, none⟩) (Kd.S_mono HO_3.out (fun k_ hk => (⟨hk, hk.2⟩ : _ ∧ k_ ≠ gb236))) (fun _ hk => hk.2) (.slice Ao30 y233.length co30)) (fun _ hk => ⟨hk.1.1.1.2, ⟨hk.1.1.2, hk.1.2⟩⟩)⟩, ⟨by (try simp only [hl4_1]); (try simp only [hl4_2]); (with_reducible repeat (first | apply Kd.R_alloc | apply Kd.R_drewN | apply Kd.R_drew)); exact Kd.R_mono (Kd.R_far (p := ⟨gb236, 0, none⟩) (Kd.R_types HO_4.out BK236.out (by decide)) (fun _ hk => hk.2) (.slice Ao30 y233.length co30)) (fun _ hk => hk.1.2)⟩, ⟨Kd.Q_of_R (by (try simp only [hl4_1]); (try simp only [hl4_2]); (with_reducible repeat (first | apply Kd.R_alloc | apply Kd.R_drewN | apply Kd.R_drew)); exact Kd.R_mono (Kd.R_far (p := ⟨gb236, 0, none⟩) (Kd.R_types HO235.out BK236.out (by decide)) (fun _ hk => hk.2) (.slice Ao30 y233.length co30)) (fun _ hk => hk.1.2))⟩, ⟨by (try simp only [hl4_1]); (try simp only [hl4_2]); (with_reducible repeat (first | refine blk_drewN ?_ _ | refine blk_drew ?_ | refine blk_alloc ?_ _)); refine blk_far ?_ NB223_236.out _; (with_reducible repeat (first | refine blk_drewN ?_ _ | refine blk_drew ?_ | refine blk_alloc ?_ _)); exact BK223.out⟩, ⟨by (try simp only [hl4_1]); (try simp only [hl4_2]); (with_reducible repeat (first | refine blk_drewN ?_ _ | refine blk_drew ?_ | refine blk_alloc ?_ _)); refine blk_put (cs := #[.slice none 0 0]) ?_ 0 _ rfl; (with_reducible repeat (first | refine blk_drewN ?_ _ | refine blk_drew ?_ | refine blk_alloc ?_ _)); exact BK236.out⟩, ⟨GE236.out⟩, ⟨GW236.out⟩, ⟨NB236_223.out⟩, ⟨NB223_236.out⟩, ⟨hB_⟩⟩
             case round =>
              clear H'
              try clear c1
              try clear p1
              try clear q1
              try clear hx1
              try clear hf1
              try clear c2
              try clear c2b0
              try clear c2b1
              try clear p2
              try clear q2
              try clear hx2
              try clear hf2
              try clear c3
              try clear c3b0
              try clear c3b1
              try clear p6
              try clear c12
              try clear c12b0
              try clear c13
              try clear c13b0
              try clear c14
              try clear c14b0
              try clear p15
              try clear q15
              try clear hx15
              try clear hf15
              try clear c18
              try clear c19
              try clear c19b0
              try clear c20
              try clear c20b0
              try clear c21
              try clear c21b0
              try clear c22
              try clear c22b0
              try clear p23
              try clear q23
              try clear hx23
              try clear hf23
              try clear c31
              try clear hcz18_0
              try clear hcz32_0
              try clear hfz18_0
              try clear hfz32_0
              try clear hx15_0
              try clear hx231_0
              try clear hx23_0
              try clear p1
              try clear p15
              try clear p2
              try clear p23
              try clear p231
              try clear p6
              try clear q1
              try clear q15
              try clear q23
              try clear q231
              obtain ⟨gb236, x4_3, x237000_3, u237000, rfl, HA, HK3, HO_3, HO_4, HO_237000, BK223, BK236, GE236, GW236, NB236_223, NB223_236, HB⟩ := hrel
              have hl4_3 := (Kd.R_reads' HO_4.out).1
              rw [hl4_3] at HO_4
              (try simp only [hl4_3])
              (try simp only [hl4_3] at BK223)
              (try simp only [hl4_3] at BK236)
              (try simp only [hl4_3] at HO_3)
              (try simp only [hl4_3] at HO_237000)
              cases gk with
              | zero => exact absurd HA.out (by simp [impl_groups.l2])
              | succ k3 =>
               have H := HA.out
               clear HA
               simp only [impl_groups.l2] at H
               by_cases c33 : (x237000_3.length : Int) > 0
               ·rw [if_pos c33] at H
                have c33b0 : decide (0 < (x237000_3.length : Int)) = true := decide_eq_true c33
                have c33b1 : decide (0 < x237000_3.length) = true := decide_eq_true (by omega)
                (try (have c33z0 := c33b0; simp only [hl4_1, hl4_2, hl4_3] at c33z0))
                (try (have c33z1 := c33b1; simp only [hl4_1, hl4_2, hl4_3] at c33z1))
                clear c33
                have H' := Aside0.mk H
                clear H
                have hnb34 := NB236_223.out
                have hnc34 := NB223_236.out
                have hcz35_0 : wr.cell? ⟨gb236, 0, none⟩ = some (u237000) := (blk_cell BK236.out 0).trans rfl
                have hfz35_0 := blk_frozen BK236.out 0
                obtain ⟨Ao36, co36, eo36, _⟩ := Kd.Q_slice HO_237000.out
                subst eo36
                have hcz37_0 : wr.cell? ⟨gb223, 0, none⟩ = some (.slice A0 l0.length c0) := (blk_cell BK223.out 0).trans rfl
                have hfz37_0 := blk_frozen BK223.out 0
                go_wp2
                go_loopg [50] k3 (fun kq v50 w' => ∃ (x4_4 : List Int) (x50_4 : Int) (x237000_4 : List Int) (u237000 : Value), v50 = .int .i64 x50_4 ∧ Aside0 (impl_groups.l3 kq x3_2 x4_4 (x3_2.length : Int) (l0.length : Int) x27_2 (l0.length : Int) x50_4 l0 x237000_4 = some r) ∧ Aside0 (kq ≤ k3) ∧ Aside0 (Kd.S (Kd.slice 3 (Kd.int .i64)) 36 w' w.heap.size (fun k_ => some k_ ≠ ((.slice (some ⟨go23, 0, none⟩) x4_3.length co11) : Value).ownBlock ∧ some k_ ≠ (u237000 : Value).ownBlock ∧ k_ ≠ gb236) (.slice Ao24 x3_2.length co24) x3_2) ∧ Aside0 (Kd.R (Kd.int .i64) 3 w' w.heap.size (fun k_ => some k_ ≠ (u237000 : Value).ownBlock) (.slice (some ⟨go23, 0, none⟩) x4_3.length co11) x4_4) ∧ Aside0 (Kd.Q (Kd.int .i64) 3 w' w.heap.size (fun k_ => some k_ ≠ ((.slice (some ⟨go23, 0, none⟩) x4_3.length co11) : Value).ownBlock) u237000 x237000_4) ∧ Aside0 (w'.heap[gb223]? = some (.cells #[(.slice A0 l0.length c0)] 22 (0, 0))) ∧ Aside0 (w'.heap[gb236]? = some (.cells #[u237000] 36 (0, 0))) ∧ Aside0 (Below w.heap.size w w'))
                case atStart => exact ⟨(x4_3), (0), (x237000_3), (.slice Ao36 x237000_3.length co36), rg_, H', ⟨Nat.le_refl _⟩, ⟨by (try simp only [hl4_1]); (try simp only [hl4_2]); (try simp only [hl4_3]); (with_reducible repeat (first | apply Kd.S_alloc | apply Kd.S_drewN | apply Kd.S_drew)); exact HO_3.out⟩, ⟨by (try simp only [hl4_1]); (try simp only [hl4_2]); (try simp only [hl4_3]); (with_reducible repeat (first | apply Kd.R_alloc | apply Kd.R_drewN | apply Kd.R_drew)); exact HO_4.out⟩, ⟨by (try simp only [hl4_1]); (try simp only [hl4_2]); (try simp only [hl4_3]); (with_reducible repeat (first | apply Kd.Q_alloc | apply Kd.Q_drewN | apply Kd.Q_drew)); exact HO_237000.out⟩, ⟨by (try simp only [hl4_1]); (try simp only [hl4_2]); (try simp only [hl4_3]); (with_reducible repeat (first | refine blk_drewN ?_ _ | refine blk_drew ?_ | refine blk_alloc ?_ _)); exact BK223.out⟩, ⟨by (try simp only [hl4_1]); (try simp only [hl4_2]); (try simp only [hl4_3]); (with_reducible repeat (first | refine blk_drewN ?_ _ | refine blk_drew ?_ | refine blk_alloc ?_ _)); exact BK236.out⟩, ⟨hB_⟩⟩
                case round =>
                 clear H'
                 try clear c1
                 try clear p1
                 try clear q1
                 try clear hx1
                 try clear hf1
                 try clear c2
                 try clear c2b0
                 try clear c2b1
                 try clear p2
                 try clear q2
                 try clear hx2
                 try clear hf2
                 try clear c3
                 try clear c3b0
                 try clear c3b1
                 try clear p6
                 try clear c12
                 try clear c12b0
                 try clear c13
                 try clear c13b0
                 try clear c14
                 try clear c14b0
                 try clear p15
                 try clear q15
                 try clear hx15
                 try clear hf15
                 try clear c18
                 try clear c19
                 try clear c19b0
                 try clear c20
                 try clear c20b0
                 try clear c21
                 try clear c21b0
                 try clear c22
                 try clear c22b0
                 try clear p23
                 try clear q23
                 try clear hx23
                 try clear hf23
                 try clear c31
                 try clear c33
                 try clear c33b0
                 try clear c33b1
                 try clear c34
                 try clear hcz18_0
                 try clear hcz32_0
                 try clear hcz35_0
                 try clear hcz37_0
                 try clear hfz18_0
                 try clear hfz32_0
                 try clear hfz35_0
                 try clear hfz37_0
                 try clear hx15_0
                 try clear hx231_0
                 try clear hx23_0
                 try clear p1
                 try clear p15
                 try clear p2
                 try clear p23
                 try clear p231
                 try clear p6
                 try clear q1
                 try clear q15
                 try clear q2
                 try clear q23
                 try clear q231
                 obtain ⟨x4_4, x50_4, x237000_4, u237000, rfl, HA, HK4, HO_3, HO_4, HO_237000, BK223, BK236, HB⟩ := hrel
                 have hl4_4 := (Kd.R_reads' HO_4.out).1
                 rw [hl4_4] at HO_4
                 (try simp only [hl4_4])
                 (try simp only [hl4_4] at BK223)
                 (try simp only [hl4_4] at BK236)
                 (try simp only [hl4_4] at HO_3)
                 (try simp only [hl4_4] at HO_237000)
                 cases gk with
                 | zero => exact absurd HA.out (by simp [impl_groups.l3])
                 | succ k4 =>
                  have H := HA.out
                  clear HA
                  simp only [impl_groups.l3] at H
                  by_cases c38 : x50_4 < (l0.length : Int)
                  ·rw [if_pos c38] at H
                   have c38b0 : decide (x50_4 < (l0.length : Int)) = true := decide_eq_true c38
                   (try (have c38z0 := c38b0; simp only [hl4_1, hl4_2, hl4_3, hl4_4] at c38z0))
                   clear c38
                   by_cases c39 : 0 ≤ x50_4
                   ·rw [if_pos c39] at H
                    have c39b0 : decide (0 ≤ x50_4) = true := decide_eq_true c39
                    clear c39
                    by_cases c40 : x50_4 < (x4_4.length : Int)
                    ·rw [if_pos c40] at H
                     have c40b0 : decide (x50_4 < (x4_4.length : Int)) = true := decide_eq_true c40
                     (try (have c40z0 := c40b0; simp only [hl4_1, hl4_2, hl4_3, hl4_4] at c40z0))
                     clear c40
                     by_cases c41 : (rd x4_4 x50_4) < 0
                     ·rw [if_pos c41] at H
                      have c41b0 : decide ((rd x4_4 x50_4) < 0) = true := decide_eq_true c41
                      clear c41
                      by_cases c42 : x50_4 < (l0.length : Int)
                      ·rw [if_pos c42] at H
                       have c42b0 : decide (x50_4 < (l0.length : Int)) = true := decide_eq_true c42
                       (try (have c42z0 := c42b0; simp only [hl4_1, hl4_2, hl4_3, hl4_4] at c42z0))
                       clear c42
                       replace H := Option.bind_eq_some_iff.mp H
                       obtain ⟨t242, A430, H⟩ := H
                       replace H : (if t242 = true then (if x237000_4.length < 17592186044416 then (impl_groups.l3 k4 x3_2 (x4_4.set (x50_4 : Int).toNat (x3_2.length : Int)) (x3_2.length : Int) (l0.length : Int) x27_2 (l0.length : Int) (wrap64 (x50_4 + 1)) l0 (x237000_4 ++ [x50_4])) else (none)) else (impl_groups.l3 k4 x3_2 x4_4 (x3_2.length : Int) (l0.length : Int) x27_2 (l0.length : Int) (wrap64 (x50_4 + 1)) l0 x237000_4)) = some r := H
                       have A43 := Aside0.mk A430
                       clear A430
                       by_cases c44 : t242 = true
                       ·subst c44
                        have H1 : (if x237000_4.length < 17592186044416 then (impl_groups.l3 k4 x3_2 (x4_4.set (x50_4 : Int).toNat (x3_2.length : Int)) (x3_2.length : Int) (l0.length : Int) x27_2 (l0.length : Int) (wrap64 (x50_4 + 1)) l0 (x237000_4 ++ [x50_4])) else (none)) = some r := by rw [if_pos rfl] at H; exact H
                        clear H
                        have H := H1
                        clear H1
                        obtain ⟨y243, hy243⟩ : ∃ y_ : List Int, y_ = (x4_4.set (x50_4 : Int).toNat (x3_2.length : Int)) := ⟨_, rfl⟩
                        replace H : (if x237000_4.length < 17592186044416 then (impl_groups.l3 k4 x3_2 y243 (x3_2.length : Int) (l0.length : Int) x27_2 (l0.length : Int) (wrap64 (x50_4 + 1)) l0 (x237000_4 ++ [x50_4])) else (none)) = some r := by first | (rw [hy243]; with_reducible exact H) | (have H2_ := (Option.bind_some _ _).symm.trans H; rw [hy243]; with_reducible exact H2_) | (have H2_ := (Option.bind_some _ _).symm.trans H; with_reducible exact H2_) | with_reducible exact H | (rw [hy243]; exact H) | exact H
                        have Ny243 := Aside0.mk hy243
                        clear hy243
                        by_cases c46 : x237000_4.length < 17592186044416
                        ·rw [if_pos c46] at H
                         have LMc46 := Aside0.mk c46
                         clear c46
                         obtain ⟨y244, hy244⟩ : ∃ y_ : List Int, y_ = (x237000_4 ++ [x50_4]) := ⟨_, rfl⟩
                         replace H : (impl_groups.l3 k4 x3_2 y243 (x3_2.length : Int) (l0.length : Int) x27_2 (l0.length : Int) (wrap64 (x50_4 + 1)) l0 y244) = some r := by first | (rw [hy244]; with_reducible exact H) | (have H2_ := (Option.bind_some _ _).symm.trans H; rw [hy244]; with_reducible exact H2_) | (have H2_ := (Option.bind_some _ _).symm.trans H; with_reducible exact H2_) | with_reducible exact H | (rw [hy244]; exact H) | exact H
                         have Ny244 := Aside0.mk hy244
                         clear hy244
                         have H' := Aside0.mk H
                         clear H
                         have p240 : 0 ≤ (x50_4 : Int) := of_decide_eq_true as_
                         have q240 : x50_4 < (x4_4.length : Int) := of_decide_eq_true as_
                         obtain ⟨ad240, e240, hx240_0⟩ := Kd.at_int (Kd.R_reads' HO_4.out).2.2 x50_4 p240 q240
                         obtain rfl : (⟨go23, 0, none⟩ : Addr) = ad240 := (by injection e240)
                         (first | simp only [add_plain] at hx240_0 | simp only [add_at] at hx240_0 | simp only [Addr.add, Nat.zero_add] at hx240_0 | skip)
                         replace p240 := eq_true p240
                         replace q240 := eq_true q240
                         have hnb47 := NB223_236.out
                         have hnc47 := NB236_223.out
                         have hcz48_0 : wr.cell? ⟨gb223, 0, none⟩ = some (.slice A0 l0.length c0) := (blk_cell BK223.out 0).trans rfl
                         have hfz48_0 := blk_frozen BK223.out 0
                         have p241 : 0 ≤ (x50_4 : Int) := of_decide_eq_true as_
                         have q241 : x50_4 < (l0.length : Int) := of_decide_eq_true as_
                         obtain ⟨ad241, A241_0, c241_0, e241, hx241_0, hl241_0, hi241_0⟩ := at_L1 HR0.out x50_4 p241 q241
                         cases e241
                         replace hx241_0 := (HB.out.cell (World.block_lt_of_cell? w _ hx241_0)).trans hx241_0
                         have HR241_0 := Aside0.mk hi241_0
                         have HC241_0 := Aside0.mk hl241_0
                         clear hi241_0 hl241_0
                         replace p241 := eq_true p241
                         replace q241 := eq_true q241
                         obtain ⟨Ao49, co49, eo49, _⟩ := Kd.Q_slice HO_237000.out
                         subst eo49
                         go_wp2_with (first | (go_at_call 33; (with_reducible refine (slices_ContainsFunc_int_int_at_impl_groups_1.calls k4 _ _ (rd_L1 l0 x50_4) gb223 (some ad241) c0 l0 gb236 Ao49 co49 x237000_4 true _ ?side1 ?side2 ?side3 ?side4 ?side5 ?side6 ?side7 ?side8 A43.out).mono ?_); (case side1 => exact kC_ HR241_0); (case side2 => exact HC241_0.out); (case side3 => exact kC_ HR0); (case side4 => exact HC0.out); (case side5 => repeat (first | exact (Kd.Q_reads' HO_237000.out).2.2 | (with_reducible refine Kd.C_alloc ?_ _) | (with_reducible refine Kd.C_drewN ?_ _) | (with_reducible refine Kd.C_drew ?_))); (case side6 => exact (Kd.Q_reads' HO_237000.out).2.1); (case side7 => exact (kB_ BK223)); (case side8 => exact (kB_ BK236)); rintro e w' ⟨rfl, ⟨nd, rfl⟩⟩; (try (rw [drewN_self wr]; generalize hq_ : World.drewN wr _ = wr; have n0_ : Aside0 (Kd.Q (Kd.int .i64) 3 wr w.heap.size (fun k_ => some k_ ≠ (.slice (some ⟨go23, 0, none⟩) x4_4.length co11 : Value).ownBlock) (.slice Ao49 x237000_4.length co49) x237000_4) := ⟨by rw [← hq_]; exact (by (with_reducible repeat (first | apply Kd.Q_alloc | apply Kd.Q_drewN | apply Kd.Q_drew)); exact HO_237000.out)⟩; have n1_ : Aside0 (Kd.S (Kd.slice 3 (Kd.int .i64)) 36 wr w.heap.size (fun k_ => (some k_ ≠ (.slice (some ⟨go23, 0, none⟩) x4_4.length co11 : Value).ownBlock ∧ (some k_ ≠ (.slice Ao49 x237000_4.length co49 : Value).ownBlock ∧ k_ ≠ gb236))) (.slice Ao24 x3_2.length co24) x3_2) := ⟨by rw [← hq_]; exact (by (with_reducible repeat (first | apply Kd.S_alloc | apply Kd.S_drewN | apply Kd.S_drew)); exact HO_3.out)⟩; have n2_ : Aside0 (Kd.R (Kd.int .i64) 3 wr w.heap.size (fun k_ => some k_ ≠ (.slice Ao49 x237000_4.length co49 : Value).ownBlock) (.slice (some ⟨go23, 0, none⟩) x4_4.length co11) x4_4) := ⟨by rw [← hq_]; exact (kR_ HO_4)⟩; have n3_ : Aside0 (wr.heap[gb223]? = some (.cells #[.slice (some ad241) l0.length c0] 22 (0, 0))) := ⟨by rw [← hq_]; exact (kB_ BK223)⟩; have n4_ : Aside0 (wr.heap[gb236]? = some (.cells #[.slice Ao49 x237000_4.length co49] 36 (0, 0))) := ⟨by rw [← hq_]; exact (kB_ BK236)⟩; have n5_ : Aside0 (Below w.heap.size w wr) := ⟨by rw [← hq_]; exact hB_⟩; clear HO_237000 HO_3 HO_4 BK223 BK236 HB hq_; have HO_237000 := n0_; have HO_3 := n1_; have HO_4 := n2_; have BK223 := n3_; have BK236 := n4_; have HB := n5_; clear n0_ n1_ n2_ n3_ n4_ n5_)); have p45 : 0 ≤ (x50_4 : Int) := of_decide_eq_true as_; have q45 : (x50_4 : Int) < ((x4_4.length : Int) : Int) := of_decide_eq_true as_; obtain ⟨hx45_0, hf45_0⟩ := Kd.R_celln 0 HO_4.out (x50_4 : Int) p45 q45; replace p45 := eq_true p45; replace q45 := eq_true q45; obtain ⟨hy50_, hz50_⟩ := Kd.R_celln 0 HO_4.out (x50_4 : Int) (of_decide_eq_true as_) (of_decide_eq_true as_); have HP50 := Kd.R_putg HO_4.out (x50_4 : Int) (x3_2.length : Int)) | ((with_reducible refine gate_store (t := 3) (p := 69) rfl ?_); refine store_event (t := 3) (p := 69) (v := ?vo_w51) (w1 := (wr.setCell ⟨go23, (x50_4 : Int).toNat, none⟩ (.int .i64 (x3_2.length : Int)))) ?hg ?ho ?hn ?hr ?_; (case ho => rfl); (case hg => rfl); (case hn => rfl); (case hr => first | (go_simp; done) | (go_simp; rfl)); intro w51 hw; have hg : wr.grownBy w51 (some go23) := (by rw [hw]; exact HP50.2); have hp_ : Kd.R (Kd.int .i64) 3 w51 w.heap.size (fun k_ => some k_ ≠ (.slice Ao49 x237000_4.length co49 : Value).ownBlock) (.slice (some ⟨go23, 0, none⟩) x4_4.length co11) y243 := (by rw [hw, Ny243.out]; exact HP50.1); clear HP50; replace HO_3 := Aside0.mk (Kd.S_after (v := (.slice (some ⟨go23, 0, none⟩) x4_4.length co11)) (v1 := (.slice (some ⟨go23, 0, none⟩) x4_4.length co11)) (ok := (fun k_ => some k_ ≠ (.slice Ao49 x237000_4.length co49 : Value).ownBlock ∧ k_ ≠ gb236)) (by (with_reducible repeat (first | apply Kd.S_alloc | apply Kd.S_drewN | apply Kd.S_drew)); exact Kd.S_mono HO_3.out (fun _ hk => ⟨⟨hk.2.1, hk.2.2⟩, hk.1⟩)) hg (.inl rfl)); replace HO_237000 := Aside0.mk (Kd.Q_after (v := (.slice (some ⟨go23, 0, none⟩) x4_4.length co11)) (v1 := (.slice (some ⟨go23, 0, none⟩) x4_4.length co11)) (ok := (fun _ => True)) (by (with_reducible repeat (first | apply Kd.Q_alloc | apply Kd.Q_drewN | apply Kd.Q_drew)); exact Kd.Q_mono HO_237000.out (fun _ hk => ⟨trivial, hk⟩)) hg (.inl rfl)); replace BK223 := Aside0.mk (blk_grown (kB_ BK223) hg (Kd.R_ne HO_4.out BK223.out (by decide))); replace BK236 := Aside0.mk (blk_grown (kB_ BK236) hg (Kd.R_ne HO_4.out BK236.out (by decide))); replace HO_4 := Aside0.mk (hp_); replace HB := Aside0.mk ((by rw [hw]; exact below_set (HB.out) GB23.out : Below w.heap.size w w51)); clear hg hw hp_; have hcz52_0 : w51.cell? ⟨gb236, 0, none⟩ = some (.slice Ao49 x237000_4.length co49) := (blk_cell BK236.out 0).trans rfl; have hfz52_0 := blk_frozen BK236.out 0) | ((with_reducible refine gate_builtin (b := .append) (xs := #[.tmp 70, .tmp 72]) rfl ?_); at_builtin; refine Kd.Q_append (Kd.int .i64) (w0 := w) w.heap.size rfl (.tmp 70) (.tmp 72) 36 3 (.int .i64 0) 8 rfl Try.underlying36 info3 rfl (by decide) (by omega) (.slice Ao49 x237000_4.length co49) x237000_4 x50_4 [.int .i64 x50_4] (fun k_ => some k_ ≠ (.slice (some ⟨go23, 0, none⟩) x4_4.length co11 : Value).ownBlock) (fun _ => False) rfl rfl ?aP (fun _ hk => hk.elim) ?aF ?aO ?aB ?aS ?aL ?_; (case aP => exact rfl); (case aB => exact hB_); (case aF => exact (fun k_ hk => Kd.fresh' (Kd.R_lt (kR_ HO_4)) k_ hk)); (case aO => exact (by (with_reducible repeat (first | apply Kd.Q_alloc | apply Kd.Q_drewN | apply Kd.Q_drew)); exact Kd.Q_mono HO_237000.out (fun _ hk => hk.2))); (case aS => exact (below_size hB_)); (case aL => have := LMc46.out; omega); intro v245 w53 ho hb hg hat; rw [← Ny244.out] at ho; have n0_ := Aside0.mk (Kd.S_after (ok := (fun k_ => some k_ ≠ (.slice (some ⟨go23, 0, none⟩) x4_4.length co11 : Value).ownBlock ∧ k_ ≠ gb236)) (by (with_reducible repeat (first | apply Kd.S_alloc | apply Kd.S_drewN | apply Kd.S_drew)); exact Kd.S_mono HO_3.out (fun _ hk => ⟨⟨hk.2, hk.1.2⟩, hk.1.1⟩)) hg hat); have n1_ := Aside0.mk (Kd.R_after (ok := (fun _ => True)) (by (with_reducible repeat (first | apply Kd.R_alloc | apply Kd.R_drewN | apply Kd.R_drew)); exact Kd.R_mono HO_4.out (fun _ hk => ⟨trivial, hk⟩)) hg hat); have n2_ := Aside0.mk (blk_grown (kB_ BK223) hg (Kd.Q_ne HO_237000.out BK223.out (by decide))); have n3_ := Aside0.mk (blk_grown (kB_ BK236) hg (Kd.Q_ne HO_237000.out BK236.out (by decide))); have n4_ := Aside0.mk (hb); have n5_ := Aside0.mk (ho); clear HO_3; clear HO_4; clear BK223; clear BK236; clear HB; clear HO_237000; have HO_3 := n0_; have HO_4 := n1_; have BK223 := n2_; have BK236 := n3_; have HB := n4_; have HO246 := n5_; clear n0_ n1_ n2_ n3_ n4_ n5_; clear ho hb hg hat; obtain ⟨Ao54, co54, eo54, _⟩ := Kd.Q_slice HO246.out; subst eo54; have hcz55_0 : w53.cell? ⟨gb236, 0, none⟩ = some (.slice Ao49 x237000_4.length co49) := (blk_cell BK236.out 0).trans rfl; have hfz55_0 := blk_frozen BK236.out 0))
                         (try simp only [← hl4_4])
                         go_roundg k4
                         case measure => have := HK1.out; have := HK2.out; have := HK3.out; have := HK4.out; omega
                         case rel => exact ⟨(y243), (wrap64 (x50_4 + 1)), (y244), (.slice Ao54 y244.length co54), rg_, H', ⟨by have := HK1.out; have := HK2.out; have := HK3.out; have := HK4.out; omega⟩, ⟨by (try simp only [hl4_1]); (try simp only [hl4_2]); (try simp only [hl4_3]); (try simp only [hl4_4]); (with_reducible repeat (first | apply Kd.S_alloc | apply Kd.S_drewN | apply Kd.S_drew)); exact Kd.S_mono (Kd.S_far (p := ⟨gb236, 0, none⟩) (Kd.S_mono HO_3.out (fun k_ hk => (⟨hk, hk.1.2⟩ : _ ∧ k_ ≠ gb236))) (fun _ hk => hk.2) (.slice Ao54 y244.length co54)) (fun _ hk => ⟨hk.1.1.1, ⟨hk.1.2, hk.1.1.2⟩⟩)⟩, ⟨by (try simp only [hl4_1]); (try simp only [hl4_2]); (try simp only [hl4_3]); (try simp only [hl4_4]); (with_reducible repeat (first | apply Kd.R_alloc | apply Kd.R_drewN | apply Kd.R_drew)); exact Kd.R_mono (Kd.R_far (p := ⟨gb236, 0, none⟩) (Kd.R_types HO_4.out BK236.out (by decide)) (fun _ hk => hk.2) (.slice Ao54 y244.length co54)) (fun _ hk => hk.1.2)⟩, ⟨by (try simp only [hl4_1]); (try simp only [hl4_2]); (try simp only [hl4_3]); (try simp only [hl4_4]); (with_reducible repeat (first | apply Kd.Q_alloc | apply Kd.Q_drewN | apply Kd.Q_drew)); exact Kd.Q_mono (Kd.Q_far (p := ⟨gb236, 0, none⟩) (Kd.Q_types HO246.out BK236.out (by decide)) (fun _ hk => hk.2) (.slice Ao54 y244.length co54)) (fun _ hk => hk.1)⟩, ⟨by (try simp only [hl4_1]); (try simp only [hl4_2]); (try simp only [hl4_3]); (try simp only [hl4_4]); (with_reducible repeat (first | refine blk_drewN ?_ _ | refine blk_drew ?_ | refine blk_alloc ?_ _)); refine blk_far ?_ NB223_236.out _; (with_reducible repeat (first | refine blk_drewN ?_ _ | refine blk_drew ?_ | refine blk_alloc ?_ _)); exact BK223.out⟩, ⟨by (try simp only [hl4_1]); (try simp only [hl4_2]); (try simp only [hl4_3]); (try simp only [hl4_4]); (with_reducible repeat (first | refine blk_drewN ?_ _ | refine blk_drew ?_ | refine blk_alloc ?_ _)); refine blk_put (cs := #[.slice Ao49 x237000_4.length co49]) ?_ 0 _ rfl; (with_reducible repeat (first | refine blk_drewN ?_ _ | refine blk_drew ?_ | refine blk_alloc ?_ _)); exact BK236.out⟩, ⟨hB_⟩⟩
                        ·rw [if_neg c46] at H
                         exact absurd H (by simp)
                       ·replace c44 := Bool.eq_false_iff.mpr c44
                        subst c44
                        have H1 : (impl_groups.l3 k4 x3_2 x4_4 (x3_2.length : Int) (l0.length : Int) x27_2 (l0.length : Int) (wrap64 (x50_4 + 1)) l0 x237000_4) = some r := by rw [if_neg (show ¬ (false = true) by decide)] at H; exact H
                        clear H
                        have H := H1
                        clear H1
                        have H' := Aside0.mk H
                        clear H
                        have p240 : 0 ≤ (x50_4 : Int) := of_decide_eq_true as_
                        have q240 : x50_4 < (x4_4.length : Int) := of_decide_eq_true as_
                        obtain ⟨ad240, e240, hx240_0⟩ := Kd.at_int (Kd.R_reads' HO_4.out).2.2 x50_4 p240 q240
                        obtain rfl : (⟨go23, 0, none⟩ : Addr) = ad240 := (by injection e240)
                        (first | simp only [add_plain] at hx240_0 | simp only [add_at] at hx240_0 | simp only [Addr.add, Nat.zero_add] at hx240_0 | skip)
                        replace p240 := eq_true p240
                        replace q240 := eq_true q240
                        have hnb56 := NB223_236.out
                        have hnc56 := NB236_223.out
                        have hcz57_0 : wr.cell? ⟨gb223, 0, none⟩ = some (.slice A0 l0.length c0) := (blk_cell BK223.out 0).trans rfl
                        have hfz57_0 := blk_frozen BK223.out 0
                        have p241 : 0 ≤ (x50_4 : Int) := of_decide_eq_true as_
                        have q241 : x50_4 < (l0.length : Int) := of_decide_eq_true as_
                        obtain ⟨ad241, A241_0, c241_0, e241, hx241_0, hl241_0, hi241_0⟩ := at_L1 HR0.out x50_4 p241 q241
                        cases e241
                        replace hx241_0 := (HB.out.cell (World.block_lt_of_cell? w _ hx241_0)).trans hx241_0
                        have HR241_0 := Aside0.mk hi241_0
                        have HC241_0 := Aside0.mk hl241_0
                        clear hi241_0 hl241_0
                        replace p241 := eq_true p241
                        replace q241 := eq_true q241
                        obtain ⟨Ao58, co58, eo58, _⟩ := Kd.Q_slice HO_237000.out
                        subst eo58
                        go_wp2_with (first | (go_at_call 33; (with_reducible refine (slices_ContainsFunc_int_int_at_impl_groups_1.calls k4 _ _ (rd_L1 l0 x50_4) gb223 (some ad241) c0 l0 gb236 Ao58 co58 x237000_4 false _ ?side1 ?side2 ?side3 ?side4 ?side5 ?side6 ?side7 ?side8 A43.out).mono ?_); (case side1 => exact kC_ HR241_0); (case side2 => exact HC241_0.out); (case side3 => exact kC_ HR0); (case side4 => exact HC0.out); (case side5 => repeat (first | exact (Kd.Q_reads' HO_237000.out).2.2 | (with_reducible refine Kd.C_alloc ?_ _) | (with_reducible refine Kd.C_drewN ?_ _) | (with_reducible refine Kd.C_drew ?_))); (case side6 => exact (Kd.Q_reads' HO_237000.out).2.1); (case side7 => exact (kB_ BK223)); (case side8 => exact (kB_ BK236)); rintro e w' ⟨rfl, ⟨nd, rfl⟩⟩))
                        (try simp only [← hl4_4])
                        go_roundg k4
                        case measure => have := HK1.out; have := HK2.out; have := HK3.out; have := HK4.out; omega
                        case rel => exact ⟨(x4_4), (wrap64 (x50_4 + 1)), (x237000_4), (.slice Ao58 x237000_4.length co58), rg_, H', ⟨by have := HK1.out; have := HK2.out; have := HK3.out; have := HK4.out; omega⟩, ⟨by (try simp only [hl4_1]); (try simp only [hl4_2]); (try simp only [hl4_3]); (try simp only [hl4_4]); (with_reducible repeat (first | apply Kd.S_alloc | apply Kd.S_drewN | apply Kd.S_drew)); exact HO_3.out⟩, ⟨by (try simp only [hl4_1]); (try simp only [hl4_2]); (try simp only [hl4_3]); (try simp only [hl4_4]); (with_reducible repeat (first | apply Kd.R_alloc | apply Kd.R_drewN | apply Kd.R_drew)); exact HO_4.out⟩, ⟨by (try simp only [hl4_1]); (try simp only [hl4_2]); (try simp only [hl4_3]); (try simp only [hl4_4]); (with_reducible repeat (first | apply Kd.Q_alloc | apply Kd.Q_drewN | apply Kd.Q_drew)); exact HO_237000.out⟩, ⟨by (try simp only [hl4_1]); (try simp only [hl4_2]); (try simp only [hl4_3]); (try simp only [hl4_4]); (with_reducible repeat (first | refine blk_drewN ?_ _ | refine blk_drew ?_ | refine blk_alloc ?_ _)); exact BK223.out⟩, ⟨by (try simp only [hl4_1]); (try simp only [hl4_2]); (try simp only [hl4_3]); (try simp only [hl4_4]); (with_reducible repeat (first | refine blk_drewN ?_ _ | refine blk_drew ?_ | refine blk_alloc ?_ _)); exact BK236.out⟩, ⟨hB_⟩⟩
                      ·rw [if_neg c42] at H
                       exact absurd H (by simp)
                     ·rw [if_neg c41] at H
                      have c41b0 : decide ((rd x4_4 x50_4) < 0) = false := decide_eq_false c41
                      clear c41
                      have H' := Aside0.mk H
                      clear H
                      have p240 : 0 ≤ (x50_4 : Int) := of_decide_eq_true as_
                      have q240 : x50_4 < (x4_4.length : Int) := of_decide_eq_true as_
                      obtain ⟨ad240, e240, hx240_0⟩ := Kd.at_int (Kd.R_reads' HO_4.out).2.2 x50_4 p240 q240
                      obtain rfl : (⟨go23, 0, none⟩ : Addr) = ad240 := (by injection e240)
                      (first | simp only [add_plain] at hx240_0 | simp only [add_at] at hx240_0 | simp only [Addr.add, Nat.zero_add] at hx240_0 | skip)
                      replace p240 := eq_true p240
                      replace q240 := eq_true q240
                      go_wp2
                      (try simp only [← hl4_4])
                      go_roundg k4
                      case measure => have := HK1.out; have := HK2.out; have := HK3.out; have := HK4.out; omega
                      case rel => exact ⟨(x4_4), (wrap64 (x50_4 + 1)), (x237000_4), (u237000), rg_, H', ⟨by have := HK1.out; have := HK2.out; have := HK3.out; have := HK4.out; omega⟩, ⟨by (try simp only [hl4_1]); (try simp only [hl4_2]); (try simp only [hl4_3]); (try simp only [hl4_4]); (with_reducible repeat (first | apply Kd.S_alloc | apply Kd.S_drewN | apply Kd.S_drew)); exact HO_3.out⟩, ⟨by (try simp only [hl4_1]); (try simp only [hl4_2]); (try simp only [hl4_3]); (try simp only [hl4_4]); (with_reducible repeat (first | apply Kd.R_alloc | apply Kd.R_drewN | apply Kd.R_drew)); exact HO_4.out⟩, ⟨by (try simp only [hl4_1]); (try simp only [hl4_2]); (try simp only [hl4_3]); (try simp only [hl4_4]); (with_reducible repeat (first | apply Kd.Q_alloc | apply Kd.Q_drewN | apply Kd.Q_drew)); exact HO_237000.out⟩, ⟨by (try simp only [hl4_1]); (try simp only [hl4_2]); (try simp only [hl4_3]); (try simp only [hl4_4]); (with_reducible repeat (first | refine blk_drewN ?_ _ | refine blk_drew ?_ | refine blk_alloc ?_ _)); exact BK223.out⟩, ⟨by (try simp only [hl4_1]); (try simp only [hl4_2]); (try simp only [hl4_3]); (try simp only [hl4_4]); (with_reducible repeat (first | refine blk_drewN ?_ _ | refine blk_drew ?_ | refine blk_alloc ?_ _)); exact BK236.out⟩, ⟨hB_⟩⟩
                    ·rw [if_neg c40] at H
                     exact absurd H (by simp)
                   ·rw [if_neg c39] at H
                    exact absurd H (by simp)
                  ·rw [if_neg c38] at H
                   have c38b0 : decide (x50_4 < (l0.length : Int)) = false := decide_eq_false c38
                   (try (have c38z0 := c38b0; simp only [hl4_1, hl4_2, hl4_3, hl4_4] at c38z0))
                   clear c38
                   by_cases c59 : 1 ≤ (x237000_4.length : Int)
                   ·rw [if_pos c59] at H
                    have c59b0 := eq_true c59
                    have c59b1 : decide (1 ≤ (x237000_4.length : Int)) = true := decide_eq_true c59
                    clear c59
                    obtain ⟨y248, hy248⟩ : ∃ y_ : List Int, y_ = (x237000_4.drop (1 : Int).toNat) := ⟨_, rfl⟩
                    replace H : (impl_groups.l2 k4 x3_2 x4_4 (x3_2.length : Int) (l0.length : Int) x27_2 l0 y248) = some r := by first | (rw [hy248]; with_reducible exact H) | (have H2_ := (Option.bind_some _ _).symm.trans H; rw [hy248]; with_reducible exact H2_) | (have H2_ := (Option.bind_some _ _).symm.trans H; with_reducible exact H2_) | with_reducible exact H | (rw [hy248]; exact H) | exact H
                    have Ny248 := Aside0.mk hy248
                    clear hy248
                    have H' := Aside0.mk H
                    clear H
                    have hnb60 := NB236_223.out
                    have hnc60 := NB223_236.out
                    have hcz61_0 : wr.cell? ⟨gb236, 0, none⟩ = some (u237000) := (blk_cell BK236.out 0).trans rfl
                    have hfz61_0 := blk_frozen BK236.out 0
                    go_wp2_with (first | ((with_reducible refine gate_dst (N := 8) rfl ?_); refine bx_ 8 #[.slice none 0 0] 36 ?_; intro gb247 hg w62 hbox hb; replace HO_3 := Aside0.mk (Kd.S_below (Kd.S_elderB (by (with_reducible repeat (first | apply Kd.S_alloc | apply Kd.S_drewN | apply Kd.S_drew)); exact HO_3.out) gb247 (Nat.le_of_eq hg.symm)) hb); replace HO_4 := Aside0.mk (Kd.R_below (kR_ HO_4) hb); replace HO_237000 := Aside0.mk (Kd.Q_below (by (with_reducible repeat (first | apply Kd.Q_alloc | apply Kd.Q_drewN | apply Kd.Q_drew)); exact HO_237000.out) hb); have BK247 := Aside0.mk (hbox); have GW247 := Aside0.mk ((ge_ hg)); have GE247 := Aside0.mk ((ge_ hg)); replace HB := Aside0.mk (below_step hB_ hb); have NB223_247 := Aside0.mk ((ne_ hg BK223)); have NB247_223 := Aside0.mk ((nf_ hg BK223)); replace BK223 := Aside0.mk (blk_below (kB_ BK223) hb); have NB236_247 := Aside0.mk ((ne_ hg BK236)); have NB247_236 := Aside0.mk ((nf_ hg BK236)); replace BK236 := Aside0.mk (blk_below (kB_ BK236) hb); clear hb hbox hg; obtain ⟨Ao63, co63, eo63, _⟩ := Kd.Q_slice HO_237000.out; subst eo63; have hnb64 := NB247_223.out; have hnc64 := NB223_247.out; have hnb65 := NB247_236.out; have hnc65 := NB236_247.out; have hcz66_0 : w62.cell? ⟨gb247, 0, none⟩ = some (.slice none 0 0) := (blk_cell BK247.out 0).trans rfl; have hfz66_0 := blk_frozen BK247.out 0) | ((with_reducible refine gate_store (t := 36) (p := 8) rfl ?_); refine store_event (t := 36) (p := 8) (v := ?vo_w67) (w1 := (w62.setCell ⟨gb247, 0, none⟩ (.slice Ao63 x237000_4.length co63))) ?hg ?ho ?hn ?hr ?_; (case ho => rfl); (case hg => rfl); (case hn => rfl); (case hr => first | (go_simp; done) | (go_simp; rfl)); intro w67 hw; have n0_ : Aside0 (Kd.S (Kd.slice 3 (Kd.int .i64)) 36 w67 w.heap.size (fun k_ => some k_ ≠ (.slice (some ⟨go23, 0, none⟩) x4_4.length co11 : Value).ownBlock ∧ some k_ ≠ (.slice Ao63 x237000_4.length co63 : Value).ownBlock ∧ k_ ≠ gb236 ∧ k_ ≠ gb247) (.slice Ao24 x3_2.length co24) x3_2) := ⟨(by rw [hw]; exact (by (with_reducible repeat (first | apply Kd.S_alloc | apply Kd.S_drewN | apply Kd.S_drew)); exact Kd.S_mono (Kd.S_far (p := ⟨gb247, 0, none⟩) (Kd.S_mono HO_3.out (fun k_ hk => (⟨hk, hk.2⟩ : _ ∧ k_ ≠ gb247))) (fun _ hk => hk.2) (.slice Ao63 x237000_4.length co63)) (fun _ hk => ⟨hk.1.1.1, ⟨hk.1.1.2.1, ⟨hk.1.1.2.2, hk.1.2⟩⟩⟩)))⟩; have n1_ : Aside0 (Kd.R (Kd.int .i64) 3 w67 w.heap.size (fun k_ => some k_ ≠ (.slice Ao63 x237000_4.length co63 : Value).ownBlock) (.slice (some ⟨go23, 0, none⟩) x4_4.length co11) x4_4) := ⟨(by rw [hw]; exact (by (with_reducible repeat (first | apply Kd.R_alloc | apply Kd.R_drewN | apply Kd.R_drew)); exact Kd.R_mono (Kd.R_far (p := ⟨gb247, 0, none⟩) (Kd.R_types HO_4.out BK247.out (by decide)) (fun _ hk => hk.2) (.slice Ao63 x237000_4.length co63)) (fun _ hk => hk.1)))⟩; have n2_ : Aside0 (Kd.Q (Kd.int .i64) 3 w67 w.heap.size (fun k_ => some k_ ≠ (.slice (some ⟨go23, 0, none⟩) x4_4.length co11 : Value).ownBlock) (.slice Ao63 x237000_4.length co63) x237000_4) := ⟨(by rw [hw]; exact (by (with_reducible repeat (first | apply Kd.Q_alloc | apply Kd.Q_drewN | apply Kd.Q_drew)); exact Kd.Q_mono (Kd.Q_far (p := ⟨gb247, 0, none⟩) (Kd.Q_types HO_237000.out BK247.out (by decide)) (fun _ hk => hk.2) (.slice Ao63 x237000_4.length co63)) (fun _ hk => hk.1)))⟩; have n3_ : Aside0 (w67.heap[gb223]? = some (.cells #[.slice A0 l0.length c0] 22 (0, 0))) := ⟨(by rw [hw]; exact (by (with_reducible repeat (first | refine blk_drewN ?_ _ | refine blk_drew ?_ | refine blk_alloc ?_ _)); refine blk_far ?_ NB223_247.out _; (with_reducible repeat (first | refine blk_drewN ?_ _ | refine blk_drew ?_ | refine blk_alloc ?_ _)); exact BK223.out))⟩; have n4_ : Aside0 (w67.heap[gb236]? = some (.cells #[.slice Ao63 x237000_4.length co63] 36 (0, 0))) := ⟨(by rw [hw]; exact (by (with_reducible repeat (first | refine blk_drewN ?_ _ | refine blk_drew ?_ | refine blk_alloc ?_ _)); refine blk_far ?_ NB236_247.out _; (with_reducible repeat (first | refine blk_drewN ?_ _ | refine blk_drew ?_ | refine blk_alloc ?_ _)); exact BK236.out))⟩; have n5_ : Aside0 (w67.heap[gb247]? = some (.cells #[.slice Ao63 x237000_4.length co63] 36 (0, 0))) := ⟨(by rw [hw]; exact (by (with_reducible repeat (first | refine blk_drewN ?_ _ | refine blk_drew ?_ | refine blk_alloc ?_ _)); refine blk_put (cs := #[.slice none 0 0]) ?_ 0 _ rfl; (with_reducible repeat (first | refine blk_drewN ?_ _ | refine blk_drew ?_ | refine blk_alloc ?_ _)); exact BK247.out))⟩; have n6_ : Aside0 (Below w.heap.size w w67) := ⟨(by rw [hw]; exact hB_)⟩; clear hw; clear HO_3; clear HO_4; clear HO_237000; clear BK223; clear BK236; clear BK247; clear HB; have HO_3 := n0_; have HO_4 := n1_; have HO_237000 := n2_; have BK223 := n3_; have BK236 := n4_; have BK247 := n5_; have HB := n6_; clear n0_ n1_ n2_ n3_ n4_ n5_ n6_; have hcz68_0 : w67.cell? ⟨gb247, 0, none⟩ = some (.slice Ao63 x237000_4.length co63) := (blk_cell BK247.out 0).trans rfl; have hfz68_0 := blk_frozen BK247.out 0; have q69 : (1 : Int) ≤ ((x237000_4.length : Int) : Int) := of_decide_eq_true as_; obtain ⟨i069, hi069, _, hsz69, _⟩ := info_parts info3; have hcut69 := cut_from (P := Try.prog) 36 3 .i64 Try.underlying36 hi069 1 hsz69 Ao63 x237000_4.length co63 1 (by omega) q69; have hr69 := Kd.Q_drop (k := (1 : Int).toNat) HO_237000.out (by omega); obtain ⟨A69, hA69⟩ : ∃ A1, A1 = (if co63 = (1 : Int).toNat then Ao63 else (Ao63 : Option Addr).map (·.add ((1 : Int).toNat * 1))) := ⟨_, rfl⟩; obtain ⟨c69, hc69⟩ : ∃ c1, c1 = co63 - (1 : Int).toNat := ⟨_, rfl⟩; have hy69 : y248.length = x237000_4.length - (1 : Int).toNat := (by rw [Ny248.out, List.length_drop]); rw [← Ny248.out] at hr69; rw [← hy69, ← hA69, ← hc69] at hcut69; replace hr69 : Kd.Q (Kd.int .i64) 3 w67 w.heap.size (fun k_ => some k_ ≠ (.slice (some ⟨go23, 0, none⟩) x4_4.length co11 : Value).ownBlock) (.slice A69 y248.length c69) y248 := (by rw [hA69, hc69, hy69]; exact hr69); have HE69 : Aside0 ((Value.slice A69 y248.length c69).ownBlock = (.slice Ao63 x237000_4.length co63 : Value).ownBlock) := ⟨by rw [hA69]; split <;> (cases (Ao63 : Option Addr) <;> rfl)⟩; clear hy69 hi069 hsz69 HO_237000 hA69 hc69; have HO250 := Aside0.mk hr69; clear hr69; replace q69 := eq_true q69; have n_ := Aside0.mk (Kd.S_mono (ok' := fun k_ => (some k_ ≠ (.slice (some ⟨go23, 0, none⟩) x4_4.length co11 : Value).ownBlock ∧ (some k_ ≠ (.slice A69 y248.length c69 : Value).ownBlock ∧ (k_ ≠ gb236 ∧ k_ ≠ gb247)))) HO_3.out (fun k_ hk => ⟨hk.1, ⟨(by rw [HE69.out]; exact hk.2.1), ⟨hk.2.2.1, hk.2.2.2⟩⟩⟩)); clear HO_3; have HO_3 := n_; clear n_; have n_ := Aside0.mk (Kd.R_mono (ok' := fun k_ => some k_ ≠ (.slice A69 y248.length c69 : Value).ownBlock) HO_4.out (fun k_ hk => (by rw [HE69.out]; exact hk))); clear HO_4; have HO_4 := n_; clear n_))
                    (try simp only [← hl4_3, ← hl4_4])
                    go_roundg k4
                    case measure => have := HK1.out; have := HK2.out; have := HK3.out; have := HK4.out; omega
                    case rel => exact ⟨gb247, (x4_4), (y248), (.slice A69 y248.length c69), rfl, H', ⟨by have := HK1.out; have := HK2.out; have := HK3.out; have := HK4.out; omega⟩, ⟨by (try simp only [hl4_1]); (try simp only [hl4_2]); (try simp only [hl4_3]); (try simp only [hl4_4]); (with_reducible repeat (first | apply Kd.S_alloc | apply Kd.S_drewN | apply Kd.S_drew)); exact Kd.S_mono (Kd.S_far (p := ⟨gb247, 0, none⟩) (Kd.S_mono HO_3.out (fun k_ hk => (⟨hk, hk.2.2.2⟩ : _ ∧ k_ ≠ gb247))) (fun _ hk => hk.2) (.slice A69 y248.length c69)) (fun _ hk => ⟨hk.1.1, ⟨hk.1.2.1, hk.1.2.2.2⟩⟩)⟩, ⟨by (try simp only [hl4_1]); (try simp only [hl4_2]); (try simp only [hl4_3]); (try simp only [hl4_4]); (with_reducible repeat (first | apply Kd.R_alloc | apply Kd.R_drewN | apply Kd.R_drew)); exact Kd.R_mono (Kd.R_far (p := ⟨gb247, 0, none⟩) (Kd.R_types HO_4.out BK247.out (by decide)) (fun _ hk => hk.2) (.slice A69 y248.length c69)) (fun _ hk => hk.1)⟩, ⟨by (try simp only [hl4_1]); (try simp only [hl4_2]); (try simp only [hl4_3]); (try simp only [hl4_4]); (with_reducible repeat (first | apply Kd.Q_alloc | apply Kd.Q_drewN | apply Kd.Q_drew)); exact Kd.Q_mono (Kd.Q_far (p := ⟨gb247, 0, none⟩) (Kd.Q_types HO250.out BK247.out (by decide)) (fun _ hk => hk.2) (.slice A69 y248.length c69)) (fun _ hk => hk.1)⟩, ⟨by (try simp only [hl4_1]); (try simp only [hl4_2]); (try simp only [hl4_3]); (try simp only [hl4_4]); (with_reducible repeat (first | refine blk_drewN ?_ _ | refine blk_drew ?_ | refine blk_alloc ?_ _)); refine blk_far ?_ NB223_247.out _; (with_reducible repeat (first | refine blk_drewN ?_ _ | refine blk_drew ?_ | refine blk_alloc ?_ _)); exact BK223.out⟩, ⟨by (try simp only [hl4_1]); (try simp only [hl4_2]); (try simp only [hl4_3]); (try simp only [hl4_4]); (with_reducible repeat (first | refine blk_drewN ?_ _ | refine blk_drew ?_ | refine blk_alloc ?_ _)); refine blk_put (cs := #[.slice Ao63 x237000_4.length co63]) ?_ 0 _ rfl; (with_reducible repeat (first | refine blk_drewN ?_ _ | refine blk_drew ?_ | refine blk_alloc ?_ _)); exact BK247.out⟩, ⟨GE247.out⟩, ⟨GW247.out⟩, ⟨NB247_223.out⟩, ⟨NB223_247.out⟩, ⟨hB_⟩⟩
                   ·rw [if_neg c59] at H
                    exact absurd H (by simp)
               ·rw [if_neg c33] at H
                have c33b0 : decide (0 < (x237000_3.length : Int)) = false := decide_eq_false c33
                have c33b1 : decide (0 < x237000_3.length) = false := decide_eq_false (by omega)
                (try (have c33z0 := c33b0; simp only [hl4_1, hl4_2, hl4_3] at c33z0))
                (try (have c33z1 := c33b1; simp only [hl4_1, hl4_2, hl4_3] at c33z1))
                clear c33
                by_cases c70 : x3_2.length < 5864062014805
                ·rw [if_pos c70] at H
                 have LMc70 := Aside0.mk c70
                 clear c70
                 obtain ⟨y237, hy237⟩ : ∃ y_ : List (List Int), y_ = (x3_2 ++ [[]]) := ⟨_, rfl⟩
                 replace H : (impl_groups.l1 k3 y237 x4_3 (l0.length : Int) (wrap64 (x27_2 + 1)) l0) = some r := by first | (rw [hy237]; with_reducible exact H) | (have H2_ := (Option.bind_some _ _).symm.trans H; rw [hy237]; with_reducible exact H2_) | (have H2_ := (Option.bind_some _ _).symm.trans H; with_reducible exact H2_) | with_reducible exact H | (rw [hy237]; exact H) | exact H
                 have Ny237 := Aside0.mk hy237
                 clear hy237
                 have H' := Aside0.mk H
                 clear H
                 have hnb71 := NB236_223.out
                 have hnc71 := NB223_236.out
                 have hcz72_0 : wr.cell? ⟨gb236, 0, none⟩ = some (u237000) := (blk_cell BK236.out 0).trans rfl
                 have hfz72_0 := blk_frozen BK236.out 0
                 obtain ⟨Ao73, co73, eo73, _⟩ := Kd.Q_slice HO_237000.out
                 subst eo73
                 go_wp2_with (first | ((with_reducible refine gate_builtin (b := .append) (xs := #[.tmp 76, .tmp 77]) rfl ?_); at_builtin; refine Kd.S_append (Kd.slice 3 (Kd.int .i64)) (w0 := w) w.heap.size rfl (.tmp 76) (.tmp 77) 22 36 (.slice none 0 0) 24 rfl Try.underlying22 info36 rfl (by decide) (by omega) (.slice Ao24 x3_2.length co24) x3_2 [] [.slice none 0 0] (fun k_ => some k_ ≠ (.slice (some ⟨go23, 0, none⟩) x4_3.length co11 : Value).ownBlock ∧ some k_ ≠ (.slice Ao73 x237000_3.length co73 : Value).ownBlock ∧ k_ ≠ gb236) (fun _ => False) rfl rfl ?aP (fun _ hk => hk.elim) ?aF ?aO ?aB ?aS ?aL ?_; (case aP => first | exact ⟨_, rfl, Kd.R_nil _ _ _ _ _⟩ | exact (Kd.FK_slice_mk (Nat.le_refl _) (Kd.F_nil _ _ _))); (case aB => exact hB_); (case aF => exact (fun k_ hk => ⟨Kd.fresh' (Kd.R_lt (kR_ HO_4)) k_ hk, Kd.fresh' (Kd.Q_lt (by (with_reducible repeat (first | apply Kd.Q_alloc | apply Kd.Q_drewN | apply Kd.Q_drew)); exact HO_237000.out)) k_ hk, Kd.freshB (g := gb236) (o := .cells #[.slice Ao73 x237000_3.length co73] 36 (0, 0)) (kB_ BK236) k_ hk⟩)); (case aO => exact (by (with_reducible repeat (first | apply Kd.S_alloc | apply Kd.S_drewN | apply Kd.S_drew)); exact Kd.S_mono HO_3.out (fun k_ hk => ⟨⟨hk.1, ⟨hk.2.1, hk.2.2⟩⟩, fun e_ => e_⟩))); (case aS => exact (below_size hB_)); (case aL => have := LMc70.out; omega); intro v238 w74 ho hb hg hat; rw [← Ny237.out] at ho; have n0_ := Aside0.mk (Kd.R_over' (kR_ HO_4) (Kd.S_typed (by (with_reducible repeat (first | apply Kd.S_alloc | apply Kd.S_drewN | apply Kd.S_drew)); exact HO_3.out)) (by decide) hg); have n1_ := Aside0.mk (Kd.Q_over' (by (with_reducible repeat (first | apply Kd.Q_alloc | apply Kd.Q_drewN | apply Kd.Q_drew)); exact HO_237000.out) (Kd.S_typed (by (with_reducible repeat (first | apply Kd.S_alloc | apply Kd.S_drewN | apply Kd.S_drew)); exact HO_3.out)) (by decide) hg); have n2_ := Aside0.mk (blk_grown (kB_ BK223) hg (Kd.S_ne HO_3.out BK223.out (by decide))); have n3_ := Aside0.mk (blk_grown (kB_ BK236) hg (Kd.S_away HO_3.out (fun _ hk => hk.2.2))); have n4_ := Aside0.mk (hb); have n5_ := Aside0.mk (ho); clear HO_4; clear HO_237000; clear BK223; clear BK236; clear HB; clear HO_3; have HO_4 := n0_; have HO_237000 := n1_; have BK223 := n2_; have BK236 := n3_; have HB := n4_; have HO239 := n5_; clear n0_ n1_ n2_ n3_ n4_ n5_; clear ho hb hg hat))
                 (try simp only [← hl4_2, ← hl4_3])
                 go_roundg k3
                 case measure => have := HK1.out; have := HK2.out; have := HK3.out; omega
                 case rel => exact ⟨(y237), (x4_3), (wrap64 (x27_2 + 1)), rg_, H', ⟨by have := HK1.out; have := HK2.out; have := HK3.out; omega⟩, ⟨by (try simp only [hl4_1]); (try simp only [hl4_2]); (try simp only [hl4_3]); (with_reducible repeat (first | apply Kd.S_alloc | apply Kd.S_drewN | apply Kd.S_drew)); exact Kd.S_mono HO239.out (fun _ hk => hk.1)⟩, ⟨by (try simp only [hl4_1]); (try simp only [hl4_2]); (try simp only [hl4_3]); (with_reducible repeat (first | apply Kd.R_alloc | apply Kd.R_drewN | apply Kd.R_drew)); exact Kd.R_mono HO_4.out (fun _ hk => trivial)⟩, ⟨by (try simp only [hl4_1]); (try simp only [hl4_2]); (try simp only [hl4_3]); (with_reducible repeat (first | refine blk_drewN ?_ _ | refine blk_drew ?_ | refine blk_alloc ?_ _)); exact BK223.out⟩, ⟨hB_⟩⟩
                ·rw [if_neg c70] at H
                 exact absurd H (by simp)
           ·rw [if_neg c21] at H
            exact absurd H (by simp)
          ·rw [if_neg c20] at H
           exact absurd H (by simp)
         ·rw [if_neg c19] at H
          have c19b0 : decide (x27_2 < (l0.length : Int)) = false := decide_eq_false c19
          (try (have c19z0 := c19b0; simp only [hl4_1, hl4_2] at c19z0))
          clear c19
          have H' := Aside0.mk H
          clear H
          go_wp2
          go_loopg [82] k2 (fun kq v82 w' => ∃ (x3_3 : List (List Int)) (x82_3 : Int), v82 = .int .i64 x82_3 ∧ Aside0 (impl_groups.l4 kq x3_3 x4_2 (x4_2.length : Int) x82_3 = some r) ∧ Aside0 (kq ≤ k2) ∧ Aside0 (Kd.S (Kd.slice 3 (Kd.int .i64)) 36 w' w.heap.size (fun k_ => some k_ ≠ ((.slice Ao11 x4_2.length co11) : Value).ownBlock) u3 x3_3) ∧ Aside0 (Kd.R (Kd.int .i64) 3 w' w.heap.size (fun _ => True) (.slice Ao11 x4_2.length co11) x4_2) ∧ Aside0 (w'.heap[gb223]? = some (.cells #[(.slice A0 l0.length c0)] 22 (0, 0))) ∧ Aside0 (Below w.heap.size w w'))
          case atStart => exact ⟨(x3_2), (0), rg_, H', ⟨Nat.le_refl _⟩, ⟨by (try simp only [hl4_1]); (try simp only [hl4_2]); (with_reducible repeat (first | apply Kd.S_alloc | apply Kd.S_drewN | apply Kd.S_drew)); exact HO_3.out⟩, ⟨by (try simp only [hl4_1]); (try simp only [hl4_2]); (with_reducible repeat (first | apply Kd.R_alloc | apply Kd.R_drewN | apply Kd.R_drew)); exact HO_4.out⟩, ⟨by (try simp only [hl4_1]); (try simp only [hl4_2]); (with_reducible repeat (first | refine blk_drewN ?_ _ | refine blk_drew ?_ | refine blk_alloc ?_ _)); exact BK223.out⟩, ⟨hB_⟩⟩
          case round =>
           clear H'
           try clear c1
           try clear p1
           try clear q1
           try clear hx1
           try clear hf1
           try clear c2
           try clear c2b0
           try clear c2b1
           try clear p2
           try clear q2
           try clear hx2
           try clear hf2
           try clear c3
           try clear c3b0
           try clear c3b1
           try clear c4
           try clear p4
           try clear q4
           try clear hx4
           try clear hf4
           try clear c5
           try clear c6
           try clear p6
           try clear q6
           try clear c7
           try clear c12
           try clear c12b0
           try clear c13
           try clear c13b0
           try clear c14
           try clear c14b0
           try clear p15
           try clear q15
           try clear hx15
           try clear hf15
           try clear c18
           try clear c19
           try clear c19b0
           try clear c20
           try clear c20b0
           try clear c21
           try clear c21b0
           try clear c22
           try clear c22b0
           try clear p23
           try clear q23
           try clear hx23
           try clear hf23
           try clear c24
           try clear p24
           try clear q24
           try clear hx24
           try clear c31
           try clear c33
           try clear c33b0
           try clear c33b1
           try clear c34
           try clear c38
           try clear c38b0
           try clear c39
           try clear c39b0
           try clear c40
           try clear c40b0
           try clear c41
           try clear c41b0
           try clear c42
           try clear c42b0
           try clear c44
           try clear p45
           try clear q45
           try clear hx45
           try clear hf45
           try clear c46
           try clear c47
           try clear c56
           try clear c59
           try clear c59b0
           try clear c59b1
           try clear c60
           try clear c64
           try clear p64
           try clear c65
           try clear c69
           try clear q69
           try clear c70
           try clear c71
           try clear hcz18_0
           try clear hcz32_0
           try clear hcz35_0
           try clear hcz37_0
           try clear hcz48_0
           try clear hcz52_0
           try clear hcz55_0
           try clear hcz57_0
           try clear hcz61_0
           try clear hcz66_0
           try clear hcz68_0
           try clear hcz72_0
           try clear hfz18_0
           try clear hfz32_0
           try clear hfz35_0
           try clear hfz37_0
           try clear hfz48_0
           try clear hfz52_0
           try clear hfz55_0
           try clear hfz57_0
           try clear hfz61_0
           try clear hfz66_0
           try clear hfz68_0
           try clear hfz72_0
           try clear hx15_0
           try clear hx231_0
           try clear hx23_0
           try clear hx240_0
           try clear hx241_0
           try clear hx45_0
           try clear p1
           try clear p15
           try clear p2
           try clear p23
           try clear p231
           try clear p240
           try clear p241
           try clear p45
           try clear p6
           try clear q1
           try clear q15
           try clear q2
           try clear q23
           try clear q231
           try clear q240
           try clear q241
           try clear q45
           try clear q69
           obtain ⟨x3_3, x82_3, rfl, HA, HK3, HO_3, HO_80, BK223, HB⟩ := hrel
           cases gk with
           | zero => exact absurd HA.out (by simp [impl_groups.l4])
           | succ k3 =>
            have H := HA.out
            clear HA
            simp only [impl_groups.l4] at H
            by_cases c75 : x82_3 < (x4_2.length : Int)
            ·rw [if_pos c75] at H
             have c75b0 : decide (x82_3 < (x4_2.length : Int)) = true := decide_eq_true c75
             (try (have c75z0 := c75b0; simp only [hl4_1, hl4_2] at c75z0))
             clear c75
             by_cases c76 : 0 ≤ x82_3
             ·rw [if_pos c76] at H
              have c76b0 : decide (0 ≤ x82_3) = true := decide_eq_true c76
              clear c76
              by_cases c77 : x82_3 < (x4_2.length : Int)
              ·rw [if_pos c77] at H
               have c77b0 : decide (x82_3 < (x4_2.length : Int)) = true := decide_eq_true c77
               (try (have c77z0 := c77b0; simp only [hl4_1, hl4_2] at c77z0))
               clear c77
               by_cases c78 : 0 ≤ (rd x4_2 x82_3)
               ·rw [if_pos c78] at H
                have c78b0 : decide (0 ≤ (rd x4_2 x82_3)) = true := decide_eq_true c78
                clear c78
                by_cases c79 : (rd x4_2 x82_3) < (x3_3.length : Int)
                ·rw [if_pos c79] at H
                 have c79b0 : decide ((rd x4_2 x82_3) < (x3_3.length : Int)) = true := decide_eq_true c79
                 (try (have c79z0 := c79b0; simp only [hl4_1, hl4_2] at c79z0))
                 clear c79
                 by_cases c80 : (rd_L1 x3_3 (rd x4_2 x82_3)).length < 17592186044416
                 ·rw [if_pos c80] at H
                  have LMc80 := Aside0.mk c80
                  clear c80
                  obtain ⟨y253, hy253⟩ : ∃ y_ : List Int, y_ = ((rd_L1 x3_3 (rd x4_2 x82_3)) ++ [x82_3]) := ⟨_, rfl⟩
                  replace H : (impl_groups.l4 k3 (x3_3.set ((rd x4_2 x82_3) : Int).toNat y253) x4_2 (x4_2.length : Int) (wrap64 (x82_3 + 1))) = some r := by first | (rw [hy253]; with_reducible exact H) | (have H2_ := (Option.bind_some _ _).symm.trans H; rw [hy253]; with_reducible exact H2_) | (have H2_ := (Option.bind_some _ _).symm.trans H; with_reducible exact H2_) | with_reducible exact H | (rw [hy253]; exact H) | exact H
                  have Ny253 := Aside0.mk hy253
                  clear hy253
                  obtain ⟨y256, hy256⟩ : ∃ y_ : List (List Int), y_ = (x3_3.set ((rd x4_2 x82_3) : Int).toNat y253) := ⟨_, rfl⟩
                  replace H : (impl_groups.l4 k3 y256 x4_2 (x4_2.length : Int) (wrap64 (x82_3 + 1))) = some r := by first | (rw [hy256]; with_reducible exact H) | (have H2_ := (Option.bind_some _ _).symm.trans H; rw [hy256]; with_reducible exact H2_) | (have H2_ := (Option.bind_some _ _).symm.trans H; with_reducible exact H2_) | with_reducible exact H | (rw [hy256]; exact H) | exact H
                  have Ny256 := Aside0.mk hy256
                  clear hy256
                  have H' := Aside0.mk H
                  clear H
                  have p251 : 0 ≤ (x82_3 : Int) := of_decide_eq_true as_
                  have q251 : x82_3 < (x4_2.length : Int) := of_decide_eq_true as_
                  obtain ⟨ad251, e251, hx251_0⟩ := Kd.at_int (Kd.R_reads' HO_80.out).2.2 x82_3 p251 q251
                  cases e251
                  replace p251 := eq_true p251
                  replace q251 := eq_true q251
                  obtain ⟨Ao82, co82, eo82⟩ := Kd.S_slice HO_3.out
                  subst eo82
                  have p252 : 0 ≤ ((rd x4_2 x82_3) : Int) := of_decide_eq_true as_
                  have q252 : (rd x4_2 x82_3) < (x3_3.length : Int) := of_decide_eq_true as_
                  obtain ⟨ad252, A252_0, c252_0, e252, hx252_0, hl252_0, hi252_0⟩ := at_L1 (Kd.S_reads' HO_3.out).2.2 (rd x4_2 x82_3) p252 q252
                  cases e252
                  obtain ⟨ce252, hce252, hMe252, hcc252⟩ := Kd.S_get HO_3.out [] (rd x4_2 x82_3) p252 (by first | exact q252 | exact of_decide_eq_true as_ | (have e_ := (Kd.S_reads' HO_3.out).1; omega))
                  obtain ⟨ve252_0, rfl, ge252_0⟩ := hMe252
                  have hv252_0 := hcc252 0 _ rfl
                  rw [Nat.add_zero, show ((Kd.slice 3 (Kd.int .i64))).sz = 1 from rfl, Nat.mul_one] at hv252_0
                  replace hv252_0 := Option.some.inj (hv252_0.symm.trans hx252_0)
                  rw [hv252_0] at ge252_0
                  have HL252_0 := Aside0.mk (show Kd.R (Kd.int .i64) 3 _ _ _ _ (rd_L1 x3_3 (rd x4_2 x82_3)) from ge252_0)
                  clear hv252_0 ge252_0
                  have HX252_0 := Aside0.mk hx252_0
                  clear hcc252 hce252
                  have HR252_0 := Aside0.mk hi252_0
                  have HC252_0 := Aside0.mk hl252_0
                  clear hi252_0 hl252_0
                  replace p252 := eq_true p252
                  replace q252 := eq_true q252
                  obtain ⟨go83, co83, eo83, gb83, gl83, cl83, HG83⟩ := Kd.S_form HO_3.out (by have h_ : ((rd x4_2 x82_3) : Int) < ((x3_3.length : Int) : Int) := of_decide_eq_true as_; have h2_ : 0 ≤ ((rd x4_2 x82_3) : Int) := (of_decide_eq_true as_); omega)
                  (first | cases eo83 | (injection eo83 with ea_ en_ ec_; (first | subst ea_ | (injection ea_ with ea_; subst ea_)); subst ec_; clear en_))
                  have GB83 := Aside0.mk gb83
                  have GG83 := Aside0.mk HG83
                  clear gb83 gl83 HG83
                  (first | simp only [add_plain] at hx252_0 | skip)
                  obtain ⟨oki83, ce83, hcl83, hM83, hcc83, _, _, hH83⟩ := Kd.S_elem HO_3.out [] ((rd x4_2 x82_3) : Int) (of_decide_eq_true as_) (by have h_ : ((rd x4_2 x82_3) : Int) < ((x3_3.length : Int) : Int) := of_decide_eq_true as_; first | exact h_ | (have e_ := (Kd.S_reads' HO_3.out).1; omega) | simpa using h_)
                  obtain ⟨ve83_0, rfl, ge83_0⟩ := hM83
                  have hv83 := hcc83 0 _ rfl
                  have hX83 := HX252_0.out
                  (try simp only [add_plain] at hX83)
                  (try simp only [Nat.add_zero] at hv83)
                  (try rw [show ((Kd.slice 3 (Kd.int .i64))).sz = 1 from rfl, Nat.mul_one] at hv83)
                  replace hv83 := Option.some.inj (hv83.symm.trans hX83)
                  subst hv83
                  clear hX83 hcc83 hcl83
                  have UU83 := Aside0.mk (show Kd.R (Kd.int .i64) 3 _ w.heap.size oki83 (.slice A252_0 (rd_L1 x3_3 (rd x4_2 x82_3)).length c252_0) (rd_L1 x3_3 (rd x4_2 x82_3)) from ge83_0)
                  have HH83 := Aside0.mk hH83
                  have HN83 := Aside0.mk (Kd.S_reads' HO_3.out).1
                  clear hH83 ge83_0
                  go_wp2_with (first | ((with_reducible refine gate_builtin (b := .append) (xs := #[.tmp 92, .tmp 94]) rfl ?_); at_builtin; refine Kd.R_append (Kd.int .i64) (w0 := w) w.heap.size rfl (.tmp 92) (.tmp 94) 36 3 (.int .i64 0) 8 rfl Try.underlying36 info3 rfl (by decide) (by omega) (.slice A252_0 (rd_L1 x3_3 (rd x4_2 x82_3)).length c252_0) (rd_L1 x3_3 (rd x4_2 x82_3)) x82_3 [.int .i64 x82_3] (fun k_ => oki83 k_ ∨ ((fun k_ => some k_ ≠ (.slice (some ad251) x4_2.length co11 : Value).ownBlock)) k_ ∧ wr.heap.size ≤ k_) (fun _ => False) rfl rfl ?aP (fun _ hk => hk.elim) ?aF ?aO ?aB ?aS ?aL ?_; (case aP => exact rfl); (case aB => exact hB_); (case aF => exact (fun k_ hk => .inr ⟨Kd.fresh' (Kd.R_lt (kR_ HO_80)) k_ hk, hk⟩)); (case aO => exact (by (with_reducible repeat (first | apply Kd.R_alloc | apply Kd.R_drewN | apply Kd.R_drew)); exact Kd.R_mono UU83.out (fun _ hk => .inl hk))); (case aS => exact (below_size hB_)); (case aL => have := LMc80.out; omega); intro v254 w84 ho hb hg hat; rw [← Ny253.out] at ho; have n0_ := Aside0.mk (Kd.R_grown2 (kR_ HO_80) rfl hg (fun k_ e_ => (HL252_0.out.1 k_ e_).1)); have n1_ := Aside0.mk (blk_grown (kB_ BK223) hg (Kd.R_ne HL252_0.out BK223.out (by decide))); have n2_ := Aside0.mk (hb); have n3_ := Aside0.mk (Kd.H_grown (Kd.H_widen (by repeat (first | exact HH83.out | refine Kd.H_alloc ?_ _ | refine Kd.H_drewN ?_ _ | refine Kd.H_drew ?_))) hg (fun k_ e_ => .inl (UU83.out.1 k_ e_))); have n4_ := Aside0.mk (ho); clear HO_80; clear BK223; clear HB; clear HH83; clear HO_3; clear UU83; clear HL252_0; have HO_80 := n0_; have BK223 := n1_; have HB := n2_; have HH83 := n3_; have HO255 := n4_; clear n0_ n1_ n2_ n3_ n4_; clear ho hb hg hat; have p81 : 0 ≤ ((rd x4_2 x82_3) : Int) := of_decide_eq_true as_; have q81 : ((rd x4_2 x82_3) : Int) < ((x3_3.length : Int) : Int) := of_decide_eq_true as_; replace p81 := eq_true p81; replace q81 := eq_true q81; obtain ⟨Ao87, co87, eo87⟩ := Kd.R_slice HO255.out; subst eo87; obtain ⟨_, _, hraw85, _, _, hcc85, _⟩ := Kd.H_raw HH83.out (of_decide_eq_true as_) (by have h_ : ((rd x4_2 x82_3) : Int) < ((x3_3.length : Int) : Int) := of_decide_eq_true as_; first | exact h_ | (have e_ := (HN83.out); omega) | simpa using h_); obtain ⟨_, hfr85⟩ := Kd.H_at HH83.out (of_decide_eq_true as_) (by have h_ : ((rd x4_2 x82_3) : Int) < ((x3_3.length : Int) : Int) := of_decide_eq_true as_; first | exact h_ | (have e_ := (HN83.out); omega) | simpa using h_); have hx85_0 := hcc85 0 _ rfl; have hf85_0 := hfr85 0; (try simp only [Nat.add_zero] at hx85_0 hf85_0); (try rw [show ((Kd.slice 3 (Kd.int .i64))).sz = 1 from rfl, Nat.mul_one] at hx85_0); (try rw [show ((Kd.slice 3 (Kd.int .i64))).sz = 1 from rfl, Nat.mul_one] at hf85_0); have HP85 := Kd.S_seg0 HH83.out (of_decide_eq_true as_) (by have h_ : ((rd x4_2 x82_3) : Int) < ((x3_3.length : Int) : Int) := of_decide_eq_true as_; first | exact h_ | (have e_ := (HN83.out); omega) | simpa using h_) (seg := [.slice Ao87 y253.length co87]) (j := 0) (show 1 ≤ 1 from by decide) (x' := y253) (Kd.M_row HO255.out) (fun _ hk => hk); (try simp only [show ((Kd.slice 3 (Kd.int .i64))).sz = 1 from rfl, Nat.mul_one, Nat.add_zero] at HP85); clear hcc85 hfr85) | ((with_reducible refine gate_store (t := 36) (p := 96) rfl ?_); refine store_event (t := 36) (p := 96) (v := ?vo_w86) (w1 := (w84.setCell ⟨go83, ((rd x4_2 x82_3) : Int).toNat, none⟩ (.slice Ao87 y253.length co87))) ?hg ?ho ?hn ?hr ?_; (case ho => rfl); (case hg => rfl); (case hn => rfl); (case hr => first | (go_simp; done) | (go_simp; rfl)); intro w86 hw; have hg : w84.grownBy w86 (some go83) := (by rw [hw]; exact HP85.2); have hp_ : Kd.S (Kd.slice 3 (Kd.int .i64)) 36 w86 w.heap.size (fun k_ => some k_ ≠ (.slice (some ad251) x4_2.length co11 : Value).ownBlock) (.slice (some ⟨go83, 0, none⟩) x3_3.length co82) y256 := (by rw [hw, Ny256.out]; exact HP85.1); clear HP85; have n0_ := Aside0.mk (Kd.R_over' (v := (.slice (some ⟨go83, 0, none⟩) x3_3.length co82)) (kR_ HO_80) (Kd.R_typed hraw85) (by decide) hg); have n1_ := Aside0.mk (blk_grown (kB_ BK223) hg (Kd.R_ne hraw85 BK223.out (by decide))); have n2_ := Aside0.mk ((by rw [hw]; exact below_set HB.out GB83.out : Below w.heap.size w w86)); have n3_ := Aside0.mk (hp_); clear HO_80; clear BK223; clear HB; clear HO255; clear HH83; have HO_80 := n0_; have BK223 := n1_; have HB := n2_; have HO_3 := n3_; clear n0_ n1_ n2_ n3_; clear hg hw hp_ hraw85))
                  go_roundg k3
                  case measure => have := HK1.out; have := HK2.out; have := HK3.out; omega
                  case rel => exact ⟨(y256), (wrap64 (x82_3 + 1)), rg_, H', ⟨by have := HK1.out; have := HK2.out; have := HK3.out; omega⟩, ⟨by (try simp only [hl4_1]); (try simp only [hl4_2]); (with_reducible repeat (first | apply Kd.S_alloc | apply Kd.S_drewN | apply Kd.S_drew)); exact HO_3.out⟩, ⟨by (try simp only [hl4_1]); (try simp only [hl4_2]); (with_reducible repeat (first | apply Kd.R_alloc | apply Kd.R_drewN | apply Kd.R_drew)); exact HO_80.out⟩, ⟨by (try simp only [hl4_1]); (try simp only [hl4_2]); (with_reducible repeat (first | refine blk_drewN ?_ _ | refine blk_drew ?_ | refine blk_alloc ?_ _)); exact BK223.out⟩, ⟨hB_⟩⟩
                 ·rw [if_neg c80] at H
                  exact absurd H (by simp)
                ·rw [if_neg c79] at H
                 exact absurd H (by simp)
               ·rw [if_neg c78] at H
                exact absurd H (by simp)
              ·rw [if_neg c77] at H
               exact absurd H (by simp)
             ·rw [if_neg c76] at H
              exact absurd H (by simp)
            ·rw [if_neg c75] at H
             have c75b0 : decide (x82_3 < (x4_2.length : Int)) = false := decide_eq_false c75
             (try (have c75z0 := c75b0; simp only [hl4_1, hl4_2] at c75z0))
             clear c75
             obtain rfl := Option.some.inj H
             go_wp2
             go_ret
             exact ⟨_, rf_, by (with_reducible repeat (first | apply Kd.S_alloc | apply Kd.S_drewN | apply Kd.S_drew)); exact Kd.S_mono HO_3.out (fun _ hk => trivial), hB_⟩
   ·rw [if_neg c3] at H
    exact absurd H (by simp)
  ·rw [if_neg c2] at H
   exact absurd H (by simp)
/-! ### impl_HyperParts: function 7 -/
def impl_HyperParts.f (k : Nat) (a0_0 : Int) (l0_1 : List (List Int)) : Option ((List (List Int)) × Bool) := (impl_IsHyper.f k a0_0 l0_1).bind fun t258 => (if t258 = true then ((impl_groups.f k l0_1).bind fun t259 => (some (t259, true))) else (some (([] : List (List Int)), false)))
theorem impl_HyperParts.mono : ∀ a0 a1 k, LeO (impl_HyperParts.f k a0 a1) (impl_HyperParts.f (k + 1) a0 a1) := by
  intro a0 a1 k
  unfold impl_HyperParts.f
  repeat' first
      | (with_reducible exact impl_IsHyper.mono _ _ _)
      | (with_reducible exact impl_groups.mono _ _)
      | (with_reducible exact LeO.refl _)
      | (with_reducible exact LeO.none _)
      | (with_reducible refine LeO.ite ?_ ?_)
      | (with_reducible refine LeO.bind ?_ (fun _ => ?_))
      | exact impl_IsHyper.mono _ _ _
      | exact impl_groups.mono _ _
      | exact LeO.none _
      | refine LeO.ite ?_ ?_
      | refine LeO.bind ?_ (fun _ => ?_)
noncomputable def impl_HyperParts.F (a0_0 : Int) (l0_1 : List (List Int)) : Option ((List (List Int)) × Bool) := lim fun k => impl_HyperParts.f k a0_0 l0_1
theorem impl_HyperParts.F_sup (a0_0 : Int) (l0_1 : List (List Int)) : Sup (fun k => impl_HyperParts.f k a0_0 l0_1) (impl_HyperParts.F a0_0 l0_1) := Sup.of_mono fun k => impl_HyperParts.mono a0_0 l0_1 k
theorem impl_HyperParts.F_eq (a0_0 : Int) (l0_1 : List (List Int)) : impl_HyperParts.F a0_0 l0_1 = (impl_IsHyper.F a0_0 l0_1).bind fun t258 => (if t258 = true then ((impl_groups.F l0_1).bind fun t259 => (some (t259, true))) else (some (([] : List (List Int)), false))) := by
  refine Sup.unique (impl_HyperParts.F_sup a0_0 l0_1) (Sup.congr (g' := fun k => (impl_IsHyper.f k a0_0 l0_1).bind fun t258 => (if t258 = true then ((impl_groups.f k l0_1).bind fun t259 => (some (t259, true))) else (some (([] : List (List Int)), false)))) (fun k => by first | rfl | simp only [impl_HyperParts.f]) ?_)
  repeat' first
    | (with_reducible exact impl_IsHyper.F_sup _ _)
    | (with_reducible exact impl_groups.F_sup _)
    | (with_reducible refine Sup.ite ?_ ?_)
    | (with_reducible refine Sup.bind ?_ (fun _ => ?_))
    | (with_reducible exact Sup.const _)
    | exact impl_IsHyper.F_sup _ _
    | exact impl_groups.F_sup _
    | exact Sup.const _
set_option maxHeartbeats 8000000 in
set_option maxRecDepth 100000 in
theorem impl_HyperParts.calls (k : Nat) (a0_0 : Int) (A0_1 : Option Addr) (c0_1 : Nat) (l0_1 : List (List Int)) (r1 : List (List Int)) (r2 : Bool) (w : World) (hr0_1 : Kd.C (Kd.slice 3 (Kd.int .i64)) w A0_1 l0_1.length l0_1) (hc0_1 : l0_1.length ≤ c0_1) (h : impl_HyperParts.f k a0_0 l0_1 = some (r1, r2)) :
    Calls Try.prog 7 #[.agg #[.int .i64 a0_0, .slice A0_1 l0_1.length c0_1]] w fun e w' => ∃ v0_ : Value, e = .returned (.tuple #[v0_, .bool r2]) ∧ Kd.S (Kd.slice 3 (Kd.int .i64)) 36 w' w.heap.size (fun _ => True) v0_ r1 ∧ Below w.heap.size w w' := by
  have hu28 := Try.underlying28
  have hu22 := Try.underlying22
  have HR0_1 := Aside0.mk hr0_1
  have HC0_1 := Aside0.mk hc0_1
  clear hr0_1 hc0_1
  have HB := Aside0.mk (Below.refl w.heap.size w)
  have H : ((impl_IsHyper.f k a0_0 l0_1).bind fun t258 => (if t258 = true then ((impl_groups.f k l0_1).bind fun t259 => (some (t259, true))) else (some (([] : List (List Int)), false)))) = some (r1, r2) := h
  clear h
  replace H := Option.bind_eq_some_iff.mp H
  obtain ⟨t258, A20, H⟩ := H
  replace H : (if t258 = true then ((impl_groups.f k l0_1).bind fun t259 => (some (t259, true))) else (some (([] : List (List Int)), false))) = some (r1, r2) := H
  have A2 := Aside0.mk A20
  clear A20
  by_cases c3 : t258 = true
  ·subst c3
   have H1 : ((impl_groups.f k l0_1).bind fun t259 => (some (t259, true))) = some (r1, r2) := by rw [if_pos rfl] at H; exact H
   clear H
   have H := H1
   clear H1
   replace H := Option.bind_eq_some_iff.mp H
   obtain ⟨t259, A40, H⟩ := H
   replace H : (some (t259, true)) = some (r1, r2) := H
   have A4 := Aside0.mk A40
   clear A40
   simp only [Option.some.injEq, Prod.mk.injEq] at H
   obtain ⟨rfl, rfl⟩ := H
   go_enter Try.func7, Try.ntmps7
   go_wp2_with (first | ((with_reducible refine gate_dst (N := 1) rfl ?_); refine bx_ 1 #[.int .i64 a0_0, .slice A0_1 l0_1.length c0_1] 28 ?_; intro gb257 hg w5 hbox hb; have BK257 := Aside0.mk (hbox); have GW257 := Aside0.mk ((ge_ hg)); have GE257 := Aside0.mk ((ge_ hg)); replace HB := Aside0.mk (below_step hB_ hb); clear hb hbox hg; have hcz6_0 : w5.cell? ⟨gb257, 0, none⟩ = some (.int .i64 a0_0) := (blk_cell BK257.out 0).trans rfl; have hcz6_1 : w5.cell? ⟨gb257, 1, none⟩ = some (.slice A0_1 l0_1.length c0_1) := (blk_cell BK257.out 1).trans rfl; have hfz6_0 := blk_frozen BK257.out 0; have hfz6_1 := blk_frozen BK257.out 1) | ((with_reducible refine gate_callee (f := 17) rfl ?_); refine gl_ 5 Try.func17 #[.agg #[.int .i64 a0_0, .slice A0_1 l0_1.length c0_1]] ?_; (with_reducible refine (impl_IsHyper.calls k a0_0 _ _ l0_1 true _ ?side1 ?side2 A2.out).mono ?_); (case side1 => exact kC_ HR0_1); (case side2 => exact HC0_1.out); rintro e w7 ⟨rfl, hb⟩; refine ⟨_, rfl, ?_⟩; replace BK257 := Aside0.mk (blk_below (kB_ BK257) hb); replace HB := Aside0.mk (below_step hB_ hb); (try clear hb); (try clear hb2); (try clear hk); (try clear hi); have hcz8_0 : w7.cell? ⟨gb257, 0, none⟩ = some (.int .i64 a0_0) := (blk_cell BK257.out 0).trans rfl; have hcz8_1 : w7.cell? ⟨gb257, 1, none⟩ = some (.slice A0_1 l0_1.length c0_1) := (blk_cell BK257.out 1).trans rfl; have hfz8_0 := blk_frozen BK257.out 0; have hfz8_1 := blk_frozen BK257.out 1) | ((with_reducible refine gate_callee (f := 18) rfl ?_); refine gl_ 9 Try.func18 #[.slice A0_1 l0_1.length c0_1] ?_; (with_reducible refine (impl_groups.calls k _ _ l0_1 t259 _ ?side1 ?side2 A4.out).mono ?_); (case side1 => exact kC_ HR0_1); (case side2 => exact HC0_1.out); rintro e w9 ⟨v260, rfl, ho0, hb⟩; refine ⟨_, rfl, ?_⟩; have HO261 := Aside0.mk (Kd.S_lower ho0 (below_size hB_)); replace BK257 := Aside0.mk (blk_below (kB_ BK257) hb); replace HB := Aside0.mk (below_step hB_ hb); (try clear hb); (try clear hb2); (try clear hk); (try clear hi); (try clear ho0)))
   go_ret2
   exact ⟨_, rf_, by (with_reducible repeat (first | apply Kd.S_alloc | apply Kd.S_drewN | apply Kd.S_drew)); exact HO261.out, hB_⟩
  ·replace c3 := Bool.eq_false_iff.mpr c3
   subst c3
   have H1 : (some (([] : List (List Int)), false)) = some (r1, r2) := by rw [if_neg (show ¬ (false = true) by decide)] at H; exact H
   clear H
   have H := H1
   clear H1
   simp only [Option.some.injEq, Prod.mk.injEq] at H
   obtain ⟨rfl, rfl⟩ := H
   go_enter Try.func7, Try.ntmps7
   go_wp2_with (first | ((with_reducible refine gate_dst (N := 1) rfl ?_); refine bx_ 1 #[.int .i64 a0_0, .slice A0_1 l0_1.length c0_1] 28 ?_; intro gb257 hg w10 hbox hb; have BK257 := Aside0.mk (hbox); have GW257 := Aside0.mk ((ge_ hg)); have GE257 := Aside0.mk ((ge_ hg)); replace HB := Aside0.mk (below_step hB_ hb); clear hb hbox hg; have hcz11_0 : w10.cell? ⟨gb257, 0, none⟩ = some (.int .i64 a0_0) := (blk_cell BK257.out 0).trans rfl; have hcz11_1 : w10.cell? ⟨gb257, 1, none⟩ = some (.slice A0_1 l0_1.length c0_1) := (blk_cell BK257.out 1).trans rfl; have hfz11_0 := blk_frozen BK257.out 0; have hfz11_1 := blk_frozen BK257.out 1) | ((with_reducible refine gate_callee (f := 17) rfl ?_); refine gl_ 5 Try.func17 #[.agg #[.int .i64 a0_0, .slice A0_1 l0_1.length c0_1]] ?_; (with_reducible refine (impl_IsHyper.calls k a0_0 _ _ l0_1 false _ ?side1 ?side2 A2.out).mono ?_); (case side1 => exact kC_ HR0_1); (case side2 => exact HC0_1.out); rintro e w12 ⟨rfl, hb⟩; refine ⟨_, rfl, ?_⟩; replace BK257 := Aside0.mk (blk_below (kB_ BK257) hb); replace HB := Aside0.mk (below_step hB_ hb); (try clear hb); (try clear hb2); (try clear hk); (try clear hi)))
   go_ret2
   exact ⟨_, rf_, by first | exact Kd.S_nil _ _ _ _ _ | exact Kd.N_nil _ _ _ _ _ | exact Kd.V_nil _ _ _ _ _ | exact Kd.Q_nil _ _ _ _ _ | exact Kd.R_nil _ _ _ _ _, hB_⟩
/-! ### laws_eqIntS: function 19 -/
def laws_eqIntS.l0 : Nat → List Int → List Int → Int → Option (Bool)
  | 0, _, _, _ => none
  | k + 1, x0, x1, x5 => if x5 < (x0.length : Int) then (if 0 ≤ x5 then (if x5 < (x1.length : Int) then (if (rd x0 x5) = (rd x1 x5) then (laws_eqIntS.l0 k x0 x1 (wrap64 (x5 + 1))) else (some false)) else (none)) else (none)) else (some true)
def laws_eqIntS.f (k : Nat) (l0 : List Int) (l1 : List Int) : Option (Bool) := if (l0.length : Int) = (l1.length : Int) then (laws_eqIntS.l0 k l0 l1 0) else (some false)
theorem laws_eqIntS.mono_l : ∀ k, (∀ y0 y1 y2, LeO (laws_eqIntS.l0 k y0 y1 y2) (laws_eqIntS.l0 (k + 1) y0 y1 y2))
  | 0 => fun _ _ _ r h => by simp [laws_eqIntS.l0] at h
  | k + 1 => by
    have ih0 := laws_eqIntS.mono_l k
    · intro y0 y1 y2
      unfold laws_eqIntS.l0
      repeat' first
      | (with_reducible exact ih0 _ _ _)
      | (with_reducible exact LeO.refl _)
      | (with_reducible exact LeO.none _)
      | (with_reducible refine LeO.ite ?_ ?_)
      | (with_reducible refine LeO.bind ?_ (fun _ => ?_))
      | exact ih0 _ _ _
      | exact LeO.none _
      | refine LeO.ite ?_ ?_
      | refine LeO.bind ?_ (fun _ => ?_)
theorem laws_eqIntS.mono : ∀ a0 a1 k, LeO (laws_eqIntS.f k a0 a1) (laws_eqIntS.f (k + 1) a0 a1) := by
  intro a0 a1 k
  have ih0 := laws_eqIntS.mono_l k
  unfold laws_eqIntS.f
  repeat' first
      | (with_reducible exact ih0 _ _ _)
      | (with_reducible exact LeO.refl _)
      | (with_reducible exact LeO.none _)
      | (with_reducible refine LeO.ite ?_ ?_)
      | (with_reducible refine LeO.bind ?_ (fun _ => ?_))
      | exact ih0 _ _ _
      | exact LeO.none _
      | refine LeO.ite ?_ ?_
      | refine LeO.bind ?_ (fun _ => ?_)
noncomputable def laws_eqIntS.L0 (y0 : List Int) (y1 : List Int) (y2 : Int) : Option (Bool) := lim fun k => laws_eqIntS.l0 k y0 y1 y2
theorem laws_eqIntS.L0_sup (y0 : List Int) (y1 : List Int) (y2 : Int) : Sup (fun k => laws_eqIntS.l0 k y0 y1 y2) (laws_eqIntS.L0 y0 y1 y2) := Sup.of_mono fun k => laws_eqIntS.mono_l k y0 y1 y2
noncomputable def laws_eqIntS.F (l0 : List Int) (l1 : List Int) : Option (Bool) := lim fun k => laws_eqIntS.f k l0 l1
theorem laws_eqIntS.F_sup (l0 : List Int) (l1 : List Int) : Sup (fun k => laws_eqIntS.f k l0 l1) (laws_eqIntS.F l0 l1) := Sup.of_mono fun k => laws_eqIntS.mono l0 l1 k
theorem laws_eqIntS.L0_eq (x0 : List Int) (x1 : List Int) (x5 : Int) : laws_eqIntS.L0 x0 x1 x5 = if x5 < (x0.length : Int) then (if 0 ≤ x5 then (if x5 < (x1.length : Int) then (if (rd x0 x5) = (rd x1 x5) then (laws_eqIntS.L0 x0 x1 (wrap64 (x5 + 1))) else (some false)) else (none)) else (none)) else (some true) := by
  refine Sup.unique (laws_eqIntS.L0_sup x0 x1 x5) (Sup.shift (fun k => laws_eqIntS.mono_l k x0 x1 x5) (Sup.congr (g' := fun k => if x5 < (x0.length : Int) then (if 0 ≤ x5 then (if x5 < (x1.length : Int) then (if (rd x0 x5) = (rd x1 x5) then (laws_eqIntS.l0 k x0 x1 (wrap64 (x5 + 1))) else (some false)) else (none)) else (none)) else (some true)) (fun k => by first | rfl | simp only [laws_eqIntS.l0]) ?_))
  repeat' first
    | (with_reducible exact laws_eqIntS.L0_sup _ _ _)
    | (with_reducible refine Sup.ite ?_ ?_)
    | (with_reducible refine Sup.bind ?_ (fun _ => ?_))
    | (with_reducible exact Sup.const _)
    | exact laws_eqIntS.L0_sup _ _ _
    | exact Sup.const _
theorem laws_eqIntS.F_eq (l0 : List Int) (l1 : List Int) : laws_eqIntS.F l0 l1 = if (l0.length : Int) = (l1.length : Int) then (laws_eqIntS.L0 l0 l1 0) else (some false) := by
  refine Sup.unique (laws_eqIntS.F_sup l0 l1) (Sup.congr (g' := fun k => if (l0.length : Int) = (l1.length : Int) then (laws_eqIntS.l0 k l0 l1 0) else (some false)) (fun k => by first | rfl | simp only [laws_eqIntS.f]) ?_)
  repeat' first
    | (with_reducible exact laws_eqIntS.L0_sup _ _ _)
    | (with_reducible refine Sup.ite ?_ ?_)
    | (with_reducible refine Sup.bind ?_ (fun _ => ?_))
    | (with_reducible exact Sup.const _)
    | exact laws_eqIntS.L0_sup _ _ _
    | exact Sup.const _
set_option maxHeartbeats 8000000 in
set_option maxRecDepth 100000 in
theorem laws_eqIntS.calls (k : Nat) (A0 : Option Addr) (c0 : Nat) (l0 : List Int) (A1 : Option Addr) (c1 : Nat) (l1 : List Int) (r : Bool) (w : World) (hr0 : Kd.C (Kd.int .i64) w A0 l0.length l0) (hc0 : l0.length ≤ c0) (hr1 : Kd.C (Kd.int .i64) w A1 l1.length l1) (hc1 : l1.length ≤ c1) (h : laws_eqIntS.f k l0 l1 = some r) :
    Calls Try.prog 19 #[.slice A0 l0.length c0, .slice A1 l1.length c1] w fun e w' => e = .returned (.bool r) ∧ Drawn0 w w' := by
  have HR0 := Aside0.mk hr0
  have HC0 := Aside0.mk hc0
  clear hr0 hc0
  have HR1 := Aside0.mk hr1
  have HC1 := Aside0.mk hc1
  clear hr1 hc1
  have H : (if (l0.length : Int) = (l1.length : Int) then (laws_eqIntS.l0 k l0 l1 0) else (some false)) = some r := h
  clear h
  by_cases c3 : (l0.length : Int) = (l1.length : Int)
  ·rw [if_pos c3] at H
   have c3b0 : ((l0.length : Int) == (l1.length : Int)) = true := beq_iff_eq.mpr c3
   have c3b1 : ((l0.length : Int) != (l1.length : Int)) = false := bne_eq_false_iff_eq.mpr c3
   have c3b2 : (l0.length == l1.length) = true := by first | simpa using c3 | (simp at c3 ⊢; omega)
   clear c3
   have H' := Aside0.mk H
   clear H
   go_enter Try.func19, Try.ntmps19
   go_wp2
   repeat (go_quiet (fail); try go_wp2)
   go_loopg [5] k (fun kq v5 w' => ∃ (x5_1 : Int), v5 = .int .i64 x5_1 ∧ Aside0 (laws_eqIntS.l0 kq l0 l1 x5_1 = some r) ∧ Aside0 (kq ≤ k) ∧ Drawn0 w w')
   case atStart => exact ⟨(0), rg_, H', ⟨Nat.le_refl _⟩, by repeat (first | exact Drawn0.refl _ | apply Drawn0.step)⟩
   case round =>
    clear H'
    try clear c1
    try clear p2
    try clear c3
    try clear c3b0
    try clear c3b1
    try clear c3b2
    obtain ⟨x5_1, rfl, HA, HK1, ⟨m1, rfl⟩⟩ := hrel
    cases gk with
    | zero => exact absurd HA.out (by simp [laws_eqIntS.l0])
    | succ k1 =>
     have H := HA.out
     clear HA
     simp only [laws_eqIntS.l0] at H
     by_cases c4 : x5_1 < (l0.length : Int)
     ·rw [if_pos c4] at H
      have c4b0 : decide (x5_1 < (l0.length : Int)) = true := decide_eq_true c4
      clear c4
      by_cases c5 : 0 ≤ x5_1
      ·rw [if_pos c5] at H
       have c5b0 : decide (0 ≤ x5_1) = true := decide_eq_true c5
       clear c5
       by_cases c6 : x5_1 < (l1.length : Int)
       ·rw [if_pos c6] at H
        have c6b0 : decide (x5_1 < (l1.length : Int)) = true := decide_eq_true c6
        clear c6
        by_cases c7 : (rd l0 x5_1) = (rd l1 x5_1)
        ·rw [if_pos c7] at H
         have c7b0 : ((rd l0 x5_1) == (rd l1 x5_1)) = true := beq_iff_eq.mpr c7
         have c7b1 : ((rd l0 x5_1) != (rd l1 x5_1)) = false := bne_eq_false_iff_eq.mpr c7
         clear c7
         have H' := Aside0.mk H
         clear H
         have p262 : 0 ≤ (x5_1 : Int) := of_decide_eq_true as_
         have q262 : x5_1 < (l0.length : Int) := of_decide_eq_true as_
         obtain ⟨ad262, e262, hx262_0⟩ := Kd.at_int HR0.out x5_1 p262 q262
         cases e262
         replace p262 := eq_true p262
         replace q262 := eq_true q262
         have p263 : 0 ≤ (x5_1 : Int) := of_decide_eq_true as_
         have q263 : x5_1 < (l1.length : Int) := of_decide_eq_true as_
         obtain ⟨ad263, e263, hx263_0⟩ := Kd.at_int HR1.out x5_1 p263 q263
         cases e263
         replace p263 := eq_true p263
         replace q263 := eq_true q263
         go_wp2
         repeat (go_quiet (fail); try go_wp2)
         go_roundg k1
         case measure => have := HK1.out; omega
         case rel => exact ⟨(wrap64 (x5_1 + 1)), rg_, H', ⟨by have := HK1.out; omega⟩, by repeat (first | exact Drawn0.refl _ | apply Drawn0.step)⟩
        ·rw [if_neg c7] at H
         have c7b0 : ((rd l0 x5_1) == (rd l1 x5_1)) = false := beq_eq_false_iff_ne.mpr c7
         have c7b1 : ((rd l0 x5_1) != (rd l1 x5_1)) = true := bne_iff_ne.mpr c7
         obtain rfl := Option.some.inj H
         have p262 : 0 ≤ (x5_1 : Int) := of_decide_eq_true as_
         have q262 : x5_1 < (l0.length : Int) := of_decide_eq_true as_
         obtain ⟨ad262, e262, hx262_0⟩ := Kd.at_int HR0.out x5_1 p262 q262
         cases e262
         replace p262 := eq_true p262
         replace q262 := eq_true q262
         have p263 : 0 ≤ (x5_1 : Int) := of_decide_eq_true as_
         have q263 : x5_1 < (l1.length : Int) := of_decide_eq_true as_
         obtain ⟨ad263, e263, hx263_0⟩ := Kd.at_int HR1.out x5_1 p263 q263
         cases e263
         replace p263 := eq_true p263
         replace q263 := eq_true q263
         go_wp2
         repeat (go_quiet (fail); try go_wp2)
         go_ret
         exact ⟨rg_, by repeat (first | exact Drawn0.refl _ | apply Drawn0.step)⟩
       ·rw [if_neg c6] at H
        exact absurd H (by simp)
      ·rw [if_neg c5] at H
       exact absurd H (by simp)
     ·rw [if_neg c4] at H
      have c4b0 : decide (x5_1 < (l0.length : Int)) = false := decide_eq_false c4
      clear c4
      obtain rfl := Option.some.inj H
      go_wp2
      repeat (go_quiet (fail); try go_wp2)
      go_ret
      exact ⟨rg_, by repeat (first | exact Drawn0.refl _ | apply Drawn0.step)⟩
  ·rw [if_neg c3] at H
   have c3b0 : ((l0.length : Int) == (l1.length : Int)) = false := beq_eq_false_iff_ne.mpr c3
   have c3b1 : ((l0.length : Int) != (l1.length : Int)) = true := bne_iff_ne.mpr c3
   have c3b2 : (l0.length == l1.length) = false := by first | simpa using c3 | (simp at c3 ⊢; omega)
   obtain rfl := Option.some.inj H
   go_enter Try.func19, Try.ntmps19
   go_wp2
   repeat (go_quiet (fail); try go_wp2)
   go_ret
   exact ⟨rg_, by repeat (first | exact Drawn0.refl _ | apply Drawn0.step)⟩
/-! ### laws_eqIntSS: function 8 -/
def laws_eqIntSS.l0 : Nat → List (List Int) → List (List Int) → Int → Option (Bool)
  | 0, _, _, _ => none
  | k + 1, x0, x1, x5 => if x5 < (x0.length : Int) then (if 0 ≤ x5 then (if x5 < (x1.length : Int) then ((laws_eqIntS.f k (rd_L1 x0 x5) (rd_L1 x1 x5)).bind fun t266 => (if t266 = true then (laws_eqIntSS.l0 k x0 x1 (wrap64 (x5 + 1))) else (some false))) else (none)) else (none)) else (some true)
def laws_eqIntSS.f (k : Nat) (l0 : List (List Int)) (l1 : List (List Int)) : Option (Bool) := if (l0.length : Int) = (l1.length : Int) then (laws_eqIntSS.l0 k l0 l1 0) else (some false)
theorem laws_eqIntSS.mono_l : ∀ k, (∀ y0 y1 y2, LeO (laws_eqIntSS.l0 k y0 y1 y2) (laws_eqIntSS.l0 (k + 1) y0 y1 y2))
  | 0 => fun _ _ _ r h => by simp [laws_eqIntSS.l0] at h
  | k + 1 => by
    have ih0 := laws_eqIntSS.mono_l k
    · intro y0 y1 y2
      unfold laws_eqIntSS.l0
      repeat' first
      | (with_reducible exact ih0 _ _ _)
      | (with_reducible exact laws_eqIntS.mono _ _ _)
      | (with_reducible exact LeO.refl _)
      | (with_reducible exact LeO.none _)
      | (with_reducible refine LeO.ite ?_ ?_)
      | (with_reducible refine LeO.bind ?_ (fun _ => ?_))
      | exact ih0 _ _ _
      | exact laws_eqIntS.mono _ _ _
      | exact LeO.none _
      | refine LeO.ite ?_ ?_
      | refine LeO.bind ?_ (fun _ => ?_)
theorem laws_eqIntSS.mono : ∀ a0 a1 k, LeO (laws_eqIntSS.f k a0 a1) (laws_eqIntSS.f (k + 1) a0 a1) := by
  intro a0 a1 k
  have ih0 := laws_eqIntSS.mono_l k
  unfold laws_eqIntSS.f
  repeat' first
      | (with_reducible exact ih0 _ _ _)
      | (with_reducible exact laws_eqIntS.mono _ _ _)
      | (with_reducible exact LeO.refl _)
      | (with_reducible exact LeO.none _)
      | (with_reducible refine LeO.ite ?_ ?_)
      | (with_reducible refine LeO.bind ?_ (fun _ => ?_))
      | exact ih0 _ _ _
      | exact laws_eqIntS.mono _ _ _
      | exact LeO.none _
      | refine LeO.ite ?_ ?_
      | refine LeO.bind ?_ (fun _ => ?_)
noncomputable def laws_eqIntSS.L0 (y0 : List (List Int)) (y1 : List (List Int)) (y2 : Int) : Option (Bool) := lim fun k => laws_eqIntSS.l0 k y0 y1 y2
theorem laws_eqIntSS.L0_sup (y0 : List (List Int)) (y1 : List (List Int)) (y2 : Int) : Sup (fun k => laws_eqIntSS.l0 k y0 y1 y2) (laws_eqIntSS.L0 y0 y1 y2) := Sup.of_mono fun k => laws_eqIntSS.mono_l k y0 y1 y2
noncomputable def laws_eqIntSS.F (l0 : List (List Int)) (l1 : List (List Int)) : Option (Bool) := lim fun k => laws_eqIntSS.f k l0 l1
theorem laws_eqIntSS.F_sup (l0 : List (List Int)) (l1 : List (List Int)) : Sup (fun k => laws_eqIntSS.f k l0 l1) (laws_eqIntSS.F l0 l1) := Sup.of_mono fun k => laws_eqIntSS.mono l0 l1 k
theorem laws_eqIntSS.L0_eq (x0 : List (List Int)) (x1 : List (List Int)) (x5 : Int) : laws_eqIntSS.L0 x0 x1 x5 = if x5 < (x0.length : Int) then (if 0 ≤ x5 then (if x5 < (x1.length : Int) then ((laws_eqIntS.F (rd_L1 x0 x5) (rd_L1 x1 x5)).bind fun t266 => (if t266 = true then (laws_eqIntSS.L0 x0 x1 (wrap64 (x5 + 1))) else (some false))) else (none)) else (none)) else (some true) := by
  refine Sup.unique (laws_eqIntSS.L0_sup x0 x1 x5) (Sup.shift (fun k => laws_eqIntSS.mono_l k x0 x1 x5) (Sup.congr (g' := fun k => if x5 < (x0.length : Int) then (if 0 ≤ x5 then (if x5 < (x1.length : Int) then ((laws_eqIntS.f k (rd_L1 x0 x5) (rd_L1 x1 x5)).bind fun t266 => (if t266 = true then (laws_eqIntSS.l0 k x0 x1 (wrap64 (x5 + 1))) else (some false))) else (none)) else (none)) else (some true)) (fun k => by first | rfl | simp only [laws_eqIntSS.l0]) ?_))
  repeat' first
    | (with_reducible exact laws_eqIntSS.L0_sup _ _ _)
    | (with_reducible exact laws_eqIntS.F_sup _ _)
    | (with_reducible refine Sup.ite ?_ ?_)
    | (with_reducible refine Sup.bind ?_ (fun _ => ?_))
    | (with_reducible exact Sup.const _)
    | exact laws_eqIntSS.L0_sup _ _ _
    | exact laws_eqIntS.F_sup _ _
    | exact Sup.const _
theorem laws_eqIntSS.F_eq (l0 : List (List Int)) (l1 : List (List Int)) : laws_eqIntSS.F l0 l1 = if (l0.length : Int) = (l1.length : Int) then (laws_eqIntSS.L0 l0 l1 0) else (some false) := by
  refine Sup.unique (laws_eqIntSS.F_sup l0 l1) (Sup.congr (g' := fun k => if (l0.length : Int) = (l1.length : Int) then (laws_eqIntSS.l0 k l0 l1 0) else (some false)) (fun k => by first | rfl | simp only [laws_eqIntSS.f]) ?_)
  repeat' first
    | (with_reducible exact laws_eqIntSS.L0_sup _ _ _)
    | (with_reducible exact laws_eqIntS.F_sup _ _)
    | (with_reducible refine Sup.ite ?_ ?_)
    | (with_reducible refine Sup.bind ?_ (fun _ => ?_))
    | (with_reducible exact Sup.const _)
    | exact laws_eqIntSS.L0_sup _ _ _
    | exact laws_eqIntS.F_sup _ _
    | exact Sup.const _
set_option maxHeartbeats 8000000 in
set_option maxRecDepth 100000 in
theorem laws_eqIntSS.calls (k : Nat) (A0 : Option Addr) (c0 : Nat) (l0 : List (List Int)) (A1 : Option Addr) (c1 : Nat) (l1 : List (List Int)) (r : Bool) (w : World) (hr0 : Kd.C (Kd.slice 3 (Kd.int .i64)) w A0 l0.length l0) (hc0 : l0.length ≤ c0) (hr1 : Kd.C (Kd.slice 3 (Kd.int .i64)) w A1 l1.length l1) (hc1 : l1.length ≤ c1) (h : laws_eqIntSS.f k l0 l1 = some r) :
    Calls Try.prog 8 #[.slice A0 l0.length c0, .slice A1 l1.length c1] w fun e w' => e = .returned (.bool r) ∧ Drawn0 w w' := by
  have hu36 := Try.underlying36
  have HR0 := Aside0.mk hr0
  have HC0 := Aside0.mk hc0
  clear hr0 hc0
  have HR1 := Aside0.mk hr1
  have HC1 := Aside0.mk hc1
  clear hr1 hc1
  have H : (if (l0.length : Int) = (l1.length : Int) then (laws_eqIntSS.l0 k l0 l1 0) else (some false)) = some r := h
  clear h
  by_cases c3 : (l0.length : Int) = (l1.length : Int)
  ·rw [if_pos c3] at H
   have c3b0 : ((l0.length : Int) == (l1.length : Int)) = true := beq_iff_eq.mpr c3
   have c3b1 : ((l0.length : Int) != (l1.length : Int)) = false := bne_eq_false_iff_eq.mpr c3
   have c3b2 : (l0.length == l1.length) = true := by first | simpa using c3 | (simp at c3 ⊢; omega)
   clear c3
   have H' := Aside0.mk H
   clear H
   go_enter Try.func8, Try.ntmps8
   go_wp2
   repeat (go_quiet (fail); try go_wp2)
   go_loopg [5] k (fun kq v5 w' => ∃ (x5_1 : Int), v5 = .int .i64 x5_1 ∧ Aside0 (laws_eqIntSS.l0 kq l0 l1 x5_1 = some r) ∧ Aside0 (kq ≤ k) ∧ Drawn0 w w')
   case atStart => exact ⟨(0), rg_, H', ⟨Nat.le_refl _⟩, by repeat (first | exact Drawn0.refl _ | apply Drawn0.step)⟩
   case round =>
    clear H'
    try clear c1
    try clear p2
    try clear c3
    try clear c3b0
    try clear c3b1
    try clear c3b2
    obtain ⟨x5_1, rfl, HA, HK1, ⟨m1, rfl⟩⟩ := hrel
    cases gk with
    | zero => exact absurd HA.out (by simp [laws_eqIntSS.l0])
    | succ k1 =>
     have H := HA.out
     clear HA
     simp only [laws_eqIntSS.l0] at H
     by_cases c4 : x5_1 < (l0.length : Int)
     ·rw [if_pos c4] at H
      have c4b0 : decide (x5_1 < (l0.length : Int)) = true := decide_eq_true c4
      clear c4
      by_cases c5 : 0 ≤ x5_1
      ·rw [if_pos c5] at H
       have c5b0 : decide (0 ≤ x5_1) = true := decide_eq_true c5
       clear c5
       by_cases c6 : x5_1 < (l1.length : Int)
       ·rw [if_pos c6] at H
        have c6b0 : decide (x5_1 < (l1.length : Int)) = true := decide_eq_true c6
        clear c6
        replace H := Option.bind_eq_some_iff.mp H
        obtain ⟨t266, A70, H⟩ := H
        replace H : (if t266 = true then (laws_eqIntSS.l0 k1 l0 l1 (wrap64 (x5_1 + 1))) else (some false)) = some r := H
        have A7 := Aside0.mk A70
        clear A70
        by_cases c8 : t266 = true
        ·subst c8
         have H1 : (laws_eqIntSS.l0 k1 l0 l1 (wrap64 (x5_1 + 1))) = some r := by rw [if_pos rfl] at H; exact H
         clear H
         have H := H1
         clear H1
         have H' := Aside0.mk H
         clear H
         have p264 : 0 ≤ (x5_1 : Int) := of_decide_eq_true as_
         have q264 : x5_1 < (l0.length : Int) := of_decide_eq_true as_
         obtain ⟨ad264, A264_0, c264_0, e264, hx264_0, hl264_0, hi264_0⟩ := at_L1 HR0.out x5_1 p264 q264
         cases e264
         have HR264_0 := Aside0.mk hi264_0
         have HC264_0 := Aside0.mk hl264_0
         clear hi264_0 hl264_0
         replace p264 := eq_true p264
         replace q264 := eq_true q264
         have p265 : 0 ≤ (x5_1 : Int) := of_decide_eq_true as_
         have q265 : x5_1 < (l1.length : Int) := of_decide_eq_true as_
         obtain ⟨ad265, A265_0, c265_0, e265, hx265_0, hl265_0, hi265_0⟩ := at_L1 HR1.out x5_1 p265 q265
         cases e265
         have HR265_0 := Aside0.mk hi265_0
         have HC265_0 := Aside0.mk hl265_0
         clear hi265_0 hl265_0
         replace p265 := eq_true p265
         replace q265 := eq_true q265
         go_wp2_with (first | (go_at_call 19; (with_reducible refine (laws_eqIntS.calls k1 _ _ (rd_L1 l0 x5_1) _ _ (rd_L1 l1 x5_1) true _ ?side1 ?side2 ?side3 ?side4 A7.out).mono ?_); (case side1 => exact kE_ HR264_0); (case side2 => exact HC264_0.out); (case side3 => exact kE_ HR265_0); (case side4 => exact HC265_0.out); rintro e w' ⟨rfl, ⟨nd, rfl⟩⟩; (try first | exact ⟨rfl, _, World.drewN_drewN _ _ _⟩ | exact ⟨rfl, _, Eq.trans (World.drewN_drewN _ _ _) (congrArg (World.drewN _) (Nat.add_assoc _ _ _))⟩)))
         repeat (go_quiet (first | (go_at_call 19; (with_reducible refine (laws_eqIntS.calls k1 _ _ (rd_L1 l0 x5_1) _ _ (rd_L1 l1 x5_1) true _ ?side1 ?side2 ?side3 ?side4 A7.out).mono ?_); (case side1 => exact kE_ HR264_0); (case side2 => exact HC264_0.out); (case side3 => exact kE_ HR265_0); (case side4 => exact HC265_0.out); rintro e w' ⟨rfl, ⟨nd, rfl⟩⟩; (try first | exact ⟨rfl, _, World.drewN_drewN _ _ _⟩ | exact ⟨rfl, _, Eq.trans (World.drewN_drewN _ _ _) (congrArg (World.drewN _) (Nat.add_assoc _ _ _))⟩))); try go_wp2_with (first | (go_at_call 19; (with_reducible refine (laws_eqIntS.calls k1 _ _ (rd_L1 l0 x5_1) _ _ (rd_L1 l1 x5_1) true _ ?side1 ?side2 ?side3 ?side4 A7.out).mono ?_); (case side1 => exact kE_ HR264_0); (case side2 => exact HC264_0.out); (case side3 => exact kE_ HR265_0); (case side4 => exact HC265_0.out); rintro e w' ⟨rfl, ⟨nd, rfl⟩⟩; (try first | exact ⟨rfl, _, World.drewN_drewN _ _ _⟩ | exact ⟨rfl, _, Eq.trans (World.drewN_drewN _ _ _) (congrArg (World.drewN _) (Nat.add_assoc _ _ _))⟩))))
         go_roundg k1
         case measure => have := HK1.out; omega
         case rel => exact ⟨(wrap64 (x5_1 + 1)), rg_, H', ⟨by have := HK1.out; omega⟩, by repeat (first | exact Drawn0.refl _ | apply Drawn0.step)⟩
        ·replace c8 := Bool.eq_false_iff.mpr c8
         subst c8
         have H1 : (some false) = some r := by rw [if_neg (show ¬ (false = true) by decide)] at H; exact H
         clear H
         have H := H1
         clear H1
         obtain rfl := Option.some.inj H
         have p264 : 0 ≤ (x5_1 : Int) := of_decide_eq_true as_
         have q264 : x5_1 < (l0.length : Int) := of_decide_eq_true as_
         obtain ⟨ad264, A264_0, c264_0, e264, hx264_0, hl264_0, hi264_0⟩ := at_L1 HR0.out x5_1 p264 q264
         cases e264
         have HR264_0 := Aside0.mk hi264_0
         have HC264_0 := Aside0.mk hl264_0
         clear hi264_0 hl264_0
         replace p264 := eq_true p264
         replace q264 := eq_true q264
         have p265 : 0 ≤ (x5_1 : Int) := of_decide_eq_true as_
         have q265 : x5_1 < (l1.length : Int) := of_decide_eq_true as_
         obtain ⟨ad265, A265_0, c265_0, e265, hx265_0, hl265_0, hi265_0⟩ := at_L1 HR1.out x5_1 p265 q265
         cases e265
         have HR265_0 := Aside0.mk hi265_0
         have HC265_0 := Aside0.mk hl265_0
         clear hi265_0 hl265_0
         replace p265 := eq_true p265
         replace q265 := eq_true q265
         go_wp2_with (first | (go_at_call 19; (with_reducible refine (laws_eqIntS.calls k1 _ _ (rd_L1 l0 x5_1) _ _ (rd_L1 l1 x5_1) false _ ?side1 ?side2 ?side3 ?side4 A7.out).mono ?_); (case side1 => exact kE_ HR264_0); (case side2 => exact HC264_0.out); (case side3 => exact kE_ HR265_0); (case side4 => exact HC265_0.out); rintro e w' ⟨rfl, ⟨nd, rfl⟩⟩; (try first | exact ⟨rfl, _, World.drewN_drewN _ _ _⟩ | exact ⟨rfl, _, Eq.trans (World.drewN_drewN _ _ _) (congrArg (World.drewN _) (Nat.add_assoc _ _ _))⟩)))
         repeat (go_quiet (first | (go_at_call 19; (with_reducible refine (laws_eqIntS.calls k1 _ _ (rd_L1 l0 x5_1) _ _ (rd_L1 l1 x5_1) false _ ?side1 ?side2 ?side3 ?side4 A7.out).mono ?_); (case side1 => exact kE_ HR264_0); (case side2 => exact HC264_0.out); (case side3 => exact kE_ HR265_0); (case side4 => exact HC265_0.out); rintro e w' ⟨rfl, ⟨nd, rfl⟩⟩; (try first | exact ⟨rfl, _, World.drewN_drewN _ _ _⟩ | exact ⟨rfl, _, Eq.trans (World.drewN_drewN _ _ _) (congrArg (World.drewN _) (Nat.add_assoc _ _ _))⟩))); try go_wp2_with (first | (go_at_call 19; (with_reducible refine (laws_eqIntS.calls k1 _ _ (rd_L1 l0 x5_1) _ _ (rd_L1 l1 x5_1) false _ ?side1 ?side2 ?side3 ?side4 A7.out).mono ?_); (case side1 => exact kE_ HR264_0); (case side2 => exact HC264_0.out); (case side3 => exact kE_ HR265_0); (case side4 => exact HC265_0.out); rintro e w' ⟨rfl, ⟨nd, rfl⟩⟩; (try first | exact ⟨rfl, _, World.drewN_drewN _ _ _⟩ | exact ⟨rfl, _, Eq.trans (World.drewN_drewN _ _ _) (congrArg (World.drewN _) (Nat.add_assoc _ _ _))⟩))))
         go_ret
         exact ⟨rg_, by repeat (first | exact Drawn0.refl _ | apply Drawn0.step)⟩
       ·rw [if_neg c6] at H
        exact absurd H (by simp)
      ·rw [if_neg c5] at H
       exact absurd H (by simp)
     ·rw [if_neg c4] at H
      have c4b0 : decide (x5_1 < (l0.length : Int)) = false := decide_eq_false c4
      clear c4
      obtain rfl := Option.some.inj H
      go_wp2
      repeat (go_quiet (fail); try go_wp2)
      go_ret
      exact ⟨rg_, by repeat (first | exact Drawn0.refl _ | apply Drawn0.step)⟩
  ·rw [if_neg c3] at H
   have c3b0 : ((l0.length : Int) == (l1.length : Int)) = false := beq_eq_false_iff_ne.mpr c3
   have c3b1 : ((l0.length : Int) != (l1.length : Int)) = true := bne_iff_ne.mpr c3
   have c3b2 : (l0.length == l1.length) = false := by first | simpa using c3 | (simp at c3 ⊢; omega)
   obtain rfl := Option.some.inj H
   go_enter Try.func8, Try.ntmps8
   go_wp2
   repeat (go_quiet (fail); try go_wp2)
   go_ret
   exact ⟨rg_, by repeat (first | exact Drawn0.refl _ | apply Drawn0.step)⟩
/-! ### laws_eqHyper: function 9 -/
def laws_eqHyper.f (k : Nat) (a0_0 : Int) (l0_1 : List (List Int)) (a1_0 : Int) (l1_1 : List (List Int)) : Option (Bool) := if a0_0 = a1_0 then ((laws_eqIntSS.f k l0_1 l1_1).bind fun t269 => (if t269 = true then (some true) else (some false))) else (some false)
theorem laws_eqHyper.mono : ∀ a0 a1 a2 a3 k, LeO (laws_eqHyper.f k a0 a1 a2 a3) (laws_eqHyper.f (k + 1) a0 a1 a2 a3) := by
  intro a0 a1 a2 a3 k
  unfold laws_eqHyper.f
  repeat' first
      | (with_reducible exact laws_eqIntSS.mono _ _ _)
      | (with_reducible exact LeO.refl _)
      | (with_reducible exact LeO.none _)
      | (with_reducible refine LeO.ite ?_ ?_)
      | (with_reducible refine LeO.bind ?_ (fun _ => ?_))
      | exact laws_eqIntSS.mono _ _ _
      | exact LeO.none _
      | refine LeO.ite ?_ ?_
      | refine LeO.bind ?_ (fun _ => ?_)
noncomputable def laws_eqHyper.F (a0_0 : Int) (l0_1 : List (List Int)) (a1_0 : Int) (l1_1 : List (List Int)) : Option (Bool) := lim fun k => laws_eqHyper.f k a0_0 l0_1 a1_0 l1_1
theorem laws_eqHyper.F_sup (a0_0 : Int) (l0_1 : List (List Int)) (a1_0 : Int) (l1_1 : List (List Int)) : Sup (fun k => laws_eqHyper.f k a0_0 l0_1 a1_0 l1_1) (laws_eqHyper.F a0_0 l0_1 a1_0 l1_1) := Sup.of_mono fun k => laws_eqHyper.mono a0_0 l0_1 a1_0 l1_1 k
theorem laws_eqHyper.F_eq (a0_0 : Int) (l0_1 : List (List Int)) (a1_0 : Int) (l1_1 : List (List Int)) : laws_eqHyper.F a0_0 l0_1 a1_0 l1_1 = if a0_0 = a1_0 then ((laws_eqIntSS.F l0_1 l1_1).bind fun t269 => (if t269 = true then (some true) else (some false))) else (some false) := by
  refine Sup.unique (laws_eqHyper.F_sup a0_0 l0_1 a1_0 l1_1) (Sup.congr (g' := fun k => if a0_0 = a1_0 then ((laws_eqIntSS.f k l0_1 l1_1).bind fun t269 => (if t269 = true then (some true) else (some false))) else (some false)) (fun k => by first | rfl | simp only [laws_eqHyper.f]) ?_)
  repeat' first
    | (with_reducible exact laws_eqIntSS.F_sup _ _)
    | (with_reducible refine Sup.ite ?_ ?_)
    | (with_reducible refine Sup.bind ?_ (fun _ => ?_))
    | (with_reducible exact Sup.const _)
    | exact laws_eqIntSS.F_sup _ _
    | exact Sup.const _
set_option maxHeartbeats 8000000 in
set_option maxRecDepth 100000 in
theorem laws_eqHyper.calls (k : Nat) (a0_0 : Int) (A0_1 : Option Addr) (c0_1 : Nat) (l0_1 : List (List Int)) (a1_0 : Int) (A1_1 : Option Addr) (c1_1 : Nat) (l1_1 : List (List Int)) (r : Bool) (w : World) (hr0_1 : Kd.C (Kd.slice 3 (Kd.int .i64)) w A0_1 l0_1.length l0_1) (hc0_1 : l0_1.length ≤ c0_1) (hr1_1 : Kd.C (Kd.slice 3 (Kd.int .i64)) w A1_1 l1_1.length l1_1) (hc1_1 : l1_1.length ≤ c1_1) (h : laws_eqHyper.f k a0_0 l0_1 a1_0 l1_1 = some r) :
    Calls Try.prog 9 #[.agg #[.int .i64 a0_0, .slice A0_1 l0_1.length c0_1], .agg #[.int .i64 a1_0, .slice A1_1 l1_1.length c1_1]] w fun e w' => e = .returned (.bool r) ∧ Below w.heap.size w w' := by
  have hu28 := Try.underlying28
  have hu22 := Try.underlying22
  have HR0_1 := Aside0.mk hr0_1
  have HC0_1 := Aside0.mk hc0_1
  clear hr0_1 hc0_1
  have HR1_1 := Aside0.mk hr1_1
  have HC1_1 := Aside0.mk hc1_1
  clear hr1_1 hc1_1
  have HB := Aside0.mk (Below.refl w.heap.size w)
  have H : (if a0_0 = a1_0 then ((laws_eqIntSS.f k l0_1 l1_1).bind fun t269 => (if t269 = true then (some true) else (some false))) else (some false)) = some r := h
  clear h
  by_cases c3 : a0_0 = a1_0
  ·rw [if_pos c3] at H
   have c3b0 : (a0_0 == a1_0) = true := beq_iff_eq.mpr c3
   have c3b1 : (a0_0 != a1_0) = false := bne_eq_false_iff_eq.mpr c3
   clear c3
   replace H := Option.bind_eq_some_iff.mp H
   obtain ⟨t269, A40, H⟩ := H
   replace H : (if t269 = true then (some true) else (some false)) = some r := H
   have A4 := Aside0.mk A40
   clear A40
   by_cases c5 : t269 = true
   ·subst c5
    have H1 : (some true) = some r := by rw [if_pos rfl] at H; exact H
    clear H
    have H := H1
    clear H1
    obtain rfl := Option.some.inj H
    go_enter Try.func9, Try.ntmps9
    go_wp2_with (first | ((with_reducible refine gate_dst (N := 2) rfl ?_); refine bx_ 2 #[.int .i64 a0_0, .slice A0_1 l0_1.length c0_1] 28 ?_; intro gb267 hg w6 hbox hb; have BK267 := Aside0.mk (hbox); have GW267 := Aside0.mk ((ge_ hg)); have GE267 := Aside0.mk ((ge_ hg)); replace HB := Aside0.mk (below_step hB_ hb); clear hb hbox hg) | ((with_reducible refine gate_dst (N := 3) rfl ?_); refine bx_ 3 #[.int .i64 a1_0, .slice A1_1 l1_1.length c1_1] 28 ?_; intro gb268 hg w7 hbox hb; have BK268 := Aside0.mk (hbox); have GW268 := Aside0.mk ((ge_ hg)); have GE268 := Aside0.mk ((ge_ hg)); replace HB := Aside0.mk (below_step hB_ hb); have NB267_268 := Aside0.mk ((ne_ hg BK267)); have NB268_267 := Aside0.mk ((nf_ hg BK267)); replace BK267 := Aside0.mk (blk_below (kB_ BK267) hb); clear hb hbox hg; have hnb8 := NB267_268.out; have hnc8 := NB268_267.out; have hcz9_0 : w7.cell? ⟨gb267, 0, none⟩ = some (.int .i64 a0_0) := (blk_cell BK267.out 0).trans rfl; have hcz9_1 : w7.cell? ⟨gb267, 1, none⟩ = some (.slice A0_1 l0_1.length c0_1) := (blk_cell BK267.out 1).trans rfl; have hfz9_0 := blk_frozen BK267.out 0; have hfz9_1 := blk_frozen BK267.out 1; have hcz10_0 : w7.cell? ⟨gb268, 0, none⟩ = some (.int .i64 a1_0) := (blk_cell BK268.out 0).trans rfl; have hcz10_1 : w7.cell? ⟨gb268, 1, none⟩ = some (.slice A1_1 l1_1.length c1_1) := (blk_cell BK268.out 1).trans rfl; have hfz10_0 := blk_frozen BK268.out 0; have hfz10_1 := blk_frozen BK268.out 1) | ((with_reducible refine gate_callee (f := 8) rfl ?_); refine gl_ 14 Try.func8 #[.slice A0_1 l0_1.length c0_1, .slice A1_1 l1_1.length c1_1] ?_; (with_reducible refine (laws_eqIntSS.calls k _ _ l0_1 _ _ l1_1 true _ ?side1 ?side2 ?side3 ?side4 A4.out).mono ?_); (case side1 => exact kC_ HR0_1); (case side2 => exact HC0_1.out); (case side3 => exact kC_ HR1_1); (case side4 => exact HC1_1.out); rintro e w' ⟨rfl, ⟨nd, rfl⟩⟩; refine ⟨_, rfl, ?_⟩))
    go_ret
    exact ⟨rf_, hB_⟩
   ·replace c5 := Bool.eq_false_iff.mpr c5
    subst c5
    have H1 : (some false) = some r := by rw [if_neg (show ¬ (false = true) by decide)] at H; exact H
    clear H
    have H := H1
    clear H1
    obtain rfl := Option.some.inj H
    go_enter Try.func9, Try.ntmps9
    go_wp2_with (first | ((with_reducible refine gate_dst (N := 2) rfl ?_); refine bx_ 2 #[.int .i64 a0_0, .slice A0_1 l0_1.length c0_1] 28 ?_; intro gb267 hg w11 hbox hb; have BK267 := Aside0.mk (hbox); have GW267 := Aside0.mk ((ge_ hg)); have GE267 := Aside0.mk ((ge_ hg)); replace HB := Aside0.mk (below_step hB_ hb); clear hb hbox hg) | ((with_reducible refine gate_dst (N := 3) rfl ?_); refine bx_ 3 #[.int .i64 a1_0, .slice A1_1 l1_1.length c1_1] 28 ?_; intro gb268 hg w12 hbox hb; have BK268 := Aside0.mk (hbox); have GW268 := Aside0.mk ((ge_ hg)); have GE268 := Aside0.mk ((ge_ hg)); replace HB := Aside0.mk (below_step hB_ hb); have NB267_268 := Aside0.mk ((ne_ hg BK267)); have NB268_267 := Aside0.mk ((nf_ hg BK267)); replace BK267 := Aside0.mk (blk_below (kB_ BK267) hb); clear hb hbox hg; have hnb13 := NB267_268.out; have hnc13 := NB268_267.out; have hcz14_0 : w12.cell? ⟨gb267, 0, none⟩ = some (.int .i64 a0_0) := (blk_cell BK267.out 0).trans rfl; have hcz14_1 : w12.cell? ⟨gb267, 1, none⟩ = some (.slice A0_1 l0_1.length c0_1) := (blk_cell BK267.out 1).trans rfl; have hfz14_0 := blk_frozen BK267.out 0; have hfz14_1 := blk_frozen BK267.out 1; have hcz15_0 : w12.cell? ⟨gb268, 0, none⟩ = some (.int .i64 a1_0) := (blk_cell BK268.out 0).trans rfl; have hcz15_1 : w12.cell? ⟨gb268, 1, none⟩ = some (.slice A1_1 l1_1.length c1_1) := (blk_cell BK268.out 1).trans rfl; have hfz15_0 := blk_frozen BK268.out 0; have hfz15_1 := blk_frozen BK268.out 1) | ((with_reducible refine gate_callee (f := 8) rfl ?_); refine gl_ 14 Try.func8 #[.slice A0_1 l0_1.length c0_1, .slice A1_1 l1_1.length c1_1] ?_; (with_reducible refine (laws_eqIntSS.calls k _ _ l0_1 _ _ l1_1 false _ ?side1 ?side2 ?side3 ?side4 A4.out).mono ?_); (case side1 => exact kC_ HR0_1); (case side2 => exact HC0_1.out); (case side3 => exact kC_ HR1_1); (case side4 => exact HC1_1.out); rintro e w' ⟨rfl, ⟨nd, rfl⟩⟩; refine ⟨_, rfl, ?_⟩))
    go_ret
    exact ⟨rf_, hB_⟩
  ·rw [if_neg c3] at H
   have c3b0 : (a0_0 == a1_0) = false := beq_eq_false_iff_ne.mpr c3
   have c3b1 : (a0_0 != a1_0) = true := bne_iff_ne.mpr c3
   obtain rfl := Option.some.inj H
   go_enter Try.func9, Try.ntmps9
   go_wp2_with (first | ((with_reducible refine gate_dst (N := 2) rfl ?_); refine bx_ 2 #[.int .i64 a0_0, .slice A0_1 l0_1.length c0_1] 28 ?_; intro gb267 hg w16 hbox hb; have BK267 := Aside0.mk (hbox); have GW267 := Aside0.mk ((ge_ hg)); have GE267 := Aside0.mk ((ge_ hg)); replace HB := Aside0.mk (below_step hB_ hb); clear hb hbox hg) | ((with_reducible refine gate_dst (N := 3) rfl ?_); refine bx_ 3 #[.int .i64 a1_0, .slice A1_1 l1_1.length c1_1] 28 ?_; intro gb268 hg w17 hbox hb; have BK268 := Aside0.mk (hbox); have GW268 := Aside0.mk ((ge_ hg)); have GE268 := Aside0.mk ((ge_ hg)); replace HB := Aside0.mk (below_step hB_ hb); have NB267_268 := Aside0.mk ((ne_ hg BK267)); have NB268_267 := Aside0.mk ((nf_ hg BK267)); replace BK267 := Aside0.mk (blk_below (kB_ BK267) hb); clear hb hbox hg; have hnb18 := NB267_268.out; have hnc18 := NB268_267.out; have hcz19_0 : w17.cell? ⟨gb267, 0, none⟩ = some (.int .i64 a0_0) := (blk_cell BK267.out 0).trans rfl; have hcz19_1 : w17.cell? ⟨gb267, 1, none⟩ = some (.slice A0_1 l0_1.length c0_1) := (blk_cell BK267.out 1).trans rfl; have hfz19_0 := blk_frozen BK267.out 0; have hfz19_1 := blk_frozen BK267.out 1; have hcz20_0 : w17.cell? ⟨gb268, 0, none⟩ = some (.int .i64 a1_0) := (blk_cell BK268.out 0).trans rfl; have hcz20_1 : w17.cell? ⟨gb268, 1, none⟩ = some (.slice A1_1 l1_1.length c1_1) := (blk_cell BK268.out 1).trans rfl; have hfz20_0 := blk_frozen BK268.out 0; have hfz20_1 := blk_frozen BK268.out 1))
   go_ret
   exact ⟨rf_, hB_⟩
/-! ### laws_markIntS: function 20 -/
def laws_markIntS.l0 : Nat → List Int → Int → Int → Option (Int × List Int)
  | 0, _, _, _ => none
  | k + 1, x0, x1, x5 => if x5 < (x0.length : Int) then (if 0 ≤ x5 then (laws_markIntS.l0 k (x0.set (x5 : Int).toNat x1) (wrap64 (x1 + 1)) (wrap64 (x5 + 1))) else (none)) else (some (x1, x0))
def laws_markIntS.f (k : Nat) (l0 : List Int) (a1 : Int) : Option (Int × List Int) := laws_markIntS.l0 k l0 a1 0
theorem laws_markIntS.mono_l : ∀ k, (∀ y0 y1 y2, LeO (laws_markIntS.l0 k y0 y1 y2) (laws_markIntS.l0 (k + 1) y0 y1 y2))
  | 0 => fun _ _ _ r h => by simp [laws_markIntS.l0] at h
  | k + 1 => by
    have ih0 := laws_markIntS.mono_l k
    · intro y0 y1 y2
      unfold laws_markIntS.l0
      repeat' first
      | (with_reducible exact ih0 _ _ _)
      | (with_reducible exact LeO.refl _)
      | (with_reducible exact LeO.none _)
      | (with_reducible refine LeO.ite ?_ ?_)
      | (with_reducible refine LeO.bind ?_ (fun _ => ?_))
      | exact ih0 _ _ _
      | exact LeO.none _
      | refine LeO.ite ?_ ?_
      | refine LeO.bind ?_ (fun _ => ?_)
theorem laws_markIntS.mono : ∀ a0 a1 k, LeO (laws_markIntS.f k a0 a1) (laws_markIntS.f (k + 1) a0 a1) := by
  intro a0 a1 k
  have ih0 := laws_markIntS.mono_l k
  unfold laws_markIntS.f
  repeat' first
      | (with_reducible exact ih0 _ _ _)
      | (with_reducible exact LeO.refl _)
      | (with_reducible exact LeO.none _)
      | (with_reducible refine LeO.ite ?_ ?_)
      | (with_reducible refine LeO.bind ?_ (fun _ => ?_))
      | exact ih0 _ _ _
      | exact LeO.none _
      | refine LeO.ite ?_ ?_
      | refine LeO.bind ?_ (fun _ => ?_)
noncomputable def laws_markIntS.L0 (y0 : List Int) (y1 : Int) (y2 : Int) : Option (Int × List Int) := lim fun k => laws_markIntS.l0 k y0 y1 y2
theorem laws_markIntS.L0_sup (y0 : List Int) (y1 : Int) (y2 : Int) : Sup (fun k => laws_markIntS.l0 k y0 y1 y2) (laws_markIntS.L0 y0 y1 y2) := Sup.of_mono fun k => laws_markIntS.mono_l k y0 y1 y2
noncomputable def laws_markIntS.F (l0 : List Int) (a1 : Int) : Option (Int × List Int) := lim fun k => laws_markIntS.f k l0 a1
theorem laws_markIntS.F_sup (l0 : List Int) (a1 : Int) : Sup (fun k => laws_markIntS.f k l0 a1) (laws_markIntS.F l0 a1) := Sup.of_mono fun k => laws_markIntS.mono l0 a1 k
theorem laws_markIntS.L0_eq (x0 : List Int) (x1 : Int) (x5 : Int) : laws_markIntS.L0 x0 x1 x5 = if x5 < (x0.length : Int) then (if 0 ≤ x5 then (laws_markIntS.L0 (x0.set (x5 : Int).toNat x1) (wrap64 (x1 + 1)) (wrap64 (x5 + 1))) else (none)) else (some (x1, x0)) := by
  refine Sup.unique (laws_markIntS.L0_sup x0 x1 x5) (Sup.shift (fun k => laws_markIntS.mono_l k x0 x1 x5) (Sup.congr (g' := fun k => if x5 < (x0.length : Int) then (if 0 ≤ x5 then (laws_markIntS.l0 k (x0.set (x5 : Int).toNat x1) (wrap64 (x1 + 1)) (wrap64 (x5 + 1))) else (none)) else (some (x1, x0))) (fun k => by first | rfl | simp only [laws_markIntS.l0]) ?_))
  repeat' first
    | (with_reducible exact laws_markIntS.L0_sup _ _ _)
    | (with_reducible refine Sup.ite ?_ ?_)
    | (with_reducible refine Sup.bind ?_ (fun _ => ?_))
    | (with_reducible exact Sup.const _)
    | exact laws_markIntS.L0_sup _ _ _
    | exact Sup.const _
theorem laws_markIntS.F_eq (l0 : List Int) (a1 : Int) : laws_markIntS.F l0 a1 = laws_markIntS.L0 l0 a1 0 := by
  refine Sup.unique (laws_markIntS.F_sup l0 a1) (Sup.congr (g' := fun k => laws_markIntS.l0 k l0 a1 0) (fun k => by first | rfl | simp only [laws_markIntS.f]) ?_)
  repeat' first
    | (with_reducible exact laws_markIntS.L0_sup _ _ _)
    | (with_reducible refine Sup.ite ?_ ?_)
    | (with_reducible refine Sup.bind ?_ (fun _ => ?_))
    | (with_reducible exact Sup.const _)
    | exact laws_markIntS.L0_sup _ _ _
    | exact Sup.const _
set_option maxHeartbeats 8000000 in
set_option maxRecDepth 100000 in
theorem laws_markIntS.calls (k : Nat) (P0_ : Nat → Prop) (u9000_ : Value) (l0 : List Int) (a1 : Int) (r1 : Int) (r2 : List Int) (w0 w : World) (hB : Below w0.heap.size w0 w) (ho0 : Kd.R (Kd.int .i64) 3 w w0.heap.size P0_ u9000_ l0) (h : laws_markIntS.f k l0 a1 = some (r1, r2)) :
    Calls Try.prog 20 #[u9000_, .int .i64 a1] w fun e w' => e = .returned (.int .i64 r1) ∧ Kd.R (Kd.int .i64) 3 w' w0.heap.size (fun k_ => (P0_ k_ ∨ w.heap.size ≤ k_)) u9000_ r2 ∧ Below w0.heap.size w0 w' ∧ Kept w w' (fun k_ => P0_ k_) := by
  have HO0 := Aside0.mk (show Kd.R (Kd.int .i64) 3 w w0.heap.size (fun k_ => (P0_ k_ ∨ w.heap.size ≤ k_)) u9000_ l0 from Kd.R_mono ho0 (fun k_ hk => (.inl hk)))
  have HK := Aside0.mk (Kept.refl w (fun k_ => P0_ k_))
  have HW0 := Aside0.mk hB.size
  have HB := Aside0.mk hB
  clear hB
  have H : (laws_markIntS.l0 k l0 a1 0) = some (r1, r2) := h
  clear h
  have H' := Aside0.mk H
  clear H
  go_enter Try.func20, Try.ntmps20
  go_wp2
  go_loopg [1, 5] k (fun kq v1 v5 w' => ∃ (x0_1 : List Int) (x1_1 : Int) (x5_1 : Int), v1 = .int .i64 x1_1 ∧ v5 = .int .i64 x5_1 ∧ Aside0 (laws_markIntS.l0 kq x0_1 x1_1 x5_1 = some (r1, r2)) ∧ Aside0 (kq ≤ k) ∧ Aside0 (Kd.R (Kd.int .i64) 3 w' w0.heap.size (fun k_ => (P0_ k_ ∨ w.heap.size ≤ k_)) u9000_ x0_1) ∧ Aside0 (Kept w w' (fun k_ => P0_ k_)) ∧ Aside0 (Below w0.heap.size w0 w'))
  case atStart => exact ⟨(l0), (a1), (0), rg_, rg_, H', ⟨Nat.le_refl _⟩, ⟨kR_ HO0⟩, ⟨by repeat (first | (with_reducible first | exact HK.out | apply Kept.alloc | apply Kept.drewN | apply Kept.drew) | exact HK.out)⟩, ⟨hB_⟩⟩
  case round =>
   clear H'
   try clear c2
   try clear p2
   obtain ⟨x0_1, x1_1, x5_1, rfl, rfl, HA, HK1, HO_0, HK, HB⟩ := hrel
   cases gk with
   | zero => exact absurd HA.out (by simp [laws_markIntS.l0])
   | succ k1 =>
    have H := HA.out
    clear HA
    simp only [laws_markIntS.l0] at H
    by_cases c3 : x5_1 < (x0_1.length : Int)
    ·rw [if_pos c3] at H
     have c3b0 : decide (x5_1 < (x0_1.length : Int)) = true := decide_eq_true c3
     clear c3
     by_cases c4 : 0 ≤ x5_1
     ·rw [if_pos c4] at H
      have c4b0 : decide (0 ≤ x5_1) = true := decide_eq_true c4
      clear c4
      obtain ⟨y270, hy270⟩ : ∃ y_ : List Int, y_ = (x0_1.set (x5_1 : Int).toNat x1_1) := ⟨_, rfl⟩
      replace H : (laws_markIntS.l0 k1 y270 (wrap64 (x1_1 + 1)) (wrap64 (x5_1 + 1))) = some (r1, r2) := by first | (rw [hy270]; with_reducible exact H) | (have H2_ := (Option.bind_some _ _).symm.trans H; rw [hy270]; with_reducible exact H2_) | (have H2_ := (Option.bind_some _ _).symm.trans H; with_reducible exact H2_) | with_reducible exact H | (rw [hy270]; exact H) | exact H
      have Ny270 := Aside0.mk hy270
      clear hy270
      have H' := Aside0.mk H
      clear H
      obtain ⟨Ao6, co6, eo6⟩ := Kd.R_slice HO_0.out
      subst eo6
      have p5 : 0 ≤ (x5_1 : Int) := of_decide_eq_true as_
      have q5 : (x5_1 : Int) < ((x0_1.length : Int) : Int) := of_decide_eq_true as_
      obtain ⟨go5, co5, eo5, gb5, gl5, cl5, HG5⟩ := Kd.R_form HO_0.out (by omega)
      (first | cases eo5 | (injection eo5 with ea_ en_ ec_; (first | subst ea_ | (injection ea_ with ea_; subst ea_)); subst ec_; clear en_))
      have GB5 := Aside0.mk gb5
      have GG5 := Aside0.mk HG5
      clear gb5 gl5 HG5
      have HMgo5 := Aside0.mk (show (P0_ go5 ∨ w.heap.size ≤ go5) from (HO_0.out.1 _ rfl))
      obtain ⟨hx5_0, hf5_0⟩ := Kd.R_celln 0 HO_0.out (x5_1 : Int) p5 q5
      replace p5 := eq_true p5
      replace q5 := eq_true q5
      have HP7 := Kd.R_putg HO_0.out (x5_1 : Int) x1_1
      go_wp2_with (first | ((with_reducible refine gate_store (t := 3) (p := 15) rfl ?_); refine store_event (t := 3) (p := 15) (v := ?vo_w8) (w1 := (wr.setCell ⟨go5, (x5_1 : Int).toNat, none⟩ (.int .i64 x1_1))) ?hg ?ho ?hn ?hr ?_; (case ho => rfl); (case hg => rfl); (case hn => rfl); (case hr => first | (go_simp; done) | (go_simp; rfl)); intro w8 hw; have hg : wr.grownBy w8 (some go5) := (by rw [hw]; exact HP7.2); have hp_ : Kd.R (Kd.int .i64) 3 w8 w0.heap.size (fun k_ => (P0_ k_ ∨ w.heap.size ≤ k_)) (.slice (some ⟨go5, 0, none⟩) x0_1.length co6) y270 := (by rw [hw, Ny270.out]; exact HP7.1); clear HP7; replace HB := Aside0.mk ((by rw [hw]; exact below_set (HB.out) GB5.out : Below w0.heap.size w0 w8)); replace HK := Aside0.mk (Kept.of_grown (S := (fun k_ => P0_ k_)) hg (by repeat (first | (with_reducible first | exact HK.out | apply Kept.alloc | apply Kept.drewN | apply Kept.drew) | exact HK.out)) (fun k_ e_ => (HO_0.out.1 k_ e_))); replace HO_0 := Aside0.mk (hp_); clear hg hw hp_))
      go_roundg k1
      case measure => have := HK1.out; omega
      case rel => exact ⟨(y270), (wrap64 (x1_1 + 1)), (wrap64 (x5_1 + 1)), rg_, rg_, H', ⟨by have := HK1.out; omega⟩, ⟨kR_ HO_0⟩, ⟨by repeat (first | (with_reducible first | exact HK.out | apply Kept.alloc | apply Kept.drewN | apply Kept.drew) | exact HK.out)⟩, ⟨hB_⟩⟩
     ·rw [if_neg c4] at H
      exact absurd H (by simp)
    ·rw [if_neg c3] at H
     have c3b0 : decide (x5_1 < (x0_1.length : Int)) = false := decide_eq_false c3
     clear c3
     simp only [Option.some.injEq, Prod.mk.injEq] at H
     obtain ⟨rfl, rfl⟩ := H
     obtain ⟨Ao9, co9, eo9⟩ := Kd.R_slice HO_0.out
     subst eo9
     go_wp2
     go_ret
     exact ⟨rf_, kR_ HO_0, hB_, by repeat (first | (with_reducible first | exact HK.out | apply Kept.alloc | apply Kept.drewN | apply Kept.drew) | exact HK.out)⟩
/-! ### laws_markIntSS: function 11 -/
def laws_markIntSS.l0 : Nat → List (List Int) → Int → Int → Option (Int × (List (List Int)))
  | 0, _, _, _ => none
  | k + 1, x0, x1, x5 => if x5 < (x0.length : Int) then (if 0 ≤ x5 then ((laws_markIntS.f k (rd_L1 x0 x5) x1).bind fun bt => (laws_markIntSS.l0 k (x0.set (x5 : Int).toNat bt.2) bt.1 (wrap64 (x5 + 1)))) else (none)) else (some (x1, x0))
def laws_markIntSS.f (k : Nat) (l0 : List (List Int)) (a1 : Int) : Option (Int × (List (List Int))) := laws_markIntSS.l0 k l0 a1 0
theorem laws_markIntSS.mono_l : ∀ k, (∀ y0 y1 y2, LeO (laws_markIntSS.l0 k y0 y1 y2) (laws_markIntSS.l0 (k + 1) y0 y1 y2))
  | 0 => fun _ _ _ r h => by simp [laws_markIntSS.l0] at h
  | k + 1 => by
    have ih0 := laws_markIntSS.mono_l k
    · intro y0 y1 y2
      unfold laws_markIntSS.l0
      repeat' first
      | (with_reducible exact ih0 _ _ _)
      | (with_reducible exact laws_markIntS.mono _ _ _)
      | (with_reducible exact LeO.refl _)
      | (with_reducible exact LeO.none _)
      | (with_reducible refine LeO.ite ?_ ?_)
      | (with_reducible refine LeO.bind ?_ (fun _ => ?_))
      | exact ih0 _ _ _
      | exact laws_markIntS.mono _ _ _
      | exact LeO.none _
      | refine LeO.ite ?_ ?_
      | refine LeO.bind ?_ (fun _ => ?_)
theorem laws_markIntSS.mono : ∀ a0 a1 k, LeO (laws_markIntSS.f k a0 a1) (laws_markIntSS.f (k + 1) a0 a1) := by
  intro a0 a1 k
  have ih0 := laws_markIntSS.mono_l k
  unfold laws_markIntSS.f
  repeat' first
      | (with_reducible exact ih0 _ _ _)
      | (with_reducible exact laws_markIntS.mono _ _ _)
      | (with_reducible exact LeO.refl _)
      | (with_reducible exact LeO.none _)
      | (with_reducible refine LeO.ite ?_ ?_)
      | (with_reducible refine LeO.bind ?_ (fun _ => ?_))
      | exact ih0 _ _ _
      | exact laws_markIntS.mono _ _ _
      | exact LeO.none _
      | refine LeO.ite ?_ ?_
      | refine LeO.bind ?_ (fun _ => ?_)
noncomputable def laws_markIntSS.L0 (y0 : List (List Int)) (y1 : Int) (y2 : Int) : Option (Int × (List (List Int))) := lim fun k => laws_markIntSS.l0 k y0 y1 y2
theorem laws_markIntSS.L0_sup (y0 : List (List Int)) (y1 : Int) (y2 : Int) : Sup (fun k => laws_markIntSS.l0 k y0 y1 y2) (laws_markIntSS.L0 y0 y1 y2) := Sup.of_mono fun k => laws_markIntSS.mono_l k y0 y1 y2
noncomputable def laws_markIntSS.F (l0 : List (List Int)) (a1 : Int) : Option (Int × (List (List Int))) := lim fun k => laws_markIntSS.f k l0 a1
theorem laws_markIntSS.F_sup (l0 : List (List Int)) (a1 : Int) : Sup (fun k => laws_markIntSS.f k l0 a1) (laws_markIntSS.F l0 a1) := Sup.of_mono fun k => laws_markIntSS.mono l0 a1 k
theorem laws_markIntSS.L0_eq (x0 : List (List Int)) (x1 : Int) (x5 : Int) : laws_markIntSS.L0 x0 x1 x5 = if x5 < (x0.length : Int) then (if 0 ≤ x5 then ((laws_markIntS.F (rd_L1 x0 x5) x1).bind fun bt => (laws_markIntSS.L0 (x0.set (x5 : Int).toNat bt.2) bt.1 (wrap64 (x5 + 1)))) else (none)) else (some (x1, x0)) := by
  refine Sup.unique (laws_markIntSS.L0_sup x0 x1 x5) (Sup.shift (fun k => laws_markIntSS.mono_l k x0 x1 x5) (Sup.congr (g' := fun k => if x5 < (x0.length : Int) then (if 0 ≤ x5 then ((laws_markIntS.f k (rd_L1 x0 x5) x1).bind fun bt => (laws_markIntSS.l0 k (x0.set (x5 : Int).toNat bt.2) bt.1 (wrap64 (x5 + 1)))) else (none)) else (some (x1, x0))) (fun k => by first | rfl | simp only [laws_markIntSS.l0]) ?_))
  repeat' first
    | (with_reducible exact laws_markIntSS.L0_sup _ _ _)
    | (with_reducible exact laws_markIntS.F_sup _ _)
    | (with_reducible refine Sup.ite ?_ ?_)
    | (with_reducible refine Sup.bind ?_ (fun _ => ?_))
    | (with_reducible exact Sup.const _)
    | exact laws_markIntSS.L0_sup _ _ _
    | exact laws_markIntS.F_sup _ _
    | exact Sup.const _
theorem laws_markIntSS.F_eq (l0 : List (List Int)) (a1 : Int) : laws_markIntSS.F l0 a1 = laws_markIntSS.L0 l0 a1 0 := by
  refine Sup.unique (laws_markIntSS.F_sup l0 a1) (Sup.congr (g' := fun k => laws_markIntSS.l0 k l0 a1 0) (fun k => by first | rfl | simp only [laws_markIntSS.f]) ?_)
  repeat' first
    | (with_reducible exact laws_markIntSS.L0_sup _ _ _)
    | (with_reducible exact laws_markIntS.F_sup _ _)
    | (with_reducible refine Sup.ite ?_ ?_)
    | (with_reducible refine Sup.bind ?_ (fun _ => ?_))
    | (with_reducible exact Sup.const _)
    | exact laws_markIntSS.L0_sup _ _ _
    | exact laws_markIntS.F_sup _ _
    | exact Sup.const _
set_option maxHeartbeats 8000000 in
set_option maxRecDepth 100000 in
theorem laws_markIntSS.calls (k : Nat) (P0_ : Nat → Prop) (u9000_ : Value) (l0 : List (List Int)) (a1 : Int) (r1 : Int) (r2 : List (List Int)) (w0 w : World) (hB : Below w0.heap.size w0 w) (ho0 : Kd.S ((Kd.slice 3 (Kd.int .i64))) 36 w w0.heap.size P0_ u9000_ l0) (h : laws_markIntSS.f k l0 a1 = some (r1, r2)) :
    Calls Try.prog 11 #[u9000_, .int .i64 a1] w fun e w' => e = .returned (.int .i64 r1) ∧ Kd.S ((Kd.slice 3 (Kd.int .i64))) 36 w' w0.heap.size P0_ u9000_ r2 ∧ Below w0.heap.size w0 w' ∧ Kept w w' P0_ := by
  have HO0 := Aside0.mk ho0
  have HK := Aside0.mk (Kept.refl w P0_)
  have HB := Aside0.mk hB
  clear hB ho0
  have H' := Aside0.mk (show laws_markIntSS.l0 k l0 a1 0 = some (r1, r2) from h)
  clear h
  go_enter Try.func11, Try.ntmps11
  go_wp2
  go_loopg [1, 5] k (fun kq v1 v5 w' => ∃ (x0_1 : List (List Int)) (x1_1 : Int) (x5_1 : Int), v1 = .int .i64 x1_1 ∧ v5 = .int .i64 x5_1 ∧ Aside0 (laws_markIntSS.l0 kq x0_1 x1_1 x5_1 = some (r1, r2)) ∧ Aside0 (kq ≤ k) ∧ Aside0 (Kd.S ((Kd.slice 3 (Kd.int .i64))) 36 w' w0.heap.size P0_ u9000_ x0_1) ∧ Aside0 (Kept w w' P0_) ∧ Aside0 (Below w0.heap.size w0 w'))
  case atStart => exact ⟨l0, a1, 0, rfl, rfl, H', ⟨Nat.le_refl _⟩, HO0, HK, HB⟩
  case round =>
   clear H' HO0 HK HB
   obtain ⟨x0_1, x1_1, x5_1, rfl, rfl, HA, HK1, HO_0, HK, HB⟩ := hrel
   cases gk with
   | zero => exact absurd HA.out (by simp [laws_markIntSS.l0])
   | succ k1 =>
    have H := HA.out
    clear HA
    simp only [laws_markIntSS.l0] at H
    by_cases c3 : x5_1 < (x0_1.length : Int)
    ·rw [if_pos c3] at H
     have c3b0 : decide (x5_1 < (x0_1.length : Int)) = true := decide_eq_true c3
     by_cases c4 : 0 ≤ x5_1
     ·rw [if_pos c4] at H
      have c4b0 : decide (0 ≤ x5_1) = true := decide_eq_true c4
      replace H := Option.bind_eq_some_iff.mp H
      obtain ⟨⟨t1, t2⟩, A80, H⟩ := H
      have A8 := Aside0.mk A80
      clear A80
      have H' := Aside0.mk (show laws_markIntSS.l0 k1 (x0_1.set (x5_1 : Int).toNat t2) t1 (wrap64 (x5_1 + 1)) = some (r1, r2) from H)
      clear H
      obtain ⟨go5, co5, eo5, gb5, gl5, cl5, HG5⟩ := Kd.R_form (Kd.S_R HO_0.out) (by omega)
      subst eo5
      have HL5 := Aside0.mk (Kd.S_lend HO_0.out [] x5_1 c4 c3)
      clear gb5 gl5 HG5
      obtain ⟨oki, cz, hcl, hM, hcc, hoki, hH⟩ := HL5.out
      clear HL5
      obtain ⟨vz, rfl, hR⟩ := (show ∃ v, cz = [v] ∧ ((Kd.int .i64)).R 3 _ w0.heap.size oki v (rd_L1 x0_1 x5_1) from hM)
      have hx5_0 := hcc 0 vz rfl
      rw [show (x5_1 : Int).toNat * ((Kd.slice 3 (Kd.int .i64))).sz + 0 = (x5_1 : Int).toNat from Nat.mul_one _] at hx5_0
      obtain ⟨Ao7, co7, rfl⟩ := Kd.R_slice hR
      have HR7 := Aside0.mk hR
      have HH7 := Aside0.mk hH
      have HQ7 := Aside0.mk hoki
      have HC7 := Aside0.mk hcc
      have HM7 := Aside0.mk hM
      clear hcc hcl hM hoki hR hH
      have p5 := eq_true c4
      have q5 := eq_true c3
      clear c3 c4
      go_wp2_with (first | ((with_reducible refine gate_callee (f := 20) rfl ?_); refine goesL_ (some 17) rfl rfl Try.func20 (by kernel_rfl) rfl #[.slice Ao7 (rd_L1 x0_1 x5_1).length co7, .int .i64 x1_1] rfl (by (try simp only [List.map_toArray, List.map_cons, List.map_nil]); first | done | rfl) ?_; (with_reducible refine (laws_markIntS.calls k1 oki (.slice Ao7 (rd_L1 x0_1 x5_1).length co7) (rd_L1 x0_1 x5_1) x1_1 t1 t2 w0 _ ?side1 ?side2 A8.out).mono ?_); (case side1 => exact HB.out); (case side2 => exact HR7.out); rintro e w8 ⟨rfl, hy0, hb, hkp⟩; refine ⟨_, rfl, ?_⟩; replace HO_0 := Aside0.mk (Kd.H_back (Kd.H_kept HH7.out hkp (fun k_ hk_ hn_ hs_ => hn_ hs_)) (x' := t2) (okp := oki) ⟨_, rfl, Kd.R_reok rfl hy0 (fun k_ e_ => HR7.out.1 k_ e_)⟩ (fun _ hk_ => hk_)); replace HK := Aside0.mk (Kept.then_ (S := P0_) HK.out hkp (fun k_ hs_ => .inl (HQ7.out k_ hs_).1)); replace HB := Aside0.mk hb; clear hb hkp hy0))
      go_roundg k1
      case measure => have := HK1.out; omega
      case rel => exact ⟨x0_1.set (x5_1 : Int).toNat t2, t1, wrap64 (x5_1 + 1), rfl, rg_, H', ⟨by have := HK1.out; omega⟩, HO_0, HK, HB⟩
     ·rw [if_neg c4] at H
      exact absurd H (by simp)
    ·rw [if_neg c3] at H
     have c3b0 : decide (x5_1 < (x0_1.length : Int)) = false := decide_eq_false c3
     clear c3
     simp only [Option.some.injEq, Prod.mk.injEq] at H
     obtain ⟨rfl, rfl⟩ := H
     obtain ⟨Ao9, co9, eo9⟩ := Kd.R_slice (Kd.S_R HO_0.out)
     subst eo9
     go_wp2
     go_ret
     exact ⟨rfl, HO_0.out, HB.out, HK.out⟩
/-! ### laws_markHyper: function 10 -/
def laws_markHyper.f (k : Nat) (a0_0 : Int) (l0_1 : List (List Int)) (a1 : Int) : Option (Int × (List (List Int))) := (laws_markIntSS.f k l0_1 a1).bind fun bt => (some (bt.1, bt.2))
theorem laws_markHyper.mono : ∀ a0 a1 a2 k, LeO (laws_markHyper.f k a0 a1 a2) (laws_markHyper.f (k + 1) a0 a1 a2) := by
  intro a0 a1 a2 k
  unfold laws_markHyper.f
  repeat' first
      | (with_reducible exact laws_markIntSS.mono _ _ _)
      | (with_reducible exact LeO.refl _)
      | (with_reducible exact LeO.none _)
      | (with_reducible refine LeO.ite ?_ ?_)
      | (with_reducible refine LeO.bind ?_ (fun _ => ?_))
      | exact laws_markIntSS.mono _ _ _
      | exact LeO.none _
      | refine LeO.ite ?_ ?_
      | refine LeO.bind ?_ (fun _ => ?_)
noncomputable def laws_markHyper.F (a0_0 : Int) (l0_1 : List (List Int)) (a1 : Int) : Option (Int × (List (List Int))) := lim fun k => laws_markHyper.f k a0_0 l0_1 a1
theorem laws_markHyper.F_sup (a0_0 : Int) (l0_1 : List (List Int)) (a1 : Int) : Sup (fun k => laws_markHyper.f k a0_0 l0_1 a1) (laws_markHyper.F a0_0 l0_1 a1) := Sup.of_mono fun k => laws_markHyper.mono a0_0 l0_1 a1 k
theorem laws_markHyper.F_eq (a0_0 : Int) (l0_1 : List (List Int)) (a1 : Int) : laws_markHyper.F a0_0 l0_1 a1 = (laws_markIntSS.F l0_1 a1).bind fun bt => (some (bt.1, bt.2)) := by
  refine Sup.unique (laws_markHyper.F_sup a0_0 l0_1 a1) (Sup.congr (g' := fun k => (laws_markIntSS.f k l0_1 a1).bind fun bt => (some (bt.1, bt.2))) (fun k => by first | rfl | simp only [laws_markHyper.f]) ?_)
  repeat' first
    | (with_reducible exact laws_markIntSS.F_sup _ _)
    | (with_reducible refine Sup.ite ?_ ?_)
    | (with_reducible refine Sup.bind ?_ (fun _ => ?_))
    | (with_reducible exact Sup.const _)
    | exact laws_markIntSS.F_sup _ _
    | exact Sup.const _
set_option maxHeartbeats 8000000 in
set_option maxRecDepth 100000 in
theorem laws_markHyper.calls (k : Nat) (a0_0 : Int) (P0_1_ : Nat → Prop) (u9000_ : Value) (l0_1 : List (List Int))  (a1 : Int) (r1 : Int) (r2 : List (List Int)) (w0 w : World) (hB : Below w0.heap.size w0 w) (ho0 : Kd.S ((Kd.slice 3 (Kd.int .i64))) 36 w w0.heap.size P0_1_ u9000_ l0_1) (h : laws_markHyper.f k a0_0 l0_1 a1 = some (r1, r2)) :
    Calls Try.prog 10 #[.agg #[.int .i64 a0_0, u9000_], .int .i64 a1] w fun e w' => e = .returned (.int .i64 r1) ∧ Kd.S ((Kd.slice 3 (Kd.int .i64))) 36 w' w0.heap.size P0_1_ u9000_ r2 ∧ Below w0.heap.size w0 w' ∧ Kept w w' P0_1_ := by
  have hu28 := Try.underlying28
  have HO0 := Aside0.mk ho0
  have HK := Aside0.mk (Kept.refl w P0_1_)
  have HB := Aside0.mk hB
  clear hB ho0
  have H : ((laws_markIntSS.f k l0_1 a1).bind fun bt => (some (bt.1, bt.2))) = some (r1, r2) := h
  clear h
  replace H := Option.bind_eq_some_iff.mp H
  obtain ⟨⟨t229, t230⟩, A30, H⟩ := H
  replace H : (some (t229, t230)) = some (r1, r2) := H
  have A3 := Aside0.mk A30
  clear A30
  simp only [Option.some.injEq, Prod.mk.injEq] at H
  obtain ⟨rfl, rfl⟩ := H
  obtain ⟨Ao4, co4, eo4⟩ := Kd.R_slice (Kd.S_R HO0.out)
  subst eo4
  go_enter Try.func10, Try.ntmps10
  go_wp2_with (first | ((with_reducible refine gate_dst (N := 2) rfl ?_); refine bx_ 2 #[.int .i64 a0_0, .slice Ao4 l0_1.length co4] 28 ?_; intro gb228 hg w5 hbox hb; have n0_ := Aside0.mk (Kd.S_below HO0.out hb); have n1_ := Aside0.mk (Kept.below (S := P0_1_) HK.out hb); have n2_ := Aside0.mk (below_step HB.out hb); have BK228 := Aside0.mk hbox; clear HO0 HK HB; have HO0 := n0_; have HK := n1_; have HB := n2_; clear n0_ n1_ n2_; clear hb hbox hg; have hcz6_0 : w5.cell? ⟨gb228, 0, none⟩ = some (.int .i64 a0_0) := (blk_cell BK228.out 0).trans rfl; have hfz6_0 := blk_frozen BK228.out 0; have hcz6_1 : w5.cell? ⟨gb228, 1, none⟩ = some (.slice Ao4 l0_1.length co4) := (blk_cell BK228.out 1).trans rfl; have hfz6_1 := blk_frozen BK228.out 1) | ((with_reducible refine gate_callee (f := 11) rfl ?_); refine goesL_ (some 8) rfl rfl Try.func11 (by kernel_rfl) rfl #[.slice Ao4 l0_1.length co4, .int .i64 a1] rfl (by (try simp only [List.map_toArray, List.map_cons, List.map_nil]); first | done | rfl) ?_; (with_reducible refine (laws_markIntSS.calls k P0_1_ (.slice Ao4 l0_1.length co4) l0_1 a1 t229 t230 w0 _ ?side1 ?side2 A3.out).mono ?_); (case side1 => exact HB.out); (case side2 => exact HO0.out); rintro e w6 ⟨rfl, hy0, hb, hkp⟩; refine ⟨_, rfl, ?_⟩; have n1_ := Aside0.mk (Kept.then_ (S := P0_1_) HK.out hkp (fun k_ hs_ => .inl hs_)); clear HO0 HK HB; have HO0 := Aside0.mk hy0; have HK := n1_; have HB := Aside0.mk hb; clear n1_ hb hkp hy0))
  go_ret
  exact ⟨rfl, HO0.out, HB.out, HK.out⟩
/-! ### laws_heldIntS: function 21 -/
def laws_heldIntS.l0 : Nat → List Int → Int → Int → Option (Int)
  | 0, _, _, _ => none
  | k + 1, x0, x1, x5 => if x5 < (x0.length : Int) then (if 0 ≤ x5 then (if (rd x0 x5) = x1 then (laws_heldIntS.l0 k x0 (wrap64 (x1 + 1)) (wrap64 (x5 + 1))) else (some (-1))) else (none)) else (some x1)
def laws_heldIntS.f (k : Nat) (l0 : List Int) (a1 : Int) : Option (Int) := laws_heldIntS.l0 k l0 a1 0
theorem laws_heldIntS.mono_l : ∀ k, (∀ y0 y1 y2, LeO (laws_heldIntS.l0 k y0 y1 y2) (laws_heldIntS.l0 (k + 1) y0 y1 y2))
  | 0 => fun _ _ _ r h => by simp [laws_heldIntS.l0] at h
  | k + 1 => by
    have ih0 := laws_heldIntS.mono_l k
    · intro y0 y1 y2
      unfold laws_heldIntS.l0
      repeat' first
      | (with_reducible exact ih0 _ _ _)
      | (with_reducible exact LeO.refl _)
      | (with_reducible exact LeO.none _)
      | (with_reducible refine LeO.ite ?_ ?_)
      | (with_reducible refine LeO.bind ?_ (fun _ => ?_))
      | exact ih0 _ _ _
      | exact LeO.none _
      | refine LeO.ite ?_ ?_
      | refine LeO.bind ?_ (fun _ => ?_)
theorem laws_heldIntS.mono : ∀ a0 a1 k, LeO (laws_heldIntS.f k a0 a1) (laws_heldIntS.f (k + 1) a0 a1) := by
  intro a0 a1 k
  have ih0 := laws_heldIntS.mono_l k
  unfold laws_heldIntS.f
  repeat' first
      | (with_reducible exact ih0 _ _ _)
      | (with_reducible exact LeO.refl _)
      | (with_reducible exact LeO.none _)
      | (with_reducible refine LeO.ite ?_ ?_)
      | (with_reducible refine LeO.bind ?_ (fun _ => ?_))
      | exact ih0 _ _ _
      | exact LeO.none _
      | refine LeO.ite ?_ ?_
      | refine LeO.bind ?_ (fun _ => ?_)
noncomputable def laws_heldIntS.L0 (y0 : List Int) (y1 : Int) (y2 : Int) : Option (Int) := lim fun k => laws_heldIntS.l0 k y0 y1 y2
theorem laws_heldIntS.L0_sup (y0 : List Int) (y1 : Int) (y2 : Int) : Sup (fun k => laws_heldIntS.l0 k y0 y1 y2) (laws_heldIntS.L0 y0 y1 y2) := Sup.of_mono fun k => laws_heldIntS.mono_l k y0 y1 y2
noncomputable def laws_heldIntS.F (l0 : List Int) (a1 : Int) : Option (Int) := lim fun k => laws_heldIntS.f k l0 a1
theorem laws_heldIntS.F_sup (l0 : List Int) (a1 : Int) : Sup (fun k => laws_heldIntS.f k l0 a1) (laws_heldIntS.F l0 a1) := Sup.of_mono fun k => laws_heldIntS.mono l0 a1 k
theorem laws_heldIntS.L0_eq (x0 : List Int) (x1 : Int) (x5 : Int) : laws_heldIntS.L0 x0 x1 x5 = if x5 < (x0.length : Int) then (if 0 ≤ x5 then (if (rd x0 x5) = x1 then (laws_heldIntS.L0 x0 (wrap64 (x1 + 1)) (wrap64 (x5 + 1))) else (some (-1))) else (none)) else (some x1) := by
  refine Sup.unique (laws_heldIntS.L0_sup x0 x1 x5) (Sup.shift (fun k => laws_heldIntS.mono_l k x0 x1 x5) (Sup.congr (g' := fun k => if x5 < (x0.length : Int) then (if 0 ≤ x5 then (if (rd x0 x5) = x1 then (laws_heldIntS.l0 k x0 (wrap64 (x1 + 1)) (wrap64 (x5 + 1))) else (some (-1))) else (none)) else (some x1)) (fun k => by first | rfl | simp only [laws_heldIntS.l0]) ?_))
  repeat' first
    | (with_reducible exact laws_heldIntS.L0_sup _ _ _)
    | (with_reducible refine Sup.ite ?_ ?_)
    | (with_reducible refine Sup.bind ?_ (fun _ => ?_))
    | (with_reducible exact Sup.const _)
    | exact laws_heldIntS.L0_sup _ _ _
    | exact Sup.const _
theorem laws_heldIntS.F_eq (l0 : List Int) (a1 : Int) : laws_heldIntS.F l0 a1 = laws_heldIntS.L0 l0 a1 0 := by
  refine Sup.unique (laws_heldIntS.F_sup l0 a1) (Sup.congr (g' := fun k => laws_heldIntS.l0 k l0 a1 0) (fun k => by first | rfl | simp only [laws_heldIntS.f]) ?_)
  repeat' first
    | (with_reducible exact laws_heldIntS.L0_sup _ _ _)
    | (with_reducible refine Sup.ite ?_ ?_)
    | (with_reducible refine Sup.bind ?_ (fun _ => ?_))
    | (with_reducible exact Sup.const _)
    | exact laws_heldIntS.L0_sup _ _ _
    | exact Sup.const _
set_option maxHeartbeats 8000000 in
set_option maxRecDepth 100000 in
theorem laws_heldIntS.calls (k : Nat) (A0 : Option Addr) (c0 : Nat) (l0 : List Int) (a1 : Int) (r : Int) (w : World) (hr0 : Kd.C (Kd.int .i64) w A0 l0.length l0) (hc0 : l0.length ≤ c0) (h : laws_heldIntS.f k l0 a1 = some r) :
    Calls Try.prog 21 #[.slice A0 l0.length c0, .int .i64 a1] w fun e w' => e = .returned (.int .i64 r) ∧ Drawn0 w w' := by
  have HR0 := Aside0.mk hr0
  have HC0 := Aside0.mk hc0
  clear hr0 hc0
  have H : (laws_heldIntS.l0 k l0 a1 0) = some r := h
  clear h
  have H' := Aside0.mk H
  clear H
  go_enter Try.func21, Try.ntmps21
  go_wp2
  go_loopg [1, 5] k (fun kq v1 v5 w' => ∃ (x1_1 : Int) (x5_1 : Int), v1 = .int .i64 x1_1 ∧ v5 = .int .i64 x5_1 ∧ Aside0 (laws_heldIntS.l0 kq l0 x1_1 x5_1 = some r) ∧ Aside0 (kq ≤ k) ∧ Drawn0 w w')
  case atStart => exact ⟨(a1), (0), rg_, rg_, H', ⟨Nat.le_refl _⟩, by repeat (first | exact Drawn0.refl _ | apply Drawn0.step)⟩
  case round =>
   clear H'
   try clear c2
   try clear p2
   obtain ⟨x1_1, x5_1, rfl, rfl, HA, HK1, ⟨m1, rfl⟩⟩ := hrel
   cases gk with
   | zero => exact absurd HA.out (by simp [laws_heldIntS.l0])
   | succ k1 =>
    have H := HA.out
    clear HA
    simp only [laws_heldIntS.l0] at H
    by_cases c3 : x5_1 < (l0.length : Int)
    ·rw [if_pos c3] at H
     have c3b0 : decide (x5_1 < (l0.length : Int)) = true := decide_eq_true c3
     clear c3
     by_cases c4 : 0 ≤ x5_1
     ·rw [if_pos c4] at H
      have c4b0 : decide (0 ≤ x5_1) = true := decide_eq_true c4
      clear c4
      by_cases c5 : (rd l0 x5_1) = x1_1
      ·rw [if_pos c5] at H
       have c5b0 : ((rd l0 x5_1) == x1_1) = true := beq_iff_eq.mpr c5
       have c5b1 : ((rd l0 x5_1) != x1_1) = false := bne_eq_false_iff_eq.mpr c5
       clear c5
       have H' := Aside0.mk H
       clear H
       have p271 : 0 ≤ (x5_1 : Int) := of_decide_eq_true as_
       have q271 : x5_1 < (l0.length : Int) := of_decide_eq_true as_
       obtain ⟨ad271, e271, hx271_0⟩ := Kd.at_int HR0.out x5_1 p271 q271
       cases e271
       replace p271 := eq_true p271
       replace q271 := eq_true q271
       go_wp2
       go_roundg k1
       case measure => have := HK1.out; omega
       case rel => exact ⟨(wrap64 (x1_1 + 1)), (wrap64 (x5_1 + 1)), rg_, rg_, H', ⟨by have := HK1.out; omega⟩, by repeat (first | exact Drawn0.refl _ | apply Drawn0.step)⟩
      ·rw [if_neg c5] at H
       have c5b0 : ((rd l0 x5_1) == x1_1) = false := beq_eq_false_iff_ne.mpr c5
       have c5b1 : ((rd l0 x5_1) != x1_1) = true := bne_iff_ne.mpr c5
       obtain rfl := Option.some.inj H
       have p271 : 0 ≤ (x5_1 : Int) := of_decide_eq_true as_
       have q271 : x5_1 < (l0.length : Int) := of_decide_eq_true as_
       obtain ⟨ad271, e271, hx271_0⟩ := Kd.at_int HR0.out x5_1 p271 q271
       cases e271
       replace p271 := eq_true p271
       replace q271 := eq_true q271
       go_wp2
       go_ret
       exact ⟨rg_, by repeat (first | exact Drawn0.refl _ | apply Drawn0.step)⟩
     ·rw [if_neg c4] at H
      exact absurd H (by simp)
    ·rw [if_neg c3] at H
     have c3b0 : decide (x5_1 < (l0.length : Int)) = false := decide_eq_false c3
     clear c3
     obtain rfl := Option.some.inj H
     go_wp2
     go_ret
     exact ⟨rg_, by repeat (first | exact Drawn0.refl _ | apply Drawn0.step)⟩
end Go.Proofs.Ythafknjaljhibaa.X
