/- Written by a program of this session: what functions of the given program compute, and that their calls do so. -/
import Derived.Test.YtcgakiihochafaaXx0
import Derived.Test.YtcgakiihochafaaXg1a
import Derived.Test.YtcgakiihochafaaXg1b
import Derived.Test.YtcgakiihochafaaXg1c
import Derived.Test.YtcgakiihochafaaXg1d
import Derived.Test.YtcgakiihochafaaXg1e
import Derived.Test.YtcgakiihochafaaXs
namespace Go.Proofs.Ytcgakiihochafaa.X
open Go.RowKit Go.Proofs.YtcgakiihochafaaW.PrintWords Go.Proofs.YtcgakiihochafaaW.PrintLast Go.Proofs.YtcgakiihochafaaW.PrintMore
attribute [local go_sem] max2_int min2_int max_two min_two max_three min_three max_four min_four   -- for this text's walks alone
set_option linter.unusedVariables false
set_option linter.unusedSimpArgs false
/-! ### laws_FnSparseIsItsList: function 3 -/
def laws_FnSparseIsItsList.l0 : Nat → List Int → List Int → Int → Int → Int → Int → Int → Int → List Int → Int → List Int → Option (Bool)
  | 0, _, _, _, _, _, _, _, _, _, _, _ => none
  | k + 1, x5, x99, x100, x101, x444000, x444001, x444002, x444003, x444004, x444005, x444006 => if x101 < x100 then (if 0 ≤ x101 then (if x101 < (x99.length : Int) then ((impl_SparseAt.f k x444000 x444001 x444002 x444003 x444004 x444005 x444006 x101).bind fun bt466 => ((impl_CountBelow.f k x444000 x444001 x444002 x444003 x444004 x444005 x444006 (rd x99 x101)).bind fun bt468 => ((impl_LastAtMost.f k x444000 x444001 x444002 x444003 x444004 x444005 x444006 (rd x99 x101)).bind fun bt470 => ((impl_FirstAtLeast.f k x444000 x444001 x444002 x444003 x444004 x444005 x444006 (rd x99 x101)).bind fun bt472 => (if bt466.2 = true then (if bt468.2 = true then (if bt470.2 = true then (if bt472.2 = true then (if bt466.1 = (rd x99 x101) then (if bt468.1 = bt472.1 then (if bt472.1 > x101 then (none) else (if bt470.1 < x101 then (none) else (if 0 ≤ bt472.1 then (if bt472.1 < (x5.length : Int) then (if (rd x5 bt472.1) = (rd x99 x101) then (if 0 ≤ bt470.1 then (if bt470.1 < (x5.length : Int) then (if (rd x5 bt470.1) = (rd x99 x101) then (if bt472.1 > 0 then (if 0 ≤ (wrap64 (bt472.1 - 1)) then (if (wrap64 (bt472.1 - 1)) < (x5.length : Int) then (if (rd x5 (wrap64 (bt472.1 - 1))) = (rd x99 x101) then (none) else (if (wrap64 (bt470.1 + 1)) < (x5.length : Int) then (if 0 ≤ (wrap64 (bt470.1 + 1)) then (if (rd x5 (wrap64 (bt470.1 + 1))) = (rd x99 x101) then (none) else (laws_FnSparseIsItsList.l0 k x5 x99 x100 (wrap64 (x101 + 1)) x444000 x444001 x444002 x444003 x444004 x444005 x444006)) else (none)) else (laws_FnSparseIsItsList.l0 k x5 x99 x100 (wrap64 (x101 + 1)) x444000 x444001 x444002 x444003 x444004 x444005 x444006))) else (none)) else (none)) else (if (wrap64 (bt470.1 + 1)) < (x5.length : Int) then (if 0 ≤ (wrap64 (bt470.1 + 1)) then (if (rd x5 (wrap64 (bt470.1 + 1))) = (rd x99 x101) then (none) else (laws_FnSparseIsItsList.l0 k x5 x99 x100 (wrap64 (x101 + 1)) x444000 x444001 x444002 x444003 x444004 x444005 x444006)) else (none)) else (laws_FnSparseIsItsList.l0 k x5 x99 x100 (wrap64 (x101 + 1)) x444000 x444001 x444002 x444003 x444004 x444005 x444006))) else (none)) else (none)) else (none)) else (none)) else (none)) else (none)))) else (none)) else (none)) else (none)) else (none)) else (none)) else (none)))))) else (none)) else (none)) else (some true)
def laws_FnSparseIsItsList.f (k : Nat) (l0 : List Int) (l1 : List Int) : Option (Bool) := (laws_big.f l0 l1).bind fun t426 => (if t426 = true then (some true) else ((spec_DrawBuildSparse.f k l0).bind fun bt427 => ((impl_BuildSparse.f k bt427.1 bt427.2).bind fun bt431 => ((spec_BuildSparse.f k bt427.1 bt427.2).bind fun bt444 => (if (bt431.2.2.2.2.2.2.2 != bt444.2.2.2.2.2.2.2) = true then (none) else ((laws_pSameSparse.f k bt431.1 bt431.2.1 bt431.2.2.1 bt431.2.2.2.1 bt431.2.2.2.2.1 bt431.2.2.2.2.2.1 bt431.2.2.2.2.2.2.1 bt444.1 bt444.2.1 bt444.2.2.1 bt444.2.2.2.1 bt444.2.2.2.2.1 bt444.2.2.2.2.2.1 bt444.2.2.2.2.2.2.1).bind fun t457 => (if t457 = true then (if bt444.2.2.2.2.2.2.2 = true then ((impl_SparseList.f k bt431.1 bt431.2.1 bt431.2.2.1 bt431.2.2.2.1 bt431.2.2.2.2.1 bt431.2.2.2.2.2.1 bt431.2.2.2.2.2.2.1).bind fun bt458 => ((impl_SparseBits.f k bt431.1 bt431.2.1 bt431.2.2.1 bt431.2.2.2.1 bt431.2.2.2.2.1 bt431.2.2.2.2.2.1 bt431.2.2.2.2.2.2.1).bind fun bt462 => (if bt458.2 = true then (if bt462.2 = true then ((laws_pSameInts.f k bt458.1 bt427.1).bind fun t464 => (if t464 = true then (if (bt427.1.length : Int) > 0 then (if (bt427.1.length : Int) ≤ bt427.2 then (if bt462.1 > (wrap64 ((bt427.1.length : Int) * (wrap64 (bt431.2.2.1 + 3)))) then (none) else (laws_FnSparseIsItsList.l0 k bt427.1 bt427.1 (bt427.1.length : Int) 0 bt431.1 bt431.2.1 bt431.2.2.1 bt431.2.2.2.1 bt431.2.2.2.2.1 bt431.2.2.2.2.2.1 bt431.2.2.2.2.2.2.1)) else (laws_FnSparseIsItsList.l0 k bt427.1 bt427.1 (bt427.1.length : Int) 0 bt431.1 bt431.2.1 bt431.2.2.1 bt431.2.2.2.1 bt431.2.2.2.2.1 bt431.2.2.2.2.2.1 bt431.2.2.2.2.2.2.1)) else (laws_FnSparseIsItsList.l0 k bt427.1 bt427.1 (bt427.1.length : Int) 0 bt431.1 bt431.2.1 bt431.2.2.1 bt431.2.2.2.1 bt431.2.2.2.2.1 bt431.2.2.2.2.2.1 bt431.2.2.2.2.2.2.1)) else (none))) else (none)) else (none)))) else (some true)) else (none))))))))
theorem laws_FnSparseIsItsList.mono_l : ∀ k, (∀ y0 y1 y2 y3 y4 y5 y6 y7 y8 y9 y10, LeO (laws_FnSparseIsItsList.l0 k y0 y1 y2 y3 y4 y5 y6 y7 y8 y9 y10) (laws_FnSparseIsItsList.l0 (k + 1) y0 y1 y2 y3 y4 y5 y6 y7 y8 y9 y10))
  | 0 => fun _ _ _ _ _ _ _ _ _ _ _ r h => by simp [laws_FnSparseIsItsList.l0] at h
  | k + 1 => by
    have ih0 := laws_FnSparseIsItsList.mono_l k
    · intro y0 y1 y2 y3 y4 y5 y6 y7 y8 y9 y10
      unfold laws_FnSparseIsItsList.l0
      repeat' first
      | (with_reducible exact ih0 _ _ _ _ _ _ _ _ _ _ _)
      | (with_reducible exact impl_BuildSparse.mono _ _ _)
      | (with_reducible exact impl_CountBelow.mono _ _ _ _ _ _ _ _ _)
      | (with_reducible exact impl_FirstAtLeast.mono _ _ _ _ _ _ _ _ _)
      | (with_reducible exact impl_LastAtMost.mono _ _ _ _ _ _ _ _ _)
      | (with_reducible exact impl_SparseAt.mono _ _ _ _ _ _ _ _ _)
      | (with_reducible exact impl_SparseBits.mono _ _ _ _ _ _ _ _)
      | (with_reducible exact impl_SparseList.mono _ _ _ _ _ _ _ _)
      | (with_reducible exact laws_pSameInts.mono _ _ _)
      | (with_reducible exact laws_pSameSparse.mono _ _ _ _ _ _ _ _ _ _ _ _ _ _ _)
      | (with_reducible exact spec_BuildSparse.mono _ _ _)
      | (with_reducible exact spec_DrawBuildSparse.mono _ _)
      | (with_reducible exact LeO.refl _)
      | (with_reducible exact LeO.none _)
      | (with_reducible refine LeO.ite ?_ ?_)
      | (with_reducible refine LeO.bind ?_ (fun _ => ?_))
      | exact ih0 _ _ _ _ _ _ _ _ _ _ _
      | exact impl_BuildSparse.mono _ _ _
      | exact impl_CountBelow.mono _ _ _ _ _ _ _ _ _
      | exact impl_FirstAtLeast.mono _ _ _ _ _ _ _ _ _
      | exact impl_LastAtMost.mono _ _ _ _ _ _ _ _ _
      | exact impl_SparseAt.mono _ _ _ _ _ _ _ _ _
      | exact impl_SparseBits.mono _ _ _ _ _ _ _ _
      | exact impl_SparseList.mono _ _ _ _ _ _ _ _
      | exact laws_pSameInts.mono _ _ _
      | exact laws_pSameSparse.mono _ _ _ _ _ _ _ _ _ _ _ _ _ _ _
      | exact spec_BuildSparse.mono _ _ _
      | exact spec_DrawBuildSparse.mono _ _
      | exact LeO.none _
      | refine LeO.ite ?_ ?_
      | refine LeO.bind ?_ (fun _ => ?_)
theorem laws_FnSparseIsItsList.mono : ∀ a0 a1 k, LeO (laws_FnSparseIsItsList.f k a0 a1) (laws_FnSparseIsItsList.f (k + 1) a0 a1) := by
  intro a0 a1 k
  have ih0 := laws_FnSparseIsItsList.mono_l k
  unfold laws_FnSparseIsItsList.f
  repeat' first
      | (with_reducible exact ih0 _ _ _ _ _ _ _ _ _ _ _)
      | (with_reducible exact impl_BuildSparse.mono _ _ _)
      | (with_reducible exact impl_CountBelow.mono _ _ _ _ _ _ _ _ _)
      | (with_reducible exact impl_FirstAtLeast.mono _ _ _ _ _ _ _ _ _)
      | (with_reducible exact impl_LastAtMost.mono _ _ _ _ _ _ _ _ _)
      | (with_reducible exact impl_SparseAt.mono _ _ _ _ _ _ _ _ _)
      | (with_reducible exact impl_SparseBits.mono _ _ _ _ _ _ _ _)
      | (with_reducible exact impl_SparseList.mono _ _ _ _ _ _ _ _)
      | (with_reducible exact laws_pSameInts.mono _ _ _)
      | (with_reducible exact laws_pSameSparse.mono _ _ _ _ _ _ _ _ _ _ _ _ _ _ _)
      | (with_reducible exact spec_BuildSparse.mono _ _ _)
      | (with_reducible exact spec_DrawBuildSparse.mono _ _)
      | (with_reducible exact LeO.refl _)
      | (with_reducible exact LeO.none _)
      | (with_reducible refine LeO.ite ?_ ?_)
      | (with_reducible refine LeO.bind ?_ (fun _ => ?_))
      | exact ih0 _ _ _ _ _ _ _ _ _ _ _
      | exact impl_BuildSparse.mono _ _ _
      | exact impl_CountBelow.mono _ _ _ _ _ _ _ _ _
      | exact impl_FirstAtLeast.mono _ _ _ _ _ _ _ _ _
      | exact impl_LastAtMost.mono _ _ _ _ _ _ _ _ _
      | exact impl_SparseAt.mono _ _ _ _ _ _ _ _ _
      | exact impl_SparseBits.mono _ _ _ _ _ _ _ _
      | exact impl_SparseList.mono _ _ _ _ _ _ _ _
      | exact laws_pSameInts.mono _ _ _
      | exact laws_pSameSparse.mono _ _ _ _ _ _ _ _ _ _ _ _ _ _ _
      | exact spec_BuildSparse.mono _ _ _
      | exact spec_DrawBuildSparse.mono _ _
      | exact LeO.none _
      | refine LeO.ite ?_ ?_
      | refine LeO.bind ?_ (fun _ => ?_)
noncomputable def laws_FnSparseIsItsList.L0 (y0 : List Int) (y1 : List Int) (y2 : Int) (y3 : Int) (y4 : Int) (y5 : Int) (y6 : Int) (y7 : Int) (y8 : List Int) (y9 : Int) (y10 : List Int) : Option (Bool) := lim fun k => laws_FnSparseIsItsList.l0 k y0 y1 y2 y3 y4 y5 y6 y7 y8 y9 y10
theorem laws_FnSparseIsItsList.L0_sup (y0 : List Int) (y1 : List Int) (y2 : Int) (y3 : Int) (y4 : Int) (y5 : Int) (y6 : Int) (y7 : Int) (y8 : List Int) (y9 : Int) (y10 : List Int) : Sup (fun k => laws_FnSparseIsItsList.l0 k y0 y1 y2 y3 y4 y5 y6 y7 y8 y9 y10) (laws_FnSparseIsItsList.L0 y0 y1 y2 y3 y4 y5 y6 y7 y8 y9 y10) := Sup.of_mono fun k => laws_FnSparseIsItsList.mono_l k y0 y1 y2 y3 y4 y5 y6 y7 y8 y9 y10
noncomputable def laws_FnSparseIsItsList.F (l0 : List Int) (l1 : List Int) : Option (Bool) := lim fun k => laws_FnSparseIsItsList.f k l0 l1
theorem laws_FnSparseIsItsList.F_sup (l0 : List Int) (l1 : List Int) : Sup (fun k => laws_FnSparseIsItsList.f k l0 l1) (laws_FnSparseIsItsList.F l0 l1) := Sup.of_mono fun k => laws_FnSparseIsItsList.mono l0 l1 k
theorem laws_FnSparseIsItsList.L0_eq (x5 : List Int) (x99 : List Int) (x100 : Int) (x101 : Int) (x444000 : Int) (x444001 : Int) (x444002 : Int) (x444003 : Int) (x444004 : List Int) (x444005 : Int) (x444006 : List Int) : laws_FnSparseIsItsList.L0 x5 x99 x100 x101 x444000 x444001 x444002 x444003 x444004 x444005 x444006 = if x101 < x100 then (if 0 ≤ x101 then (if x101 < (x99.length : Int) then ((impl_SparseAt.F x444000 x444001 x444002 x444003 x444004 x444005 x444006 x101).bind fun bt466 => ((impl_CountBelow.F x444000 x444001 x444002 x444003 x444004 x444005 x444006 (rd x99 x101)).bind fun bt468 => ((impl_LastAtMost.F x444000 x444001 x444002 x444003 x444004 x444005 x444006 (rd x99 x101)).bind fun bt470 => ((impl_FirstAtLeast.F x444000 x444001 x444002 x444003 x444004 x444005 x444006 (rd x99 x101)).bind fun bt472 => (if bt466.2 = true then (if bt468.2 = true then (if bt470.2 = true then (if bt472.2 = true then (if bt466.1 = (rd x99 x101) then (if bt468.1 = bt472.1 then (if bt472.1 > x101 then (none) else (if bt470.1 < x101 then (none) else (if 0 ≤ bt472.1 then (if bt472.1 < (x5.length : Int) then (if (rd x5 bt472.1) = (rd x99 x101) then (if 0 ≤ bt470.1 then (if bt470.1 < (x5.length : Int) then (if (rd x5 bt470.1) = (rd x99 x101) then (if bt472.1 > 0 then (if 0 ≤ (wrap64 (bt472.1 - 1)) then (if (wrap64 (bt472.1 - 1)) < (x5.length : Int) then (if (rd x5 (wrap64 (bt472.1 - 1))) = (rd x99 x101) then (none) else (if (wrap64 (bt470.1 + 1)) < (x5.length : Int) then (if 0 ≤ (wrap64 (bt470.1 + 1)) then (if (rd x5 (wrap64 (bt470.1 + 1))) = (rd x99 x101) then (none) else (laws_FnSparseIsItsList.L0 x5 x99 x100 (wrap64 (x101 + 1)) x444000 x444001 x444002 x444003 x444004 x444005 x444006)) else (none)) else (laws_FnSparseIsItsList.L0 x5 x99 x100 (wrap64 (x101 + 1)) x444000 x444001 x444002 x444003 x444004 x444005 x444006))) else (none)) else (none)) else (if (wrap64 (bt470.1 + 1)) < (x5.length : Int) then (if 0 ≤ (wrap64 (bt470.1 + 1)) then (if (rd x5 (wrap64 (bt470.1 + 1))) = (rd x99 x101) then (none) else (laws_FnSparseIsItsList.L0 x5 x99 x100 (wrap64 (x101 + 1)) x444000 x444001 x444002 x444003 x444004 x444005 x444006)) else (none)) else (laws_FnSparseIsItsList.L0 x5 x99 x100 (wrap64 (x101 + 1)) x444000 x444001 x444002 x444003 x444004 x444005 x444006))) else (none)) else (none)) else (none)) else (none)) else (none)) else (none)))) else (none)) else (none)) else (none)) else (none)) else (none)) else (none)))))) else (none)) else (none)) else (some true) := by
  refine Sup.unique (laws_FnSparseIsItsList.L0_sup x5 x99 x100 x101 x444000 x444001 x444002 x444003 x444004 x444005 x444006) (Sup.shift (fun k => laws_FnSparseIsItsList.mono_l k x5 x99 x100 x101 x444000 x444001 x444002 x444003 x444004 x444005 x444006) (Sup.congr (g' := fun k => if x101 < x100 then (if 0 ≤ x101 then (if x101 < (x99.length : Int) then ((impl_SparseAt.f k x444000 x444001 x444002 x444003 x444004 x444005 x444006 x101).bind fun bt466 => ((impl_CountBelow.f k x444000 x444001 x444002 x444003 x444004 x444005 x444006 (rd x99 x101)).bind fun bt468 => ((impl_LastAtMost.f k x444000 x444001 x444002 x444003 x444004 x444005 x444006 (rd x99 x101)).bind fun bt470 => ((impl_FirstAtLeast.f k x444000 x444001 x444002 x444003 x444004 x444005 x444006 (rd x99 x101)).bind fun bt472 => (if bt466.2 = true then (if bt468.2 = true then (if bt470.2 = true then (if bt472.2 = true then (if bt466.1 = (rd x99 x101) then (if bt468.1 = bt472.1 then (if bt472.1 > x101 then (none) else (if bt470.1 < x101 then (none) else (if 0 ≤ bt472.1 then (if bt472.1 < (x5.length : Int) then (if (rd x5 bt472.1) = (rd x99 x101) then (if 0 ≤ bt470.1 then (if bt470.1 < (x5.length : Int) then (if (rd x5 bt470.1) = (rd x99 x101) then (if bt472.1 > 0 then (if 0 ≤ (wrap64 (bt472.1 - 1)) then (if (wrap64 (bt472.1 - 1)) < (x5.length : Int) then (if (rd x5 (wrap64 (bt472.1 - 1))) = (rd x99 x101) then (none) else (if (wrap64 (bt470.1 + 1)) < (x5.length : Int) then (if 0 ≤ (wrap64 (bt470.1 + 1)) then (if (rd x5 (wrap64 (bt470.1 + 1))) = (rd x99 x101) then (none) else (laws_FnSparseIsItsList.l0 k x5 x99 x100 (wrap64 (x101 + 1)) x444000 x444001 x444002 x444003 x444004 x444005 x444006)) else (none)) else (laws_FnSparseIsItsList.l0 k x5 x99 x100 (wrap64 (x101 + 1)) x444000 x444001 x444002 x444003 x444004 x444005 x444006))) else (none)) else (none)) else (if (wrap64 (bt470.1 + 1)) < (x5.length : Int) then (if 0 ≤ (wrap64 (bt470.1 + 1)) then (if (rd x5 (wrap64 (bt470.1 + 1))) = (rd x99 x101) then (none) else (laws_FnSparseIsItsList.l0 k x5 x99 x100 (wrap64 (x101 + 1)) x444000 x444001 x444002 x444003 x444004 x444005 x444006)) else (none)) else (laws_FnSparseIsItsList.l0 k x5 x99 x100 (wrap64 (x101 + 1)) x444000 x444001 x444002 x444003 x444004 x444005 x444006))) else (none)) else (none)) else (none)) else (none)) else (none)) else (none)))) else (none)) else (none)) else (none)) else (none)) else (none)) else (none)))))) else (none)) else (none)) else (some true)) (fun k => by first | rfl | simp only [laws_FnSparseIsItsList.l0]) ?_))
  repeat' first
    | (with_reducible exact laws_FnSparseIsItsList.L0_sup _ _ _ _ _ _ _ _ _ _ _)
    | (with_reducible exact spec_DrawBuildSparse.F_sup _)
    | (with_reducible exact impl_BuildSparse.F_sup _ _)
    | (with_reducible exact spec_BuildSparse.F_sup _ _)
    | (with_reducible exact laws_pSameSparse.F_sup _ _ _ _ _ _ _ _ _ _ _ _ _ _)
    | (with_reducible exact impl_SparseList.F_sup _ _ _ _ _ _ _)
    | (with_reducible exact impl_SparseBits.F_sup _ _ _ _ _ _ _)
    | (with_reducible exact laws_pSameInts.F_sup _ _)
    | (with_reducible exact impl_SparseAt.F_sup _ _ _ _ _ _ _ _)
    | (with_reducible exact impl_CountBelow.F_sup _ _ _ _ _ _ _ _)
    | (with_reducible exact impl_LastAtMost.F_sup _ _ _ _ _ _ _ _)
    | (with_reducible exact impl_FirstAtLeast.F_sup _ _ _ _ _ _ _ _)
    | (with_reducible refine Sup.ite ?_ ?_)
    | (with_reducible refine Sup.bind ?_ (fun _ => ?_))
    | (with_reducible exact Sup.const _)
    | exact laws_FnSparseIsItsList.L0_sup _ _ _ _ _ _ _ _ _ _ _
    | exact spec_DrawBuildSparse.F_sup _
    | exact impl_BuildSparse.F_sup _ _
    | exact spec_BuildSparse.F_sup _ _
    | exact laws_pSameSparse.F_sup _ _ _ _ _ _ _ _ _ _ _ _ _ _
    | exact impl_SparseList.F_sup _ _ _ _ _ _ _
    | exact impl_SparseBits.F_sup _ _ _ _ _ _ _
    | exact laws_pSameInts.F_sup _ _
    | exact impl_SparseAt.F_sup _ _ _ _ _ _ _ _
    | exact impl_CountBelow.F_sup _ _ _ _ _ _ _ _
    | exact impl_LastAtMost.F_sup _ _ _ _ _ _ _ _
    | exact impl_FirstAtLeast.F_sup _ _ _ _ _ _ _ _
    | exact Sup.const _
theorem laws_FnSparseIsItsList.F_eq (l0 : List Int) (l1 : List Int) : laws_FnSparseIsItsList.F l0 l1 = (laws_big.f l0 l1).bind fun t426 => (if t426 = true then (some true) else ((spec_DrawBuildSparse.F l0).bind fun bt427 => ((impl_BuildSparse.F bt427.1 bt427.2).bind fun bt431 => ((spec_BuildSparse.F bt427.1 bt427.2).bind fun bt444 => (if (bt431.2.2.2.2.2.2.2 != bt444.2.2.2.2.2.2.2) = true then (none) else ((laws_pSameSparse.F bt431.1 bt431.2.1 bt431.2.2.1 bt431.2.2.2.1 bt431.2.2.2.2.1 bt431.2.2.2.2.2.1 bt431.2.2.2.2.2.2.1 bt444.1 bt444.2.1 bt444.2.2.1 bt444.2.2.2.1 bt444.2.2.2.2.1 bt444.2.2.2.2.2.1 bt444.2.2.2.2.2.2.1).bind fun t457 => (if t457 = true then (if bt444.2.2.2.2.2.2.2 = true then ((impl_SparseList.F bt431.1 bt431.2.1 bt431.2.2.1 bt431.2.2.2.1 bt431.2.2.2.2.1 bt431.2.2.2.2.2.1 bt431.2.2.2.2.2.2.1).bind fun bt458 => ((impl_SparseBits.F bt431.1 bt431.2.1 bt431.2.2.1 bt431.2.2.2.1 bt431.2.2.2.2.1 bt431.2.2.2.2.2.1 bt431.2.2.2.2.2.2.1).bind fun bt462 => (if bt458.2 = true then (if bt462.2 = true then ((laws_pSameInts.F bt458.1 bt427.1).bind fun t464 => (if t464 = true then (if (bt427.1.length : Int) > 0 then (if (bt427.1.length : Int) ≤ bt427.2 then (if bt462.1 > (wrap64 ((bt427.1.length : Int) * (wrap64 (bt431.2.2.1 + 3)))) then (none) else (laws_FnSparseIsItsList.L0 bt427.1 bt427.1 (bt427.1.length : Int) 0 bt431.1 bt431.2.1 bt431.2.2.1 bt431.2.2.2.1 bt431.2.2.2.2.1 bt431.2.2.2.2.2.1 bt431.2.2.2.2.2.2.1)) else (laws_FnSparseIsItsList.L0 bt427.1 bt427.1 (bt427.1.length : Int) 0 bt431.1 bt431.2.1 bt431.2.2.1 bt431.2.2.2.1 bt431.2.2.2.2.1 bt431.2.2.2.2.2.1 bt431.2.2.2.2.2.2.1)) else (laws_FnSparseIsItsList.L0 bt427.1 bt427.1 (bt427.1.length : Int) 0 bt431.1 bt431.2.1 bt431.2.2.1 bt431.2.2.2.1 bt431.2.2.2.2.1 bt431.2.2.2.2.2.1 bt431.2.2.2.2.2.2.1)) else (none))) else (none)) else (none)))) else (some true)) else (none)))))))) := by
  refine Sup.unique (laws_FnSparseIsItsList.F_sup l0 l1) (Sup.congr (g' := fun k => (laws_big.f l0 l1).bind fun t426 => (if t426 = true then (some true) else ((spec_DrawBuildSparse.f k l0).bind fun bt427 => ((impl_BuildSparse.f k bt427.1 bt427.2).bind fun bt431 => ((spec_BuildSparse.f k bt427.1 bt427.2).bind fun bt444 => (if (bt431.2.2.2.2.2.2.2 != bt444.2.2.2.2.2.2.2) = true then (none) else ((laws_pSameSparse.f k bt431.1 bt431.2.1 bt431.2.2.1 bt431.2.2.2.1 bt431.2.2.2.2.1 bt431.2.2.2.2.2.1 bt431.2.2.2.2.2.2.1 bt444.1 bt444.2.1 bt444.2.2.1 bt444.2.2.2.1 bt444.2.2.2.2.1 bt444.2.2.2.2.2.1 bt444.2.2.2.2.2.2.1).bind fun t457 => (if t457 = true then (if bt444.2.2.2.2.2.2.2 = true then ((impl_SparseList.f k bt431.1 bt431.2.1 bt431.2.2.1 bt431.2.2.2.1 bt431.2.2.2.2.1 bt431.2.2.2.2.2.1 bt431.2.2.2.2.2.2.1).bind fun bt458 => ((impl_SparseBits.f k bt431.1 bt431.2.1 bt431.2.2.1 bt431.2.2.2.1 bt431.2.2.2.2.1 bt431.2.2.2.2.2.1 bt431.2.2.2.2.2.2.1).bind fun bt462 => (if bt458.2 = true then (if bt462.2 = true then ((laws_pSameInts.f k bt458.1 bt427.1).bind fun t464 => (if t464 = true then (if (bt427.1.length : Int) > 0 then (if (bt427.1.length : Int) ≤ bt427.2 then (if bt462.1 > (wrap64 ((bt427.1.length : Int) * (wrap64 (bt431.2.2.1 + 3)))) then (none) else (laws_FnSparseIsItsList.l0 k bt427.1 bt427.1 (bt427.1.length : Int) 0 bt431.1 bt431.2.1 bt431.2.2.1 bt431.2.2.2.1 bt431.2.2.2.2.1 bt431.2.2.2.2.2.1 bt431.2.2.2.2.2.2.1)) else (laws_FnSparseIsItsList.l0 k bt427.1 bt427.1 (bt427.1.length : Int) 0 bt431.1 bt431.2.1 bt431.2.2.1 bt431.2.2.2.1 bt431.2.2.2.2.1 bt431.2.2.2.2.2.1 bt431.2.2.2.2.2.2.1)) else (laws_FnSparseIsItsList.l0 k bt427.1 bt427.1 (bt427.1.length : Int) 0 bt431.1 bt431.2.1 bt431.2.2.1 bt431.2.2.2.1 bt431.2.2.2.2.1 bt431.2.2.2.2.2.1 bt431.2.2.2.2.2.2.1)) else (none))) else (none)) else (none)))) else (some true)) else (none))))))))) (fun k => by first | rfl | simp only [laws_FnSparseIsItsList.f]) ?_)
  repeat' first
    | (with_reducible exact laws_FnSparseIsItsList.L0_sup _ _ _ _ _ _ _ _ _ _ _)
    | (with_reducible exact spec_DrawBuildSparse.F_sup _)
    | (with_reducible exact impl_BuildSparse.F_sup _ _)
    | (with_reducible exact spec_BuildSparse.F_sup _ _)
    | (with_reducible exact laws_pSameSparse.F_sup _ _ _ _ _ _ _ _ _ _ _ _ _ _)
    | (with_reducible exact impl_SparseList.F_sup _ _ _ _ _ _ _)
    | (with_reducible exact impl_SparseBits.F_sup _ _ _ _ _ _ _)
    | (with_reducible exact laws_pSameInts.F_sup _ _)
    | (with_reducible exact impl_SparseAt.F_sup _ _ _ _ _ _ _ _)
    | (with_reducible exact impl_CountBelow.F_sup _ _ _ _ _ _ _ _)
    | (with_reducible exact impl_LastAtMost.F_sup _ _ _ _ _ _ _ _)
    | (with_reducible exact impl_FirstAtLeast.F_sup _ _ _ _ _ _ _ _)
    | (with_reducible refine Sup.ite ?_ ?_)
    | (with_reducible refine Sup.bind ?_ (fun _ => ?_))
    | (with_reducible exact Sup.const _)
    | exact laws_FnSparseIsItsList.L0_sup _ _ _ _ _ _ _ _ _ _ _
    | exact spec_DrawBuildSparse.F_sup _
    | exact impl_BuildSparse.F_sup _ _
    | exact spec_BuildSparse.F_sup _ _
    | exact laws_pSameSparse.F_sup _ _ _ _ _ _ _ _ _ _ _ _ _ _
    | exact impl_SparseList.F_sup _ _ _ _ _ _ _
    | exact impl_SparseBits.F_sup _ _ _ _ _ _ _
    | exact laws_pSameInts.F_sup _ _
    | exact impl_SparseAt.F_sup _ _ _ _ _ _ _ _
    | exact impl_CountBelow.F_sup _ _ _ _ _ _ _ _
    | exact impl_LastAtMost.F_sup _ _ _ _ _ _ _ _
    | exact impl_FirstAtLeast.F_sup _ _ _ _ _ _ _ _
    | exact Sup.const _
end Go.Proofs.Ytcgakiihochafaa.X
