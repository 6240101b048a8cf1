/- Written by a program of this session: what functions of the given program compute, and that their calls do so. -/
import Derived.Test.YtcgakiihochafaaXx0
import Derived.Test.YtcgakiihochafaaXg1a
import Derived.Test.YtcgakiihochafaaXg1b
import Derived.Test.YtcgakiihochafaaXg1c
import Derived.Test.YtcgakiihochafaaXs
namespace Go.Proofs.Ytcgakiihochafaa.X
open Go.RowKit Go.Proofs.YtcgakiihochafaaW.PrintWords Go.Proofs.YtcgakiihochafaaW.PrintLast Go.Proofs.YtcgakiihochafaaW.PrintMore
theorem cellsQ7_g1d {w : World} {g : Nat} {t : TypeId} {a0 a1 a2 a3 a4 a5 a6 : Value} (k : w.heap[g]? = some (.cells #[a0, a1, a2, a3, a4, a5, a6] t (0, 0))) : w.cell? ⟨g, 0, none⟩ = some a0 ∧ w.cell? ⟨g, 1, none⟩ = some a1 ∧ w.cell? ⟨g, 2, none⟩ = some a2 ∧ w.cell? ⟨g, 3, none⟩ = some a3 ∧ w.cell? ⟨g, 4, none⟩ = some a4 ∧ w.cell? ⟨g, 5, none⟩ = some a5 ∧ w.cell? ⟨g, 6, none⟩ = some a6 ∧ w.frozen? ⟨g, 0, none⟩ = false ∧ w.frozen? ⟨g, 1, none⟩ = false ∧ w.frozen? ⟨g, 2, none⟩ = false ∧ w.frozen? ⟨g, 3, none⟩ = false ∧ w.frozen? ⟨g, 4, none⟩ = false ∧ w.frozen? ⟨g, 5, none⟩ = false ∧ w.frozen? ⟨g, 6, none⟩ = false := ⟨(blk_cell k 0).trans rfl, (blk_cell k 1).trans rfl, (blk_cell k 2).trans rfl, (blk_cell k 3).trans rfl, (blk_cell k 4).trans rfl, (blk_cell k 5).trans rfl, (blk_cell k 6).trans rfl, blk_frozen k 0, blk_frozen k 1, blk_frozen k 2, blk_frozen k 3, blk_frozen k 4, blk_frozen k 5, blk_frozen k 6⟩
theorem farsQ7_g1d {τ : Type} {d : Kd τ} {e : Nat} {w : World} {base g : Nat} {ok : Nat → Prop} {v : Value} {xs : List τ} (h : d.R e w base ok v xs) (hok : ∀ k, ok k → k ≠ g) (u0 u1 u2 u3 u4 u5 u6 : Value) : d.R e (((((((w.setCell ⟨g, 0, none⟩ u0).setCell ⟨g, 1, none⟩ u1).setCell ⟨g, 2, none⟩ u2).setCell ⟨g, 3, none⟩ u3).setCell ⟨g, 4, none⟩ u4).setCell ⟨g, 5, none⟩ u5).setCell ⟨g, 6, none⟩ u6) base ok v xs := Kd.R_far (p := ⟨g, 6, none⟩) (Kd.R_far (p := ⟨g, 5, none⟩) (Kd.R_far (p := ⟨g, 4, none⟩) (Kd.R_far (p := ⟨g, 3, none⟩) (Kd.R_far (p := ⟨g, 2, none⟩) (Kd.R_far (p := ⟨g, 1, none⟩) (Kd.R_far (p := ⟨g, 0, none⟩) h hok u0) hok u1) hok u2) hok u3) hok u4) hok u5) hok u6
open Go.Proofs.YtcgakiihochafaaW.PrintWords renaming blk_cell → Qc, below_drew1 → Qd, blk_alloc → Qk, blk_drewN → Qm, blk_drew → Qw, below_size → Qz, below_step → Qp, blk_below → Qb, blk_put → Qu, blk_far → Qr
open Go.Proofs.YtcgakiihochafaaW.PrintWords.Kd renaming R_drew → Qrd, R_mono → Qrm, R_below → Qrb
open Go.Proofs.YtcgakiihochafaaW.PrintWords.Aside0 renaming mk → Qx
attribute [local go_sem] max2_int min2_int max_two min_two max_three min_three max_four min_four   -- for this text's walks alone
set_option linter.unusedVariables false
set_option linter.unusedSimpArgs false
/-! ### impl_Sparse_numbers: function 23 -/
mutual
def impl_Sparse_numbers.j0 : Nat → Int → Bool → Int → Int → Int → Int → List Int → Int → List Int → Option (List Int × Bool)
  | 0, _, _, _, _, _, _, _, _, _ => none
  | k + 1, x4, x61, x1000, x1001, x1002, x1003, x1004, x1005, x1006 => if x61 = true then (some (([] : List Int), false)) else (impl_Sparse_numbers.l0 k x4 (([] : List Int)) x1005 0 x1000 x1001 x1002 x1003 x1004 x1005 x1006)
def impl_Sparse_numbers.l0 : Nat → Int → List Int → Int → Int → Int → Int → Int → Int → List Int → Int → List Int → Option (List Int × Bool)
  | 0, _, _, _, _, _, _, _, _, _, _, _ => none
  | k + 1, x4, x6, x67, x68, x1000, x1001, x1002, x1003, x1004, x1005, x1006 => if x68 < x67 then ((impl_Bits_at_in_30_5.f x1000 x1001 x1002 x1003 x1004 x1005 x1006 x68).bind fun t354 => (if t354 = true then (if (x6.length : Int) < x1000 then (if 0 ≤ x4 then ((impl_Bits_field_in_30_3.f k x1000 x1001 x1002 x1003 x1004 x1005 x1006 (wrap64 ((x6.length : Int) * x4)) x4).bind fun t355 => (if x6.length < 17592186044416 then (impl_Sparse_numbers.l0 k x4 (x6 ++ [Go.bits .or .i64 (shl .i64 (wrap64 (x68 - (x6.length : Int))) x4) t355]) x67 (wrap64 (x68 + 1)) x1000 x1001 x1002 x1003 x1004 x1005 x1006) else (none))) else (none)) else (impl_Sparse_numbers.l0 k x4 x6 x67 (wrap64 (x68 + 1)) x1000 x1001 x1002 x1003 x1004 x1005 x1006)) else (impl_Sparse_numbers.l0 k x4 x6 x67 (wrap64 (x68 + 1)) x1000 x1001 x1002 x1003 x1004 x1005 x1006))) else (if (x6.length : Int) = x1000 then ((impl_sortedOk.f k x6 x1001).bind fun t359 => (impl_Sparse_numbers.j2 k x6 (!t359) x1000 x1001 x1002 x1003 x1004 x1005 x1006)) else (impl_Sparse_numbers.j2 k x6 true x1000 x1001 x1002 x1003 x1004 x1005 x1006))
def impl_Sparse_numbers.j2 : Nat → List Int → Bool → Int → Int → Int → Int → List Int → Int → List Int → Option (List Int × Bool)
  | 0, _, _, _, _, _, _, _, _, _ => none
  | k + 1, x6, x119, x1000, x1001, x1002, x1003, x1004, x1005, x1006 => if x119 = true then (some (([] : List Int), false)) else ((impl_sparse.f k x6 x1001).bind fun bt360 => ((impl_sameBits.f k bt360.2.2.2.1 bt360.2.2.2.2.1 x1003 x1004).bind fun t372 => (if t372 = true then ((impl_sameBits.f k bt360.2.2.2.2.2.1 bt360.2.2.2.2.2.2 x1005 x1006).bind fun t373 => (some (x6, t373))) else (some (x6, false)))))
end
def impl_Sparse_numbers.f (k : Nat) (a0_0 : Int) (a0_1 : Int) (a0_2 : Int) (a0_3 : Int) (l0_4 : List Int) (a0_5 : Int) (l0_6 : List Int) : Option (List Int × Bool) := (impl_WidthFor.f k a0_0 a0_1).bind fun bt347 => (if bt347.2 = true then (if bt347.1 = a0_2 then ((impl_IsBits.f k a0_3 l0_4).bind fun t349 => (if t349 = true then ((impl_IsBits.f k a0_5 l0_6).bind fun t350 => (if t350 = true then (impl_Sparse_numbers.j0 k bt347.1 (a0_3 != (wrap64 (bt347.1 * a0_0))) a0_0 a0_1 a0_2 a0_3 l0_4 a0_5 l0_6) else (impl_Sparse_numbers.j0 k bt347.1 true a0_0 a0_1 a0_2 a0_3 l0_4 a0_5 l0_6))) else (impl_Sparse_numbers.j0 k bt347.1 true a0_0 a0_1 a0_2 a0_3 l0_4 a0_5 l0_6))) else (impl_Sparse_numbers.j0 k bt347.1 true a0_0 a0_1 a0_2 a0_3 l0_4 a0_5 l0_6)) else (impl_Sparse_numbers.j0 k bt347.1 true a0_0 a0_1 a0_2 a0_3 l0_4 a0_5 l0_6))
theorem impl_Sparse_numbers.mono_l : ∀ k, (∀ y0 y1 y2 y3 y4 y5 y6 y7 y8, LeO (impl_Sparse_numbers.j0 k y0 y1 y2 y3 y4 y5 y6 y7 y8) (impl_Sparse_numbers.j0 (k + 1) y0 y1 y2 y3 y4 y5 y6 y7 y8)) ∧ (∀ y0 y1 y2 y3 y4 y5 y6 y7 y8 y9 y10, LeO (impl_Sparse_numbers.l0 k y0 y1 y2 y3 y4 y5 y6 y7 y8 y9 y10) (impl_Sparse_numbers.l0 (k + 1) y0 y1 y2 y3 y4 y5 y6 y7 y8 y9 y10)) ∧ (∀ y0 y1 y2 y3 y4 y5 y6 y7 y8, LeO (impl_Sparse_numbers.j2 k y0 y1 y2 y3 y4 y5 y6 y7 y8) (impl_Sparse_numbers.j2 (k + 1) y0 y1 y2 y3 y4 y5 y6 y7 y8))
  | 0 => ⟨fun _ _ _ _ _ _ _ _ _ r h => by simp [impl_Sparse_numbers.j0] at h, fun _ _ _ _ _ _ _ _ _ _ _ r h => by simp [impl_Sparse_numbers.l0] at h, fun _ _ _ _ _ _ _ _ _ r h => by simp [impl_Sparse_numbers.j2] at h⟩
  | k + 1 => by
    obtain ⟨ih0, ih1, ih2⟩ := impl_Sparse_numbers.mono_l k
    refine ⟨?_, ?_, ?_⟩
    · intro y0 y1 y2 y3 y4 y5 y6 y7 y8
      unfold impl_Sparse_numbers.j0
      repeat' first
      | (with_reducible exact ih0 _ _ _ _ _ _ _ _ _)
      | (with_reducible exact ih1 _ _ _ _ _ _ _ _ _ _ _)
      | (with_reducible exact ih2 _ _ _ _ _ _ _ _ _)
      | (with_reducible exact impl_Bits_field_in_30_3.mono _ _ _ _ _ _ _ _ _ _)
      | (with_reducible exact impl_IsBits.mono _ _ _)
      | (with_reducible exact impl_WidthFor.mono _ _ _)
      | (with_reducible exact impl_sameBits.mono _ _ _ _ _)
      | (with_reducible exact impl_sortedOk.mono _ _ _)
      | (with_reducible exact impl_sparse.mono _ _ _)
      | (with_reducible exact LeO.refl _)
      | (with_reducible exact LeO.none _)
      | (with_reducible refine LeO.ite ?_ ?_)
      | (with_reducible refine LeO.bind ?_ (fun _ => ?_))
      | exact ih0 _ _ _ _ _ _ _ _ _
      | exact ih1 _ _ _ _ _ _ _ _ _ _ _
      | exact ih2 _ _ _ _ _ _ _ _ _
      | exact impl_Bits_field_in_30_3.mono _ _ _ _ _ _ _ _ _ _
      | exact impl_IsBits.mono _ _ _
      | exact impl_WidthFor.mono _ _ _
      | exact impl_sameBits.mono _ _ _ _ _
      | exact impl_sortedOk.mono _ _ _
      | exact impl_sparse.mono _ _ _
      | exact LeO.none _
      | refine LeO.ite ?_ ?_
      | refine LeO.bind ?_ (fun _ => ?_)
    · intro y0 y1 y2 y3 y4 y5 y6 y7 y8 y9 y10
      unfold impl_Sparse_numbers.l0
      repeat' first
      | (with_reducible exact ih0 _ _ _ _ _ _ _ _ _)
      | (with_reducible exact ih1 _ _ _ _ _ _ _ _ _ _ _)
      | (with_reducible exact ih2 _ _ _ _ _ _ _ _ _)
      | (with_reducible exact impl_Bits_field_in_30_3.mono _ _ _ _ _ _ _ _ _ _)
      | (with_reducible exact impl_IsBits.mono _ _ _)
      | (with_reducible exact impl_WidthFor.mono _ _ _)
      | (with_reducible exact impl_sameBits.mono _ _ _ _ _)
      | (with_reducible exact impl_sortedOk.mono _ _ _)
      | (with_reducible exact impl_sparse.mono _ _ _)
      | (with_reducible exact LeO.refl _)
      | (with_reducible exact LeO.none _)
      | (with_reducible refine LeO.ite ?_ ?_)
      | (with_reducible refine LeO.bind ?_ (fun _ => ?_))
      | exact ih0 _ _ _ _ _ _ _ _ _
      | exact ih1 _ _ _ _ _ _ _ _ _ _ _
      | exact ih2 _ _ _ _ _ _ _ _ _
      | exact impl_Bits_field_in_30_3.mono _ _ _ _ _ _ _ _ _ _
      | exact impl_IsBits.mono _ _ _
      | exact impl_WidthFor.mono _ _ _
      | exact impl_sameBits.mono _ _ _ _ _
      | exact impl_sortedOk.mono _ _ _
      | exact impl_sparse.mono _ _ _
      | exact LeO.none _
      | refine LeO.ite ?_ ?_
      | refine LeO.bind ?_ (fun _ => ?_)
    · intro y0 y1 y2 y3 y4 y5 y6 y7 y8
      unfold impl_Sparse_numbers.j2
      repeat' first
      | (with_reducible exact ih0 _ _ _ _ _ _ _ _ _)
      | (with_reducible exact ih1 _ _ _ _ _ _ _ _ _ _ _)
      | (with_reducible exact ih2 _ _ _ _ _ _ _ _ _)
      | (with_reducible exact impl_Bits_field_in_30_3.mono _ _ _ _ _ _ _ _ _ _)
      | (with_reducible exact impl_IsBits.mono _ _ _)
      | (with_reducible exact impl_WidthFor.mono _ _ _)
      | (with_reducible exact impl_sameBits.mono _ _ _ _ _)
      | (with_reducible exact impl_sortedOk.mono _ _ _)
      | (with_reducible exact impl_sparse.mono _ _ _)
      | (with_reducible exact LeO.refl _)
      | (with_reducible exact LeO.none _)
      | (with_reducible refine LeO.ite ?_ ?_)
      | (with_reducible refine LeO.bind ?_ (fun _ => ?_))
      | exact ih0 _ _ _ _ _ _ _ _ _
      | exact ih1 _ _ _ _ _ _ _ _ _ _ _
      | exact ih2 _ _ _ _ _ _ _ _ _
      | exact impl_Bits_field_in_30_3.mono _ _ _ _ _ _ _ _ _ _
      | exact impl_IsBits.mono _ _ _
      | exact impl_WidthFor.mono _ _ _
      | exact impl_sameBits.mono _ _ _ _ _
      | exact impl_sortedOk.mono _ _ _
      | exact impl_sparse.mono _ _ _
      | exact LeO.none _
      | refine LeO.ite ?_ ?_
      | refine LeO.bind ?_ (fun _ => ?_)
theorem impl_Sparse_numbers.mono : ∀ a0 a1 a2 a3 a4 a5 a6 k, LeO (impl_Sparse_numbers.f k a0 a1 a2 a3 a4 a5 a6) (impl_Sparse_numbers.f (k + 1) a0 a1 a2 a3 a4 a5 a6) := by
  intro a0 a1 a2 a3 a4 a5 a6 k
  obtain ⟨ih0, ih1, ih2⟩ := impl_Sparse_numbers.mono_l k
  unfold impl_Sparse_numbers.f
  repeat' first
      | (with_reducible exact ih0 _ _ _ _ _ _ _ _ _)
      | (with_reducible exact ih1 _ _ _ _ _ _ _ _ _ _ _)
      | (with_reducible exact ih2 _ _ _ _ _ _ _ _ _)
      | (with_reducible exact impl_Bits_field_in_30_3.mono _ _ _ _ _ _ _ _ _ _)
      | (with_reducible exact impl_IsBits.mono _ _ _)
      | (with_reducible exact impl_WidthFor.mono _ _ _)
      | (with_reducible exact impl_sameBits.mono _ _ _ _ _)
      | (with_reducible exact impl_sortedOk.mono _ _ _)
      | (with_reducible exact impl_sparse.mono _ _ _)
      | (with_reducible exact LeO.refl _)
      | (with_reducible exact LeO.none _)
      | (with_reducible refine LeO.ite ?_ ?_)
      | (with_reducible refine LeO.bind ?_ (fun _ => ?_))
      | exact ih0 _ _ _ _ _ _ _ _ _
      | exact ih1 _ _ _ _ _ _ _ _ _ _ _
      | exact ih2 _ _ _ _ _ _ _ _ _
      | exact impl_Bits_field_in_30_3.mono _ _ _ _ _ _ _ _ _ _
      | exact impl_IsBits.mono _ _ _
      | exact impl_WidthFor.mono _ _ _
      | exact impl_sameBits.mono _ _ _ _ _
      | exact impl_sortedOk.mono _ _ _
      | exact impl_sparse.mono _ _ _
      | exact LeO.none _
      | refine LeO.ite ?_ ?_
      | refine LeO.bind ?_ (fun _ => ?_)
noncomputable def impl_Sparse_numbers.J0 (y0 : Int) (y1 : Bool) (y2 : Int) (y3 : Int) (y4 : Int) (y5 : Int) (y6 : List Int) (y7 : Int) (y8 : List Int) : Option (List Int × Bool) := lim fun k => impl_Sparse_numbers.j0 k y0 y1 y2 y3 y4 y5 y6 y7 y8
theorem impl_Sparse_numbers.J0_sup (y0 : Int) (y1 : Bool) (y2 : Int) (y3 : Int) (y4 : Int) (y5 : Int) (y6 : List Int) (y7 : Int) (y8 : List Int) : Sup (fun k => impl_Sparse_numbers.j0 k y0 y1 y2 y3 y4 y5 y6 y7 y8) (impl_Sparse_numbers.J0 y0 y1 y2 y3 y4 y5 y6 y7 y8) := Sup.of_mono fun k => (impl_Sparse_numbers.mono_l k).1 y0 y1 y2 y3 y4 y5 y6 y7 y8
noncomputable def impl_Sparse_numbers.L0 (y0 : Int) (y1 : List Int) (y2 : Int) (y3 : Int) (y4 : Int) (y5 : Int) (y6 : Int) (y7 : Int) (y8 : List Int) (y9 : Int) (y10 : List Int) : Option (List Int × Bool) := lim fun k => impl_Sparse_numbers.l0 k y0 y1 y2 y3 y4 y5 y6 y7 y8 y9 y10
theorem impl_Sparse_numbers.L0_sup (y0 : Int) (y1 : List Int) (y2 : Int) (y3 : Int) (y4 : Int) (y5 : Int) (y6 : Int) (y7 : Int) (y8 : List Int) (y9 : Int) (y10 : List Int) : Sup (fun k => impl_Sparse_numbers.l0 k y0 y1 y2 y3 y4 y5 y6 y7 y8 y9 y10) (impl_Sparse_numbers.L0 y0 y1 y2 y3 y4 y5 y6 y7 y8 y9 y10) := Sup.of_mono fun k => (impl_Sparse_numbers.mono_l k).2.1 y0 y1 y2 y3 y4 y5 y6 y7 y8 y9 y10
noncomputable def impl_Sparse_numbers.J2 (y0 : List Int) (y1 : Bool) (y2 : Int) (y3 : Int) (y4 : Int) (y5 : Int) (y6 : List Int) (y7 : Int) (y8 : List Int) : Option (List Int × Bool) := lim fun k => impl_Sparse_numbers.j2 k y0 y1 y2 y3 y4 y5 y6 y7 y8
theorem impl_Sparse_numbers.J2_sup (y0 : List Int) (y1 : Bool) (y2 : Int) (y3 : Int) (y4 : Int) (y5 : Int) (y6 : List Int) (y7 : Int) (y8 : List Int) : Sup (fun k => impl_Sparse_numbers.j2 k y0 y1 y2 y3 y4 y5 y6 y7 y8) (impl_Sparse_numbers.J2 y0 y1 y2 y3 y4 y5 y6 y7 y8) := Sup.of_mono fun k => (impl_Sparse_numbers.mono_l k).2.2 y0 y1 y2 y3 y4 y5 y6 y7 y8
noncomputable def impl_Sparse_numbers.F (a0_0 : Int) (a0_1 : Int) (a0_2 : Int) (a0_3 : Int) (l0_4 : List Int) (a0_5 : Int) (l0_6 : List Int) : Option (List Int × Bool) := lim fun k => impl_Sparse_numbers.f k a0_0 a0_1 a0_2 a0_3 l0_4 a0_5 l0_6
theorem impl_Sparse_numbers.F_sup (a0_0 : Int) (a0_1 : Int) (a0_2 : Int) (a0_3 : Int) (l0_4 : List Int) (a0_5 : Int) (l0_6 : List Int) : Sup (fun k => impl_Sparse_numbers.f k a0_0 a0_1 a0_2 a0_3 l0_4 a0_5 l0_6) (impl_Sparse_numbers.F a0_0 a0_1 a0_2 a0_3 l0_4 a0_5 l0_6) := Sup.of_mono fun k => impl_Sparse_numbers.mono a0_0 a0_1 a0_2 a0_3 l0_4 a0_5 l0_6 k
theorem impl_Sparse_numbers.J0_eq (x4 : Int) (x61 : Bool) (x1000 : Int) (x1001 : Int) (x1002 : Int) (x1003 : Int) (x1004 : List Int) (x1005 : Int) (x1006 : List Int) : impl_Sparse_numbers.J0 x4 x61 x1000 x1001 x1002 x1003 x1004 x1005 x1006 = if x61 = true then (some (([] : List Int), false)) else (impl_Sparse_numbers.L0 x4 (([] : List Int)) x1005 0 x1000 x1001 x1002 x1003 x1004 x1005 x1006) := by
  refine Sup.unique (impl_Sparse_numbers.J0_sup x4 x61 x1000 x1001 x1002 x1003 x1004 x1005 x1006) (Sup.shift (fun k => (impl_Sparse_numbers.mono_l k).1 x4 x61 x1000 x1001 x1002 x1003 x1004 x1005 x1006) (Sup.congr (g' := fun k => if x61 = true then (some (([] : List Int), false)) else (impl_Sparse_numbers.l0 k x4 (([] : List Int)) x1005 0 x1000 x1001 x1002 x1003 x1004 x1005 x1006)) (fun k => by first | rfl | simp only [impl_Sparse_numbers.j0]) ?_))
  repeat' first
    | (with_reducible exact impl_Sparse_numbers.J0_sup _ _ _ _ _ _ _ _ _)
    | (with_reducible exact impl_Sparse_numbers.L0_sup _ _ _ _ _ _ _ _ _ _ _)
    | (with_reducible exact impl_Sparse_numbers.J2_sup _ _ _ _ _ _ _ _ _)
    | (with_reducible exact impl_sortedOk.F_sup _ _)
    | (with_reducible exact impl_sparse.F_sup _ _)
    | (with_reducible exact impl_WidthFor.F_sup _ _)
    | (with_reducible exact impl_IsBits.F_sup _ _)
    | (with_reducible exact impl_sameBits.F_sup _ _ _ _)
    | (with_reducible exact impl_Bits_field_in_30_3.F_sup _ _ _ _ _ _ _ _ _)
    | (with_reducible refine Sup.ite ?_ ?_)
    | (with_reducible refine Sup.bind ?_ (fun _ => ?_))
    | (with_reducible exact Sup.const _)
    | exact impl_Sparse_numbers.J0_sup _ _ _ _ _ _ _ _ _
    | exact impl_Sparse_numbers.L0_sup _ _ _ _ _ _ _ _ _ _ _
    | exact impl_Sparse_numbers.J2_sup _ _ _ _ _ _ _ _ _
    | exact impl_sortedOk.F_sup _ _
    | exact impl_sparse.F_sup _ _
    | exact impl_WidthFor.F_sup _ _
    | exact impl_IsBits.F_sup _ _
    | exact impl_sameBits.F_sup _ _ _ _
    | exact impl_Bits_field_in_30_3.F_sup _ _ _ _ _ _ _ _ _
    | exact Sup.const _
theorem impl_Sparse_numbers.L0_eq (x4 : Int) (x6 : List Int) (x67 : Int) (x68 : Int) (x1000 : Int) (x1001 : Int) (x1002 : Int) (x1003 : Int) (x1004 : List Int) (x1005 : Int) (x1006 : List Int) : impl_Sparse_numbers.L0 x4 x6 x67 x68 x1000 x1001 x1002 x1003 x1004 x1005 x1006 = if x68 < x67 then ((impl_Bits_at_in_30_5.f x1000 x1001 x1002 x1003 x1004 x1005 x1006 x68).bind fun t354 => (if t354 = true then (if (x6.length : Int) < x1000 then (if 0 ≤ x4 then ((impl_Bits_field_in_30_3.F x1000 x1001 x1002 x1003 x1004 x1005 x1006 (wrap64 ((x6.length : Int) * x4)) x4).bind fun t355 => (if x6.length < 17592186044416 then (impl_Sparse_numbers.L0 x4 (x6 ++ [Go.bits .or .i64 (shl .i64 (wrap64 (x68 - (x6.length : Int))) x4) t355]) x67 (wrap64 (x68 + 1)) x1000 x1001 x1002 x1003 x1004 x1005 x1006) else (none))) else (none)) else (impl_Sparse_numbers.L0 x4 x6 x67 (wrap64 (x68 + 1)) x1000 x1001 x1002 x1003 x1004 x1005 x1006)) else (impl_Sparse_numbers.L0 x4 x6 x67 (wrap64 (x68 + 1)) x1000 x1001 x1002 x1003 x1004 x1005 x1006))) else (if (x6.length : Int) = x1000 then ((impl_sortedOk.F x6 x1001).bind fun t359 => (impl_Sparse_numbers.J2 x6 (!t359) x1000 x1001 x1002 x1003 x1004 x1005 x1006)) else (impl_Sparse_numbers.J2 x6 true x1000 x1001 x1002 x1003 x1004 x1005 x1006)) := by
  refine Sup.unique (impl_Sparse_numbers.L0_sup x4 x6 x67 x68 x1000 x1001 x1002 x1003 x1004 x1005 x1006) (Sup.shift (fun k => (impl_Sparse_numbers.mono_l k).2.1 x4 x6 x67 x68 x1000 x1001 x1002 x1003 x1004 x1005 x1006) (Sup.congr (g' := fun k => if x68 < x67 then ((impl_Bits_at_in_30_5.f x1000 x1001 x1002 x1003 x1004 x1005 x1006 x68).bind fun t354 => (if t354 = true then (if (x6.length : Int) < x1000 then (if 0 ≤ x4 then ((impl_Bits_field_in_30_3.f k x1000 x1001 x1002 x1003 x1004 x1005 x1006 (wrap64 ((x6.length : Int) * x4)) x4).bind fun t355 => (if x6.length < 17592186044416 then (impl_Sparse_numbers.l0 k x4 (x6 ++ [Go.bits .or .i64 (shl .i64 (wrap64 (x68 - (x6.length : Int))) x4) t355]) x67 (wrap64 (x68 + 1)) x1000 x1001 x1002 x1003 x1004 x1005 x1006) else (none))) else (none)) else (impl_Sparse_numbers.l0 k x4 x6 x67 (wrap64 (x68 + 1)) x1000 x1001 x1002 x1003 x1004 x1005 x1006)) else (impl_Sparse_numbers.l0 k x4 x6 x67 (wrap64 (x68 + 1)) x1000 x1001 x1002 x1003 x1004 x1005 x1006))) else (if (x6.length : Int) = x1000 then ((impl_sortedOk.f k x6 x1001).bind fun t359 => (impl_Sparse_numbers.j2 k x6 (!t359) x1000 x1001 x1002 x1003 x1004 x1005 x1006)) else (impl_Sparse_numbers.j2 k x6 true x1000 x1001 x1002 x1003 x1004 x1005 x1006))) (fun k => by first | rfl | simp only [impl_Sparse_numbers.l0]) ?_))
  repeat' first
    | (with_reducible exact impl_Sparse_numbers.J0_sup _ _ _ _ _ _ _ _ _)
    | (with_reducible exact impl_Sparse_numbers.L0_sup _ _ _ _ _ _ _ _ _ _ _)
    | (with_reducible exact impl_Sparse_numbers.J2_sup _ _ _ _ _ _ _ _ _)
    | (with_reducible exact impl_sortedOk.F_sup _ _)
    | (with_reducible exact impl_sparse.F_sup _ _)
    | (with_reducible exact impl_WidthFor.F_sup _ _)
    | (with_reducible exact impl_IsBits.F_sup _ _)
    | (with_reducible exact impl_sameBits.F_sup _ _ _ _)
    | (with_reducible exact impl_Bits_field_in_30_3.F_sup _ _ _ _ _ _ _ _ _)
    | (with_reducible refine Sup.ite ?_ ?_)
    | (with_reducible refine Sup.bind ?_ (fun _ => ?_))
    | (with_reducible exact Sup.const _)
    | exact impl_Sparse_numbers.J0_sup _ _ _ _ _ _ _ _ _
    | exact impl_Sparse_numbers.L0_sup _ _ _ _ _ _ _ _ _ _ _
    | exact impl_Sparse_numbers.J2_sup _ _ _ _ _ _ _ _ _
    | exact impl_sortedOk.F_sup _ _
    | exact impl_sparse.F_sup _ _
    | exact impl_WidthFor.F_sup _ _
    | exact impl_IsBits.F_sup _ _
    | exact impl_sameBits.F_sup _ _ _ _
    | exact impl_Bits_field_in_30_3.F_sup _ _ _ _ _ _ _ _ _
    | exact Sup.const _
theorem impl_Sparse_numbers.J2_eq (x6 : List Int) (x119 : Bool) (x1000 : Int) (x1001 : Int) (x1002 : Int) (x1003 : Int) (x1004 : List Int) (x1005 : Int) (x1006 : List Int) : impl_Sparse_numbers.J2 x6 x119 x1000 x1001 x1002 x1003 x1004 x1005 x1006 = if x119 = true then (some (([] : List Int), false)) else ((impl_sparse.F x6 x1001).bind fun bt360 => ((impl_sameBits.F bt360.2.2.2.1 bt360.2.2.2.2.1 x1003 x1004).bind fun t372 => (if t372 = true then ((impl_sameBits.F bt360.2.2.2.2.2.1 bt360.2.2.2.2.2.2 x1005 x1006).bind fun t373 => (some (x6, t373))) else (some (x6, false))))) := by
  refine Sup.unique (impl_Sparse_numbers.J2_sup x6 x119 x1000 x1001 x1002 x1003 x1004 x1005 x1006) (Sup.shift (fun k => (impl_Sparse_numbers.mono_l k).2.2 x6 x119 x1000 x1001 x1002 x1003 x1004 x1005 x1006) (Sup.congr (g' := fun k => if x119 = true then (some (([] : List Int), false)) else ((impl_sparse.f k x6 x1001).bind fun bt360 => ((impl_sameBits.f k bt360.2.2.2.1 bt360.2.2.2.2.1 x1003 x1004).bind fun t372 => (if t372 = true then ((impl_sameBits.f k bt360.2.2.2.2.2.1 bt360.2.2.2.2.2.2 x1005 x1006).bind fun t373 => (some (x6, t373))) else (some (x6, false)))))) (fun k => by first | rfl | simp only [impl_Sparse_numbers.j2]) ?_))
  repeat' first
    | (with_reducible exact impl_Sparse_numbers.J0_sup _ _ _ _ _ _ _ _ _)
    | (with_reducible exact impl_Sparse_numbers.L0_sup _ _ _ _ _ _ _ _ _ _ _)
    | (with_reducible exact impl_Sparse_numbers.J2_sup _ _ _ _ _ _ _ _ _)
    | (with_reducible exact impl_sortedOk.F_sup _ _)
    | (with_reducible exact impl_sparse.F_sup _ _)
    | (with_reducible exact impl_WidthFor.F_sup _ _)
    | (with_reducible exact impl_IsBits.F_sup _ _)
    | (with_reducible exact impl_sameBits.F_sup _ _ _ _)
    | (with_reducible exact impl_Bits_field_in_30_3.F_sup _ _ _ _ _ _ _ _ _)
    | (with_reducible refine Sup.ite ?_ ?_)
    | (with_reducible refine Sup.bind ?_ (fun _ => ?_))
    | (with_reducible exact Sup.const _)
    | exact impl_Sparse_numbers.J0_sup _ _ _ _ _ _ _ _ _
    | exact impl_Sparse_numbers.L0_sup _ _ _ _ _ _ _ _ _ _ _
    | exact impl_Sparse_numbers.J2_sup _ _ _ _ _ _ _ _ _
    | exact impl_sortedOk.F_sup _ _
    | exact impl_sparse.F_sup _ _
    | exact impl_WidthFor.F_sup _ _
    | exact impl_IsBits.F_sup _ _
    | exact impl_sameBits.F_sup _ _ _ _
    | exact impl_Bits_field_in_30_3.F_sup _ _ _ _ _ _ _ _ _
    | exact Sup.const _
theorem impl_Sparse_numbers.F_eq (a0_0 : Int) (a0_1 : Int) (a0_2 : Int) (a0_3 : Int) (l0_4 : List Int) (a0_5 : Int) (l0_6 : List Int) : impl_Sparse_numbers.F a0_0 a0_1 a0_2 a0_3 l0_4 a0_5 l0_6 = (impl_WidthFor.F a0_0 a0_1).bind fun bt347 => (if bt347.2 = true then (if bt347.1 = a0_2 then ((impl_IsBits.F a0_3 l0_4).bind fun t349 => (if t349 = true then ((impl_IsBits.F a0_5 l0_6).bind fun t350 => (if t350 = true then (impl_Sparse_numbers.J0 bt347.1 (a0_3 != (wrap64 (bt347.1 * a0_0))) a0_0 a0_1 a0_2 a0_3 l0_4 a0_5 l0_6) else (impl_Sparse_numbers.J0 bt347.1 true a0_0 a0_1 a0_2 a0_3 l0_4 a0_5 l0_6))) else (impl_Sparse_numbers.J0 bt347.1 true a0_0 a0_1 a0_2 a0_3 l0_4 a0_5 l0_6))) else (impl_Sparse_numbers.J0 bt347.1 true a0_0 a0_1 a0_2 a0_3 l0_4 a0_5 l0_6)) else (impl_Sparse_numbers.J0 bt347.1 true a0_0 a0_1 a0_2 a0_3 l0_4 a0_5 l0_6)) := by
  refine Sup.unique (impl_Sparse_numbers.F_sup a0_0 a0_1 a0_2 a0_3 l0_4 a0_5 l0_6) (Sup.congr (g' := fun k => (impl_WidthFor.f k a0_0 a0_1).bind fun bt347 => (if bt347.2 = true then (if bt347.1 = a0_2 then ((impl_IsBits.f k a0_3 l0_4).bind fun t349 => (if t349 = true then ((impl_IsBits.f k a0_5 l0_6).bind fun t350 => (if t350 = true then (impl_Sparse_numbers.j0 k bt347.1 (a0_3 != (wrap64 (bt347.1 * a0_0))) a0_0 a0_1 a0_2 a0_3 l0_4 a0_5 l0_6) else (impl_Sparse_numbers.j0 k bt347.1 true a0_0 a0_1 a0_2 a0_3 l0_4 a0_5 l0_6))) else (impl_Sparse_numbers.j0 k bt347.1 true a0_0 a0_1 a0_2 a0_3 l0_4 a0_5 l0_6))) else (impl_Sparse_numbers.j0 k bt347.1 true a0_0 a0_1 a0_2 a0_3 l0_4 a0_5 l0_6)) else (impl_Sparse_numbers.j0 k bt347.1 true a0_0 a0_1 a0_2 a0_3 l0_4 a0_5 l0_6))) (fun k => by first | rfl | simp only [impl_Sparse_numbers.f]) ?_)
  repeat' first
    | (with_reducible exact impl_Sparse_numbers.J0_sup _ _ _ _ _ _ _ _ _)
    | (with_reducible exact impl_Sparse_numbers.L0_sup _ _ _ _ _ _ _ _ _ _ _)
    | (with_reducible exact impl_Sparse_numbers.J2_sup _ _ _ _ _ _ _ _ _)
    | (with_reducible exact impl_sortedOk.F_sup _ _)
    | (with_reducible exact impl_sparse.F_sup _ _)
    | (with_reducible exact impl_WidthFor.F_sup _ _)
    | (with_reducible exact impl_IsBits.F_sup _ _)
    | (with_reducible exact impl_sameBits.F_sup _ _ _ _)
    | (with_reducible exact impl_Bits_field_in_30_3.F_sup _ _ _ _ _ _ _ _ _)
    | (with_reducible refine Sup.ite ?_ ?_)
    | (with_reducible refine Sup.bind ?_ (fun _ => ?_))
    | (with_reducible exact Sup.const _)
    | exact impl_Sparse_numbers.J0_sup _ _ _ _ _ _ _ _ _
    | exact impl_Sparse_numbers.L0_sup _ _ _ _ _ _ _ _ _ _ _
    | exact impl_Sparse_numbers.J2_sup _ _ _ _ _ _ _ _ _
    | exact impl_sortedOk.F_sup _ _
    | exact impl_sparse.F_sup _ _
    | exact impl_WidthFor.F_sup _ _
    | exact impl_IsBits.F_sup _ _
    | exact impl_sameBits.F_sup _ _ _ _
    | exact impl_Bits_field_in_30_3.F_sup _ _ _ _ _ _ _ _ _
    | exact Sup.const _
def impl_Sparse_numbers.T1 : Bool × List (List Nat × List Nat) := (true, [([], []), ([0], [0]), ([1], [1]), ([2], [2]), ([], []), ([4], [4]), ([5], [5]), ([6], [6]), ([3, 7], [3, 7]), ([8], [8]), ([9], [9]), ([9], [9]), ([10, 8, 0, 1, 2, 3, 4, 5, 6, 7, 8, 9, 10], [10]), ([11, 12, 0, 1, 2, 3, 4, 5, 6, 7, 8, 9, 10, 11, 12], [11])])
def impl_Sparse_numbers.B1 : List Nat := [0, 1, 3, 7, 0, 16, 48, 112, 255, 511, 1023, 1023, 2047, 8191]
theorem impl_Sparse_numbers.tab1 : rtab .any (opsOf Try.f23 1) = impl_Sparse_numbers.T1 := by kernel_rfl
theorem impl_Sparse_numbers.bits1 : waitsOk impl_Sparse_numbers.T1.2 impl_Sparse_numbers.B1 = true := by kernel_rfl
def impl_Sparse_numbers.T2 : Bool × List (List Nat × List Nat) := (true, [([], []), ([0], [0]), ([1], [1]), ([2], [2]), ([2], [2]), ([4, 2], [2, 4]), ([5, 2], [2, 5]), ([6, 2], [2, 6]), ([3, 7, 2], [2, 3, 7]), ([2, 8], [2, 8]), ([9, 2], [9]), ([10], [10]), ([11, 10], [10, 11]), ([12, 10], [10, 12]), ([13, 10], [10, 13]), ([14, 10, 10], [10, 14]), ([15, 10], [10, 15]), ([10, 16], [10, 16]), ([17, 15], [17]), ([18], [18]), ([19, 18], [18, 19]), ([20, 18], [18, 20]), ([21, 18], [18, 21]), ([22, 18, 18], [18, 22]), ([23, 18], [18, 23]), ([18, 24], [18, 24]), ([25, 23], [25]), ([26], [26]), ([27, 26], [26, 27]), ([28, 26], [26, 28]), ([29, 26], [26, 29]), ([30, 26], [26, 30]), ([26], [26]), ([26], [26]), ([33, 26], [26, 33]), ([34, 26], [26, 34]), ([35, 26], [26, 35]), ([32, 36, 26], [26, 32, 36]), ([31, 37, 26], [26, 31, 37]), ([26, 38], [26, 38])])
def impl_Sparse_numbers.B2 : List Nat := [0, 1, 3, 7, 7, 23, 55, 119, 255, 511, 1023, 2047, 4095, 8191, 16383, 32767, 65535, 131071, 262143, 524287, 1048575, 2097151, 4194303, 8388607, 16777215, 33554431, 67108863, 134217727, 268435455, 536870911, 1073741823, 2147483647, 134217727, 134217727, 8724152319, 25904021503, 60263759871, 133278203903, 274877906943, 549755813887]
theorem impl_Sparse_numbers.tab2 : rtab .any (opsOf Try.f23 2) = impl_Sparse_numbers.T2 := by kernel_rfl
theorem impl_Sparse_numbers.bits2 : waitsOk impl_Sparse_numbers.T2.2 impl_Sparse_numbers.B2 = true := by kernel_rfl
def impl_Sparse_numbers.T10 : Bool × List (List Nat × List Nat) := (true, [([], []), ([], []), ([], []), ([1, 2], [1, 2]), ([], []), ([3, 4], [3, 4]), ([], []), ([6], [6]), ([7], [7]), ([], []), ([], []), ([9, 10], [9, 10]), ([], []), ([8, 11, 12], [8, 11, 12]), ([5, 13], [5, 13]), ([14], [14]), ([0, 15, 13], [0, 15]), ([16, 16, 0, 1, 2, 3, 4, 5, 6, 7, 8, 9, 10, 11, 12, 13, 14, 15, 16], [0, 16])])
def impl_Sparse_numbers.B10 : List Nat := [0, 0, 0, 6, 0, 30, 0, 64, 192, 0, 0, 1536, 0, 8128, 16382, 32766, 65535, 131071]
theorem impl_Sparse_numbers.tab10 : rtab .any (opsOf Try.f23 10) = impl_Sparse_numbers.T10 := by kernel_rfl
theorem impl_Sparse_numbers.bits10 : waitsOk impl_Sparse_numbers.T10.2 impl_Sparse_numbers.B10 = true := by kernel_rfl
def impl_Sparse_numbers.T15 : Bool × List (List Nat × List Nat) := (true, [([], []), ([], []), ([1], [1]), ([], []), ([3], [3]), ([4], [4]), ([5], [5]), ([2, 6], [2, 6]), ([7, 7], [7]), ([8], [8]), ([9, 8], [8, 9]), ([8], [8]), ([11, 8], [8, 11]), ([12, 8], [8, 12]), ([13, 8], [8, 13]), ([10, 14, 8, 8], [8, 10, 14]), ([8, 15], [8, 15]), ([0, 15, 0], [0]), ([16, 17, 0, 1, 2, 3, 4, 5, 6, 7, 8, 9, 10, 11, 12, 13, 14, 15, 16, 17], [16])])
def impl_Sparse_numbers.B15 : List Nat := [0, 0, 2, 0, 8, 24, 56, 126, 254, 510, 1022, 510, 2558, 6654, 14846, 32766, 65534, 65535, 262143]
theorem impl_Sparse_numbers.tab15 : rtab .any (opsOf Try.f23 15) = impl_Sparse_numbers.T15 := by kernel_rfl
theorem impl_Sparse_numbers.bits15 : waitsOk impl_Sparse_numbers.T15.2 impl_Sparse_numbers.B15 = true := by kernel_rfl
set_option maxHeartbeats 8000000 in
set_option maxRecDepth 100000 in
theorem impl_Sparse_numbers.calls (k : Nat) (gb0_ : Nat) (a0_0 : Int) (a0_1 : Int) (a0_2 : Int) (a0_3 : Int) (A0_4 : Option Addr) (c0_4 : Nat) (l0_4 : List Int) (a0_5 : Int) (A0_6 : Option Addr) (c0_6 : Nat) (l0_6 : List Int) (r1 : List Int) (r2 : Bool) (w : World) (hr0_4 : Kd.C (Kd.int .i64) w A0_4 l0_4.length l0_4) (hc0_4 : l0_4.length ≤ c0_4) (hr0_6 : Kd.C (Kd.int .i64) w A0_6 l0_6.length l0_6) (hc0_6 : l0_6.length ≤ c0_6) (hb0_ : w.heap[gb0_]? = some (.cells #[.int .i64 a0_0, .int .i64 a0_1, .int .i64 a0_2, .int .i64 a0_3, .slice A0_4 l0_4.length c0_4, .int .i64 a0_5, .slice A0_6 l0_6.length c0_6] 30 (0, 0))) (h : impl_Sparse_numbers.f k a0_0 a0_1 a0_2 a0_3 l0_4 a0_5 l0_6 = some (r1, r2)) :
    Calls Try.prog 23 #[.pointer (some ⟨gb0_, 0, none⟩)] w fun e w' => ∃ v0_ : Value, e = .returned (.tuple #[v0_, .bool r2]) ∧ Kd.R (Kd.int .i64) 3 w' w.heap.size (fun _ => True) v0_ r1 ∧ Below w.heap.size w w' := by
  have hu28 := Try.underlying28; have hu30 := Try.underlying30; have HR0_4 := Qx hr0_4; have HC0_4 := Qx hc0_4; clear hr0_4 hc0_4; have HR0_6 := Qx hr0_6; have HC0_6 := Qx hc0_6; clear hr0_6 hc0_6; have BK0 := Qx hb0_; clear hb0_
  have HB := Qx (Below.refl w.heap.size w)
  have H : ((impl_WidthFor.f k a0_0 a0_1).bind fun bt347 => (if bt347.2 = true then (if bt347.1 = a0_2 then ((impl_IsBits.f k a0_3 l0_4).bind fun t349 => (if t349 = true then ((impl_IsBits.f k a0_5 l0_6).bind fun t350 => (if t350 = true then (impl_Sparse_numbers.j0 k bt347.1 (a0_3 != (wrap64 (bt347.1 * a0_0))) a0_0 a0_1 a0_2 a0_3 l0_4 a0_5 l0_6) else (impl_Sparse_numbers.j0 k bt347.1 true a0_0 a0_1 a0_2 a0_3 l0_4 a0_5 l0_6))) else (impl_Sparse_numbers.j0 k bt347.1 true a0_0 a0_1 a0_2 a0_3 l0_4 a0_5 l0_6))) else (impl_Sparse_numbers.j0 k bt347.1 true a0_0 a0_1 a0_2 a0_3 l0_4 a0_5 l0_6)) else (impl_Sparse_numbers.j0 k bt347.1 true a0_0 a0_1 a0_2 a0_3 l0_4 a0_5 l0_6))) = some (r1, r2) := h
  clear h; replace H := Option.bind_eq_some_iff.mp H; obtain ⟨⟨t347, t348⟩, A20, H⟩ := H
  have A2 := Qx A20; clear A20; have HC3 := Qx H; clear H
  go_enter Try.func23, Try.ntmps23
  try go_wp2
  replace BK0 := Qx (Qw BK0.out)
  replace HB := Qx (Qd HB.out)
  refine start_ (n := 14) (S := fun w' => w'.cell? ⟨gb0_, 0, none⟩ = some (.int .i64 a0_0) ∧ w'.cell? ⟨gb0_, 1, none⟩ = some (.int .i64 a0_1) ∧ w'.cell? ⟨gb0_, 2, none⟩ = some (.int .i64 a0_2) ∧ w'.cell? ⟨gb0_, 3, none⟩ = some (.int .i64 a0_3) ∧ w'.cell? ⟨gb0_, 4, none⟩ = some (.slice A0_4 l0_4.length c0_4) ∧ w'.cell? ⟨gb0_, 5, none⟩ = some (.int .i64 a0_5) ∧ w'.cell? ⟨gb0_, 6, none⟩ = some (.slice A0_6 l0_6.length c0_6)) (ds := []) #[false, false, false, false, false, false, false, false, false, false, false, false, false, false] (by kernel_rfl) rfl rfl ⟨(Qc BK0.out 0).trans rfl, (Qc BK0.out 1).trans rfl, (Qc BK0.out 2).trans rfl, (Qc BK0.out 3).trans rfl, (Qc BK0.out 4).trans rfl, (Qc BK0.out 5).trans rfl, (Qc BK0.out 6).trans rfl⟩ (fun hHeld => ?_); refine with_tabW impl_Sparse_numbers.tab1 impl_Sparse_numbers.bits1 (fun HT_ HW_ => ?_)
  generalize w.drew = w4 at BK0 HB hHeld ⊢
  refine pr_ 0 11 14 1 ?_
  refine pr_ 1 12 14 3 ?_
  refine pr_ 2 13 14 7 ?_
  refine pr_ 4 15 14 23 ?_
  refine pr_ 5 16 14 55 ?_
  refine pr_ 6 17 14 119 ?_
  refine tq_ 3 14 14 127 HT_.out HW_.out (by kernel_rfl) hHeld ?_ rfl (by rintro w' ⟨s0, s1, s2, s3, s4, s5, s6⟩; go_simp; with_reducible rfl)
  refine tq_ 7 18 14 255 HT_.out HW_.out (by kernel_rfl) hHeld ?_ rfl (by rintro w' ⟨s0, s1, s2, s3, s4, s5, s6⟩; go_simp; with_reducible rfl)
  refine one_ (i := 8) (N := some 19) (bsA 14 511) rfl rfl (one_of HT_.out (by kernel_rfl)) (by decide) (fun K hK => ?_)
  refine goes_ Try.func33 (by kernel_rfl) rfl #[.int .i64 a0_0, .int .i64 a0_1] (by rfl) rfl rfl (by (try simp only [List.map_toArray, List.map_cons, List.map_nil]); first | done | rfl | (simp only [List.length_drop, List.length_take]; rfl)) ?_
  with_reducible refine (impl_WidthFor.calls k a0_0 a0_1 t347 t348 _ A2.out).mono ?_
  rintro e w5 ⟨rfl, hb⟩
  refine ⟨_, rfl, ?_⟩
  replace BK0 := Qx (Qb (kB_ BK0) hb)
  replace HB := Qx (Qp hB_ hb)
  (try clear hb); (try clear hb2); (try clear hk); (try clear hi)
  refine hK.out _ _ ⟨(Qc BK0.out 0).trans rfl, (Qc BK0.out 1).trans rfl, (Qc BK0.out 2).trans rfl, (Qc BK0.out 3).trans rfl, (Qc BK0.out 4).trans rfl, (Qc BK0.out 5).trans rfl, (Qc BK0.out 6).trans rfl⟩ (fun hHeld => ?_)
  clear hK K
  refine norm_ (a' := ?_) ?_ ?_
  rotate_left
  ·show Act.put _ (some 19) _ = _
   simp only [Act.put, List.setIfInBounds_toArray, List.set_cons_zero, List.set_cons_succ, i64_w]
   rfl
  refine pr_ 9 10 14 1023 ?_
  refine pr_ 10 20 14 2047 ?_
  refine pr_ 11 21 14 4095 ?_
  refine pr_ 12 4 14 8191 ?_
  refine pr_ 13 5 14 16383 ?_
  refine done_ (done_of HT_.out (by kernel_rfl)) ?_
  go_upto_region 2 with (fail)
  go_cut [61] (fun v61 wc => ∃ (kq : Nat) (x61_2 : Bool), v61 = .bool x61_2 ∧ Aside0 (impl_Sparse_numbers.j0 kq t347 x61_2 a0_0 a0_1 a0_2 a0_3 l0_4 a0_5 l0_6 = some (r1, r2)) ∧ Aside0 (kq ≤ k) ∧ Aside0 (wc.heap[gb0_]? = some (.cells #[.int .i64 a0_0, .int .i64 a0_1, .int .i64 a0_2, .int .i64 a0_3, (.slice A0_4 l0_4.length c0_4), .int .i64 a0_5, (.slice A0_6 l0_6.length c0_6)] 30 (0, 0))) ∧ Aside0 (Below w.heap.size w wc))
  case first =>
   have H := HC3.out; clear HC3
   by_cases c6 : t348 = true
   ·subst c6
    have H1 : (if t347 = a0_2 then ((impl_IsBits.f k a0_3 l0_4).bind fun t349 => (if t349 = true then ((impl_IsBits.f k a0_5 l0_6).bind fun t350 => (if t350 = true then (impl_Sparse_numbers.j0 k t347 (a0_3 != (wrap64 (t347 * a0_0))) a0_0 a0_1 a0_2 a0_3 l0_4 a0_5 l0_6) else (impl_Sparse_numbers.j0 k t347 true a0_0 a0_1 a0_2 a0_3 l0_4 a0_5 l0_6))) else (impl_Sparse_numbers.j0 k t347 true a0_0 a0_1 a0_2 a0_3 l0_4 a0_5 l0_6))) else (impl_Sparse_numbers.j0 k t347 true a0_0 a0_1 a0_2 a0_3 l0_4 a0_5 l0_6)) = some (r1, r2) := by rw [if_pos rfl] at H; exact H
    clear H; have H := H1; clear H1
    by_cases c7 : t347 = a0_2
    ·rw [if_pos c7] at H
     have c7b0 : (t347 == a0_2) = true := beq_iff_eq.mpr c7
     have c7b1 : (t347 != a0_2) = false := bne_eq_false_iff_eq.mpr c7
     clear c7
     (first | rw [c7b0] | (simp only [i64_w, i32_w]; rw [c7b0]) | skip)
     replace H := Option.bind_eq_some_iff.mp H; obtain ⟨t349, A80, H⟩ := H
     have A8 := Qx A80; clear A80
     by_cases c9 : t349 = true
     ·subst c9
      have H1 : ((impl_IsBits.f k a0_5 l0_6).bind fun t350 => (if t350 = true then (impl_Sparse_numbers.j0 k t347 (a0_3 != (wrap64 (t347 * a0_0))) a0_0 a0_1 a0_2 a0_3 l0_4 a0_5 l0_6) else (impl_Sparse_numbers.j0 k t347 true a0_0 a0_1 a0_2 a0_3 l0_4 a0_5 l0_6))) = some (r1, r2) := by rw [if_pos rfl] at H; exact H
      clear H; have H := H1; clear H1; replace H := Option.bind_eq_some_iff.mp H; obtain ⟨t350, A100, H⟩ := H
      have A10 := Qx A100; clear A100
      by_cases c11 : t350 = true
      ·subst c11
       have H1 : (impl_Sparse_numbers.j0 k t347 (a0_3 != (wrap64 (t347 * a0_0))) a0_0 a0_1 a0_2 a0_3 l0_4 a0_5 l0_6) = some (r1, r2) := by rw [if_pos rfl] at H; exact H
       clear H; have H := H1; clear H1; have H' := Qx H; clear H
       try go_wp2
       replace BK0 := Qx (Qw BK0.out)
       replace HB := Qx (Qd HB.out)
       refine start_ (n := 40) (S := fun w' => w'.cell? ⟨gb0_, 0, none⟩ = some (.int .i64 a0_0) ∧ w'.cell? ⟨gb0_, 1, none⟩ = some (.int .i64 a0_1) ∧ w'.cell? ⟨gb0_, 2, none⟩ = some (.int .i64 a0_2) ∧ w'.cell? ⟨gb0_, 3, none⟩ = some (.int .i64 a0_3) ∧ w'.cell? ⟨gb0_, 4, none⟩ = some (.slice A0_4 l0_4.length c0_4) ∧ w'.cell? ⟨gb0_, 5, none⟩ = some (.int .i64 a0_5) ∧ w'.cell? ⟨gb0_, 6, none⟩ = some (.slice A0_6 l0_6.length c0_6)) (ds := []) #[false, false, false, false, false, false, false, false, false, false, false, false, false, false, false, false, false, false, false, false, false, false, false, false, false, false, false, false, false, false, false, false, false, false, false, false, false, false, false, false] (by kernel_rfl) rfl rfl ⟨(Qc BK0.out 0).trans rfl, (Qc BK0.out 1).trans rfl, (Qc BK0.out 2).trans rfl, (Qc BK0.out 3).trans rfl, (Qc BK0.out 4).trans rfl, (Qc BK0.out 5).trans rfl, (Qc BK0.out 6).trans rfl⟩ (fun hHeld => ?_); refine with_tabW impl_Sparse_numbers.tab2 impl_Sparse_numbers.bits2 (fun HT_ HW_ => ?_)
       generalize w5.drew = w12 at BK0 HB hHeld ⊢
       refine pr_ 0 22 40 1 ?_
       refine pr_ 1 23 40 3 ?_
       refine pr_ 2 24 40 7 ?_
       refine pr_ 3 25 40 15 ?_
       refine pr_ 4 26 40 31 ?_
       refine pr_ 5 27 40 63 ?_
       refine pr_ 6 28 40 127 ?_
       refine tq_ 7 29 40 255 HT_.out HW_.out (by kernel_rfl) hHeld ?_ rfl (by rintro w' ⟨s0, s1, s2, s3, s4, s5, s6⟩; go_simp; with_reducible rfl)
       refine pr_ 8 30 40 511 ?_
       refine pr_ 9 31 40 1023 ?_
       refine pr_ 10 32 40 2047 ?_
       refine pr_ 11 33 40 4095 ?_
       refine pr_ 12 34 40 8191 ?_
       refine pr_ 13 35 40 16383 ?_
       refine tq_ 14 36 40 32767 HT_.out HW_.out (by kernel_rfl) hHeld ?_ rfl (by rintro w' ⟨s0, s1, s2, s3, s4, s5, s6⟩; go_simp; with_reducible rfl)
       refine one_ (i := 15) (N := some 37) (bsA 40 65535) rfl rfl (one_of HT_.out (by kernel_rfl)) (by decide) (fun K hK => ?_)
       refine goes_ Try.func42 (by kernel_rfl) rfl #[.agg #[.int .i64 a0_3, .slice A0_4 l0_4.length c0_4]] (by rfl) rfl rfl (by (try simp only [List.map_toArray, List.map_cons, List.map_nil]); first | done | rfl | (simp only [List.length_drop, List.length_take]; rfl)) ?_
       with_reducible refine (impl_IsBits.calls k a0_3 _ _ l0_4 true _ ?side1 ?side2 A8.out).mono ?_
       (case side1 => exact kC_ HR0_4)
       (case side2 => exact HC0_4.out)
       rintro e w13 ⟨rfl, hb⟩
       refine ⟨_, rfl, ?_⟩
       replace BK0 := Qx (Qb (kB_ BK0) hb)
       replace HB := Qx (Qp hB_ hb)
       (try clear hb); (try clear hb2); (try clear hk); (try clear hi)
       refine hK.out _ _ ⟨(Qc BK0.out 0).trans rfl, (Qc BK0.out 1).trans rfl, (Qc BK0.out 2).trans rfl, (Qc BK0.out 3).trans rfl, (Qc BK0.out 4).trans rfl, (Qc BK0.out 5).trans rfl, (Qc BK0.out 6).trans rfl⟩ (fun hHeld => ?_)
       clear hK K
       refine norm_ (a' := ?_) ?_ ?_
       rotate_left
       ·show Act.put _ (some 37) _ = _
        simp only [Act.put, List.setIfInBounds_toArray, List.set_cons_zero, List.set_cons_succ, i64_w]
        rfl
       refine pr_ 16 38 40 131071 ?_
       refine pr_ 17 39 40 262143 ?_
       refine pr_ 18 40 40 524287 ?_
       refine pr_ 19 41 40 1048575 ?_
       refine pr_ 20 42 40 2097151 ?_
       refine pr_ 21 43 40 4194303 ?_
       refine tq_ 22 44 40 8388607 HT_.out HW_.out (by kernel_rfl) hHeld ?_ rfl (by rintro w' ⟨s0, s1, s2, s3, s4, s5, s6⟩; go_simp; with_reducible rfl)
       refine one_ (i := 23) (N := some 45) (bsA 40 16777215) rfl rfl (one_of HT_.out (by kernel_rfl)) (by decide) (fun K hK => ?_)
       refine goes_ Try.func42 (by kernel_rfl) rfl #[.agg #[.int .i64 a0_5, .slice A0_6 l0_6.length c0_6]] (by rfl) rfl rfl (by (try simp only [List.map_toArray, List.map_cons, List.map_nil]); first | done | rfl | (simp only [List.length_drop, List.length_take]; rfl)) ?_
       with_reducible refine (impl_IsBits.calls k a0_5 _ _ l0_6 true _ ?side1 ?side2 A10.out).mono ?_
       (case side1 => exact kC_ HR0_6)
       (case side2 => exact HC0_6.out)
       rintro e w14 ⟨rfl, hb⟩
       refine ⟨_, rfl, ?_⟩
       replace BK0 := Qx (Qb (kB_ BK0) hb)
       replace HB := Qx (Qp hB_ hb)
       (try clear hb); (try clear hb2); (try clear hk); (try clear hi)
       refine hK.out _ _ ⟨(Qc BK0.out 0).trans rfl, (Qc BK0.out 1).trans rfl, (Qc BK0.out 2).trans rfl, (Qc BK0.out 3).trans rfl, (Qc BK0.out 4).trans rfl, (Qc BK0.out 5).trans rfl, (Qc BK0.out 6).trans rfl⟩ (fun hHeld => ?_)
       clear hK K
       refine norm_ (a' := ?_) ?_ ?_
       rotate_left
       ·show Act.put _ (some 45) _ = _
        simp only [Act.put, List.setIfInBounds_toArray, List.set_cons_zero, List.set_cons_succ, i64_w]
        rfl
       refine pr_ 24 46 40 33554431 ?_
       refine pr_ 25 47 40 67108863 ?_
       refine pr_ 26 48 40 134217727 ?_
       refine pr_ 27 49 40 268435455 ?_
       refine pr_ 28 50 40 536870911 ?_
       refine pr_ 29 51 40 1073741823 ?_
       refine pr_ 30 52 40 2147483647 ?_
       refine pr_ 32 54 40 6442450943 ?_
       refine pr_ 33 55 40 15032385535 ?_
       refine pr_ 34 56 40 32212254719 ?_
       refine pr_ 35 57 40 66571993087 ?_
       refine tq_ 31 53 40 68719476735 HT_.out HW_.out (by kernel_rfl) hHeld ?_ rfl (by rintro w' ⟨s0, s1, s2, s3, s4, s5, s6⟩; go_simp; with_reducible rfl)
       refine tq_ 36 58 40 137438953471 HT_.out HW_.out (by kernel_rfl) hHeld ?_ rfl (by rintro w' ⟨s0, s1, s2, s3, s4, s5, s6⟩; go_simp; with_reducible rfl)
       refine pr_ 37 59 40 274877906943 ?_
       refine pr_ 38 60 40 549755813887 ?_
       refine pr_ 39 61 40 1099511627775 ?_
       refine done_ (done_of HT_.out (by kernel_rfl)) ?_
       try go_wp2
       go_meet
       case rel => exact ⟨_, ((a0_3 != (wrap64 (t347 * a0_0)))), rg_, H', ⟨by first | omega | exact Nat.le_refl _⟩, ⟨kB_ BK0⟩, ⟨hB_⟩⟩
      ·replace c11 := Bool.eq_false_iff.mpr c11; subst c11
       have H1 : (impl_Sparse_numbers.j0 k t347 true a0_0 a0_1 a0_2 a0_3 l0_4 a0_5 l0_6) = some (r1, r2) := by rw [if_neg (show ¬ (false = true) by decide)] at H; exact H
       clear H; have H := H1; clear H1; have H' := Qx H; clear H
       try go_wp2
       replace BK0 := Qx (Qw BK0.out)
       replace HB := Qx (Qd HB.out)
       refine start_ (n := 40) (S := fun w' => w'.cell? ⟨gb0_, 0, none⟩ = some (.int .i64 a0_0) ∧ w'.cell? ⟨gb0_, 1, none⟩ = some (.int .i64 a0_1) ∧ w'.cell? ⟨gb0_, 2, none⟩ = some (.int .i64 a0_2) ∧ w'.cell? ⟨gb0_, 3, none⟩ = some (.int .i64 a0_3) ∧ w'.cell? ⟨gb0_, 4, none⟩ = some (.slice A0_4 l0_4.length c0_4) ∧ w'.cell? ⟨gb0_, 5, none⟩ = some (.int .i64 a0_5) ∧ w'.cell? ⟨gb0_, 6, none⟩ = some (.slice A0_6 l0_6.length c0_6)) (ds := []) #[false, false, false, false, false, false, false, false, false, false, false, false, false, false, false, false, false, false, false, false, false, false, false, false, false, false, false, false, false, false, false, false, false, false, false, false, false, false, false, false] (by kernel_rfl) rfl rfl ⟨(Qc BK0.out 0).trans rfl, (Qc BK0.out 1).trans rfl, (Qc BK0.out 2).trans rfl, (Qc BK0.out 3).trans rfl, (Qc BK0.out 4).trans rfl, (Qc BK0.out 5).trans rfl, (Qc BK0.out 6).trans rfl⟩ (fun hHeld => ?_); refine with_tabW impl_Sparse_numbers.tab2 impl_Sparse_numbers.bits2 (fun HT_ HW_ => ?_)
       generalize w5.drew = w15 at BK0 HB hHeld ⊢
       refine pr_ 0 22 40 1 ?_
       refine pr_ 1 23 40 3 ?_
       refine pr_ 2 24 40 7 ?_
       refine pr_ 3 25 40 15 ?_
       refine pr_ 4 26 40 31 ?_
       refine pr_ 5 27 40 63 ?_
       refine pr_ 6 28 40 127 ?_
       refine tq_ 7 29 40 255 HT_.out HW_.out (by kernel_rfl) hHeld ?_ rfl (by rintro w' ⟨s0, s1, s2, s3, s4, s5, s6⟩; go_simp; with_reducible rfl)
       refine pr_ 8 30 40 511 ?_
       refine pr_ 9 31 40 1023 ?_
       refine pr_ 10 32 40 2047 ?_
       refine pr_ 11 33 40 4095 ?_
       refine pr_ 12 34 40 8191 ?_
       refine pr_ 13 35 40 16383 ?_
       refine tq_ 14 36 40 32767 HT_.out HW_.out (by kernel_rfl) hHeld ?_ rfl (by rintro w' ⟨s0, s1, s2, s3, s4, s5, s6⟩; go_simp; with_reducible rfl)
       refine one_ (i := 15) (N := some 37) (bsA 40 65535) rfl rfl (one_of HT_.out (by kernel_rfl)) (by decide) (fun K hK => ?_)
       refine goes_ Try.func42 (by kernel_rfl) rfl #[.agg #[.int .i64 a0_3, .slice A0_4 l0_4.length c0_4]] (by rfl) rfl rfl (by (try simp only [List.map_toArray, List.map_cons, List.map_nil]); first | done | rfl | (simp only [List.length_drop, List.length_take]; rfl)) ?_
       with_reducible refine (impl_IsBits.calls k a0_3 _ _ l0_4 true _ ?side1 ?side2 A8.out).mono ?_
       (case side1 => exact kC_ HR0_4)
       (case side2 => exact HC0_4.out)
       rintro e w16 ⟨rfl, hb⟩
       refine ⟨_, rfl, ?_⟩
       replace BK0 := Qx (Qb (kB_ BK0) hb)
       replace HB := Qx (Qp hB_ hb)
       (try clear hb); (try clear hb2); (try clear hk); (try clear hi)
       refine hK.out _ _ ⟨(Qc BK0.out 0).trans rfl, (Qc BK0.out 1).trans rfl, (Qc BK0.out 2).trans rfl, (Qc BK0.out 3).trans rfl, (Qc BK0.out 4).trans rfl, (Qc BK0.out 5).trans rfl, (Qc BK0.out 6).trans rfl⟩ (fun hHeld => ?_)
       clear hK K
       refine norm_ (a' := ?_) ?_ ?_
       rotate_left
       ·show Act.put _ (some 37) _ = _
        simp only [Act.put, List.setIfInBounds_toArray, List.set_cons_zero, List.set_cons_succ, i64_w]
        rfl
       refine pr_ 16 38 40 131071 ?_
       refine pr_ 17 39 40 262143 ?_
       refine pr_ 18 40 40 524287 ?_
       refine pr_ 19 41 40 1048575 ?_
       refine pr_ 20 42 40 2097151 ?_
       refine pr_ 21 43 40 4194303 ?_
       refine tq_ 22 44 40 8388607 HT_.out HW_.out (by kernel_rfl) hHeld ?_ rfl (by rintro w' ⟨s0, s1, s2, s3, s4, s5, s6⟩; go_simp; with_reducible rfl)
       refine one_ (i := 23) (N := some 45) (bsA 40 16777215) rfl rfl (one_of HT_.out (by kernel_rfl)) (by decide) (fun K hK => ?_)
       refine goes_ Try.func42 (by kernel_rfl) rfl #[.agg #[.int .i64 a0_5, .slice A0_6 l0_6.length c0_6]] (by rfl) rfl rfl (by (try simp only [List.map_toArray, List.map_cons, List.map_nil]); first | done | rfl | (simp only [List.length_drop, List.length_take]; rfl)) ?_
       with_reducible refine (impl_IsBits.calls k a0_5 _ _ l0_6 false _ ?side1 ?side2 A10.out).mono ?_
       (case side1 => exact kC_ HR0_6)
       (case side2 => exact HC0_6.out)
       rintro e w17 ⟨rfl, hb⟩
       refine ⟨_, rfl, ?_⟩
       replace BK0 := Qx (Qb (kB_ BK0) hb)
       replace HB := Qx (Qp hB_ hb)
       (try clear hb); (try clear hb2); (try clear hk); (try clear hi)
       refine hK.out _ _ ⟨(Qc BK0.out 0).trans rfl, (Qc BK0.out 1).trans rfl, (Qc BK0.out 2).trans rfl, (Qc BK0.out 3).trans rfl, (Qc BK0.out 4).trans rfl, (Qc BK0.out 5).trans rfl, (Qc BK0.out 6).trans rfl⟩ (fun hHeld => ?_)
       clear hK K
       refine norm_ (a' := ?_) ?_ ?_
       rotate_left
       ·show Act.put _ (some 45) _ = _
        simp only [Act.put, List.setIfInBounds_toArray, List.set_cons_zero, List.set_cons_succ, i64_w]
        rfl
       refine pr_ 24 46 40 33554431 ?_
       refine pr_ 25 47 40 67108863 ?_
       refine pr_ 26 48 40 134217727 ?_
       refine ur_ 27 49 40 268435455 ?_
       refine ur_ 28 50 40 536870911 ?_
       refine ur_ 29 51 40 1073741823 ?_
       refine ur_ 30 52 40 2147483647 ?_
       refine ur_ 31 53 40 4294967295 ?_
       refine ur_ 32 54 40 8589934591 ?_
       refine ur_ 33 55 40 17179869183 ?_
       refine ur_ 34 56 40 34359738367 ?_
       refine ur_ 35 57 40 68719476735 ?_
       refine ur_ 36 58 40 137438953471 ?_
       refine ur_ 37 59 40 274877906943 ?_
       refine ur_ 38 60 40 549755813887 ?_
       refine pr_ 39 61 40 1099511627775 ?_
       refine done_ (done_of HT_.out (by kernel_rfl)) ?_
       try go_wp2
       go_meet
       case rel => exact ⟨_, (true), rg_, H', ⟨by first | omega | exact Nat.le_refl _⟩, ⟨kB_ BK0⟩, ⟨hB_⟩⟩
     ·replace c9 := Bool.eq_false_iff.mpr c9; subst c9
      have H1 : (impl_Sparse_numbers.j0 k t347 true a0_0 a0_1 a0_2 a0_3 l0_4 a0_5 l0_6) = some (r1, r2) := by rw [if_neg (show ¬ (false = true) by decide)] at H; exact H
      clear H; have H := H1; clear H1; have H' := Qx H; clear H
      try go_wp2
      replace BK0 := Qx (Qw BK0.out)
      replace HB := Qx (Qd HB.out)
      refine start_ (n := 40) (S := fun w' => w'.cell? ⟨gb0_, 0, none⟩ = some (.int .i64 a0_0) ∧ w'.cell? ⟨gb0_, 1, none⟩ = some (.int .i64 a0_1) ∧ w'.cell? ⟨gb0_, 2, none⟩ = some (.int .i64 a0_2) ∧ w'.cell? ⟨gb0_, 3, none⟩ = some (.int .i64 a0_3) ∧ w'.cell? ⟨gb0_, 4, none⟩ = some (.slice A0_4 l0_4.length c0_4) ∧ w'.cell? ⟨gb0_, 5, none⟩ = some (.int .i64 a0_5) ∧ w'.cell? ⟨gb0_, 6, none⟩ = some (.slice A0_6 l0_6.length c0_6)) (ds := []) #[false, false, false, false, false, false, false, false, false, false, false, false, false, false, false, false, false, false, false, false, false, false, false, false, false, false, false, false, false, false, false, false, false, false, false, false, false, false, false, false] (by kernel_rfl) rfl rfl ⟨(Qc BK0.out 0).trans rfl, (Qc BK0.out 1).trans rfl, (Qc BK0.out 2).trans rfl, (Qc BK0.out 3).trans rfl, (Qc BK0.out 4).trans rfl, (Qc BK0.out 5).trans rfl, (Qc BK0.out 6).trans rfl⟩ (fun hHeld => ?_); refine with_tabW impl_Sparse_numbers.tab2 impl_Sparse_numbers.bits2 (fun HT_ HW_ => ?_)
      generalize w5.drew = w18 at BK0 HB hHeld ⊢
      refine pr_ 0 22 40 1 ?_
      refine pr_ 1 23 40 3 ?_
      refine pr_ 2 24 40 7 ?_
      refine pr_ 3 25 40 15 ?_
      refine pr_ 4 26 40 31 ?_
      refine pr_ 5 27 40 63 ?_
      refine pr_ 6 28 40 127 ?_
      refine tq_ 7 29 40 255 HT_.out HW_.out (by kernel_rfl) hHeld ?_ rfl (by rintro w' ⟨s0, s1, s2, s3, s4, s5, s6⟩; go_simp; with_reducible rfl)
      refine pr_ 8 30 40 511 ?_
      refine pr_ 9 31 40 1023 ?_
      refine pr_ 10 32 40 2047 ?_
      refine pr_ 11 33 40 4095 ?_
      refine pr_ 12 34 40 8191 ?_
      refine pr_ 13 35 40 16383 ?_
      refine tq_ 14 36 40 32767 HT_.out HW_.out (by kernel_rfl) hHeld ?_ rfl (by rintro w' ⟨s0, s1, s2, s3, s4, s5, s6⟩; go_simp; with_reducible rfl)
      refine one_ (i := 15) (N := some 37) (bsA 40 65535) rfl rfl (one_of HT_.out (by kernel_rfl)) (by decide) (fun K hK => ?_)
      refine goes_ Try.func42 (by kernel_rfl) rfl #[.agg #[.int .i64 a0_3, .slice A0_4 l0_4.length c0_4]] (by rfl) rfl rfl (by (try simp only [List.map_toArray, List.map_cons, List.map_nil]); first | done | rfl | (simp only [List.length_drop, List.length_take]; rfl)) ?_
      with_reducible refine (impl_IsBits.calls k a0_3 _ _ l0_4 false _ ?side1 ?side2 A8.out).mono ?_
      (case side1 => exact kC_ HR0_4)
      (case side2 => exact HC0_4.out)
      rintro e w19 ⟨rfl, hb⟩
      refine ⟨_, rfl, ?_⟩
      replace BK0 := Qx (Qb (kB_ BK0) hb)
      replace HB := Qx (Qp hB_ hb)
      (try clear hb); (try clear hb2); (try clear hk); (try clear hi)
      refine hK.out _ _ ⟨(Qc BK0.out 0).trans rfl, (Qc BK0.out 1).trans rfl, (Qc BK0.out 2).trans rfl, (Qc BK0.out 3).trans rfl, (Qc BK0.out 4).trans rfl, (Qc BK0.out 5).trans rfl, (Qc BK0.out 6).trans rfl⟩ (fun hHeld => ?_)
      clear hK K
      refine norm_ (a' := ?_) ?_ ?_
      rotate_left
      ·show Act.put _ (some 37) _ = _
       simp only [Act.put, List.setIfInBounds_toArray, List.set_cons_zero, List.set_cons_succ, i64_w]
       rfl
      refine pr_ 16 38 40 131071 ?_
      refine pr_ 17 39 40 262143 ?_
      refine pr_ 18 40 40 524287 ?_
      refine ur_ 19 41 40 1048575 ?_
      refine ur_ 20 42 40 2097151 ?_
      refine ur_ 21 43 40 4194303 ?_
      refine ur_ 22 44 40 8388607 ?_
      refine ur_ 23 45 40 16777215 ?_
      refine ur_ 24 46 40 33554431 ?_
      refine pr_ 25 47 40 67108863 ?_
      refine pr_ 26 48 40 134217727 ?_
      refine ur_ 27 49 40 268435455 ?_
      refine ur_ 28 50 40 536870911 ?_
      refine ur_ 29 51 40 1073741823 ?_
      refine ur_ 30 52 40 2147483647 ?_
      refine ur_ 31 53 40 4294967295 ?_
      refine ur_ 32 54 40 8589934591 ?_
      refine ur_ 33 55 40 17179869183 ?_
      refine ur_ 34 56 40 34359738367 ?_
      refine ur_ 35 57 40 68719476735 ?_
      refine ur_ 36 58 40 137438953471 ?_
      refine ur_ 37 59 40 274877906943 ?_
      refine ur_ 38 60 40 549755813887 ?_
      refine pr_ 39 61 40 1099511627775 ?_
      refine done_ (done_of HT_.out (by kernel_rfl)) ?_
      try go_wp2
      go_meet
      case rel => exact ⟨_, (true), rg_, H', ⟨by first | omega | exact Nat.le_refl _⟩, ⟨kB_ BK0⟩, ⟨hB_⟩⟩
    ·rw [if_neg c7] at H
     have c7b0 : (t347 == a0_2) = false := beq_eq_false_iff_ne.mpr c7
     have c7b1 : (t347 != a0_2) = true := bne_iff_ne.mpr c7
     (first | rw [c7b0] | (simp only [i64_w, i32_w]; rw [c7b0]) | skip)
     have H' := Qx H; clear H
     try go_wp2
     replace BK0 := Qx (Qw BK0.out)
     replace HB := Qx (Qd HB.out)
     refine start_ (n := 40) (S := fun w' => w'.cell? ⟨gb0_, 0, none⟩ = some (.int .i64 a0_0) ∧ w'.cell? ⟨gb0_, 1, none⟩ = some (.int .i64 a0_1) ∧ w'.cell? ⟨gb0_, 2, none⟩ = some (.int .i64 a0_2) ∧ w'.cell? ⟨gb0_, 3, none⟩ = some (.int .i64 a0_3) ∧ w'.cell? ⟨gb0_, 4, none⟩ = some (.slice A0_4 l0_4.length c0_4) ∧ w'.cell? ⟨gb0_, 5, none⟩ = some (.int .i64 a0_5) ∧ w'.cell? ⟨gb0_, 6, none⟩ = some (.slice A0_6 l0_6.length c0_6)) (ds := []) #[false, false, false, false, false, false, false, false, false, false, false, false, false, false, false, false, false, false, false, false, false, false, false, false, false, false, false, false, false, false, false, false, false, false, false, false, false, false, false, false] (by kernel_rfl) rfl rfl ⟨(Qc BK0.out 0).trans rfl, (Qc BK0.out 1).trans rfl, (Qc BK0.out 2).trans rfl, (Qc BK0.out 3).trans rfl, (Qc BK0.out 4).trans rfl, (Qc BK0.out 5).trans rfl, (Qc BK0.out 6).trans rfl⟩ (fun hHeld => ?_); refine with_tabW impl_Sparse_numbers.tab2 impl_Sparse_numbers.bits2 (fun HT_ HW_ => ?_)
     generalize w5.drew = w20 at BK0 HB hHeld ⊢
     refine pr_ 0 22 40 1 ?_
     refine pr_ 1 23 40 3 ?_
     refine pr_ 2 24 40 7 ?_
     refine pr_ 3 25 40 15 ?_
     refine pr_ 4 26 40 31 ?_
     refine pr_ 5 27 40 63 ?_
     refine pr_ 6 28 40 127 ?_
     refine tq_ 7 29 40 255 HT_.out HW_.out (by kernel_rfl) hHeld ?_ rfl (by rintro w' ⟨s0, s1, s2, s3, s4, s5, s6⟩; go_simp; with_reducible rfl)
     refine pr_ 8 30 40 511 ?_
     refine pr_ 9 31 40 1023 ?_
     refine pr_ 10 32 40 2047 ?_
     refine ur_ 11 33 40 4095 ?_
     refine ur_ 12 34 40 8191 ?_
     refine ur_ 13 35 40 16383 ?_
     refine ur_ 14 36 40 32767 ?_
     refine ur_ 15 37 40 65535 ?_
     refine ur_ 16 38 40 131071 ?_
     refine pr_ 17 39 40 262143 ?_
     refine pr_ 18 40 40 524287 ?_
     refine ur_ 19 41 40 1048575 ?_
     refine ur_ 20 42 40 2097151 ?_
     refine ur_ 21 43 40 4194303 ?_
     refine ur_ 22 44 40 8388607 ?_
     refine ur_ 23 45 40 16777215 ?_
     refine ur_ 24 46 40 33554431 ?_
     refine pr_ 25 47 40 67108863 ?_
     refine pr_ 26 48 40 134217727 ?_
     refine ur_ 27 49 40 268435455 ?_
     refine ur_ 28 50 40 536870911 ?_
     refine ur_ 29 51 40 1073741823 ?_
     refine ur_ 30 52 40 2147483647 ?_
     refine ur_ 31 53 40 4294967295 ?_
     refine ur_ 32 54 40 8589934591 ?_
     refine ur_ 33 55 40 17179869183 ?_
     refine ur_ 34 56 40 34359738367 ?_
     refine ur_ 35 57 40 68719476735 ?_
     refine ur_ 36 58 40 137438953471 ?_
     refine ur_ 37 59 40 274877906943 ?_
     refine ur_ 38 60 40 549755813887 ?_
     refine pr_ 39 61 40 1099511627775 ?_
     refine done_ (done_of HT_.out (by kernel_rfl)) ?_
     try go_wp2
     go_meet
     case rel => exact ⟨_, (true), rg_, H', ⟨by first | omega | exact Nat.le_refl _⟩, ⟨kB_ BK0⟩, ⟨hB_⟩⟩
   ·replace c6 := Bool.eq_false_iff.mpr c6; subst c6
    have H1 : (impl_Sparse_numbers.j0 k t347 true a0_0 a0_1 a0_2 a0_3 l0_4 a0_5 l0_6) = some (r1, r2) := by rw [if_neg (show ¬ (false = true) by decide)] at H; exact H
    clear H; have H := H1; clear H1; have H' := Qx H; clear H
    try go_wp2
    replace BK0 := Qx (Qw BK0.out)
    replace HB := Qx (Qd HB.out)
    refine start_ (n := 40) (S := fun w' => True) (ds := []) #[false, false, false, false, false, false, false, false, false, false, false, false, false, false, false, false, false, false, false, false, false, false, false, false, false, false, false, false, false, false, false, false, false, false, false, false, false, false, false, false] (by kernel_rfl) rfl rfl trivial (fun hHeld => ?_); refine with_tabW impl_Sparse_numbers.tab2 impl_Sparse_numbers.bits2 (fun HT_ HW_ => ?_)
    generalize w5.drew = w21 at BK0 HB hHeld ⊢
    refine pr_ 0 22 40 1 ?_
    refine pr_ 1 23 40 3 ?_
    refine pr_ 2 24 40 7 ?_
    refine ur_ 3 25 40 15 ?_
    refine ur_ 4 26 40 31 ?_
    refine ur_ 5 27 40 63 ?_
    refine ur_ 6 28 40 127 ?_
    refine ur_ 7 29 40 255 ?_
    refine ur_ 8 30 40 511 ?_
    refine pr_ 9 31 40 1023 ?_
    refine pr_ 10 32 40 2047 ?_
    refine ur_ 11 33 40 4095 ?_
    refine ur_ 12 34 40 8191 ?_
    refine ur_ 13 35 40 16383 ?_
    refine ur_ 14 36 40 32767 ?_
    refine ur_ 15 37 40 65535 ?_
    refine ur_ 16 38 40 131071 ?_
    refine pr_ 17 39 40 262143 ?_
    refine pr_ 18 40 40 524287 ?_
    refine ur_ 19 41 40 1048575 ?_
    refine ur_ 20 42 40 2097151 ?_
    refine ur_ 21 43 40 4194303 ?_
    refine ur_ 22 44 40 8388607 ?_
    refine ur_ 23 45 40 16777215 ?_
    refine ur_ 24 46 40 33554431 ?_
    refine pr_ 25 47 40 67108863 ?_
    refine pr_ 26 48 40 134217727 ?_
    refine ur_ 27 49 40 268435455 ?_
    refine ur_ 28 50 40 536870911 ?_
    refine ur_ 29 51 40 1073741823 ?_
    refine ur_ 30 52 40 2147483647 ?_
    refine ur_ 31 53 40 4294967295 ?_
    refine ur_ 32 54 40 8589934591 ?_
    refine ur_ 33 55 40 17179869183 ?_
    refine ur_ 34 56 40 34359738367 ?_
    refine ur_ 35 57 40 68719476735 ?_
    refine ur_ 36 58 40 137438953471 ?_
    refine ur_ 37 59 40 274877906943 ?_
    refine ur_ 38 60 40 549755813887 ?_
    refine pr_ 39 61 40 1099511627775 ?_
    refine done_ (done_of HT_.out (by kernel_rfl)) ?_
    try go_wp2
    go_meet
    case rel => exact ⟨_, (true), rg_, H', ⟨by first | omega | exact Nat.le_refl _⟩, ⟨kB_ BK0⟩, ⟨hB_⟩⟩
  case rest =>
   clear HC3
   try clear p2
   try clear c6
   try clear c7
   try clear c7b0
   try clear c7b1
   obtain ⟨kq, x61_2, rfl, HA, HJ2, BK0, HB⟩ := hcut
   cases kq with
   | zero => exact absurd HA.out (by simp [impl_Sparse_numbers.j0])
   | succ kj2 =>
    have H := HA.out; clear HA; simp only [impl_Sparse_numbers.j0] at H
    by_cases c22 : x61_2 = true
    ·subst c22
     have H1 : (some (([] : List Int), false)) = some (r1, r2) := by rw [if_pos rfl] at H; exact H
     clear H; have H := H1; clear H1; simp only [Option.some.injEq, Prod.mk.injEq] at H; obtain ⟨rfl, rfl⟩ := H
     go_wp2
     go_ret2
     exact ⟨_, rf_, by first | exact Kd.R_nil _ _ _ _ _ | exact Kd.N_nil _ _ _ _ _ | exact Kd.V_nil _ _ _ _ _ | exact Kd.Q_nil _ _ _ _ _ | exact Kd.S_nil _ _ _ _ _, hB_⟩
    ·replace c22 := Bool.eq_false_iff.mpr c22; subst c22
     have H1 : (impl_Sparse_numbers.l0 kj2 t347 (([] : List Int)) a0_5 0 a0_0 a0_1 a0_2 a0_3 l0_4 a0_5 l0_6) = some (r1, r2) := by rw [if_neg (show ¬ (false = true) by decide)] at H; exact H
     clear H; have H := H1; clear H1
     obtain ⟨y351, hy351⟩ : ∃ y_ : List Int, y_ = (([] : List Int)) := ⟨_, rfl⟩
     replace H : (impl_Sparse_numbers.l0 kj2 t347 y351 a0_5 0 a0_0 a0_1 a0_2 a0_3 l0_4 a0_5 l0_6) = some (r1, r2) := by first | (rw [hy351]; with_reducible exact H) | (have H2_ := (Option.bind_some _ _).symm.trans H; rw [hy351]; with_reducible exact H2_) | (have H2_ := (Option.bind_some _ _).symm.trans H; with_reducible exact H2_) | with_reducible exact H | (rw [hy351]; exact H) | exact H
     have Ny351 := Qx hy351; clear hy351; have H' := Qx H; clear H
     go_wp2_with (first | ((with_reducible refine gate_dst (N := 62) rfl ?_); refine Kd.R_lit (Kd.int .i64) _ 3 ?hg (N := 62) ?hd (xs := ([] : List Int)) (inner := []) (ok := fun _ => True) (okp := fun _ => True) ?hr ?hp (fun _ hk => hk) trivial (Below.refl _ _) (Nat.le_refl _) (by simp) ?_; (case hd => rfl); (case hg => rfl); (case hr => first | (go_simp; done) | (go_simp; rfl)); (case hp => exact (Reps.none _ _)); intro v352 w23 ho24 hb hg_ hnew_; clear hg_ hnew_; (first | rw [← Ny351.out] at ho24 | (simp only [Int.reduceToNat] at ho24; rw [← Ny351.out] at ho24)); have HO353 := Qx (Kd.R_lower ho24 (Qz hB_)); replace BK0 := Qx (Qb (kB_ BK0) hb); replace HB := Qx (Qp hB_ hb); clear hb ho24; obtain ⟨hcz25_0, hcz25_1, hcz25_2, hcz25_3, hcz25_4, hcz25_5, hcz25_6, hfz25_0, hfz25_1, hfz25_2, hfz25_3, hfz25_4, hfz25_5, hfz25_6⟩ := cellsQ7_g1d (w := w23) BK0.out))
     go_loopg [6, 68] kj2 (fun kq v6 v68 w' => ∃ (x6_2 : List Int) (x68_2 : Int), v68 = .int .i64 x68_2 ∧ Aside0 (impl_Sparse_numbers.l0 kq t347 x6_2 a0_5 x68_2 a0_0 a0_1 a0_2 a0_3 l0_4 a0_5 l0_6 = some (r1, r2)) ∧ Aside0 (kq ≤ kj2) ∧ Aside0 (Kd.R (Kd.int .i64) 3 w' w.heap.size (fun _ => True) v6 x6_2) ∧ Aside0 (w'.heap[gb0_]? = some (.cells #[.int .i64 a0_0, .int .i64 a0_1, .int .i64 a0_2, .int .i64 a0_3, (.slice A0_4 l0_4.length c0_4), .int .i64 a0_5, (.slice A0_6 l0_6.length c0_6)] 30 (0, 0))) ∧ Aside0 (Below w.heap.size w w'))
     case atStart => exact ⟨(y351), (0), rg_, H', ⟨Nat.le_refl _⟩, ⟨kR_ HO353⟩, ⟨kB_ BK0⟩, ⟨hB_⟩⟩
     case round =>
      clear H'
      try clear c2
      try clear p2
      try clear c6
      try clear c7
      try clear c7b0
      try clear c7b1
      try clear c22
      try clear hcz25_0
      try clear hcz25_1
      try clear hcz25_2
      try clear hcz25_3
      try clear hcz25_4
      try clear hcz25_5
      try clear hcz25_6
      try clear hfz25_0
      try clear hfz25_1
      try clear hfz25_2
      try clear hfz25_3
      try clear hfz25_4
      try clear hfz25_5
      try clear hfz25_6
      try clear p2
      obtain ⟨x6_2, x68_2, rfl, HA, HK2, HO_6, BK0, HB⟩ := hrel
      cases gk with
      | zero => exact absurd HA.out (by simp [impl_Sparse_numbers.l0])
      | succ k2 =>
       have H := HA.out; clear HA; simp only [impl_Sparse_numbers.l0] at H
       by_cases c26 : x68_2 < a0_5
       ·rw [if_pos c26] at H
        have c26b0 : decide (x68_2 < a0_5) = true := decide_eq_true c26
        clear c26; replace H := Option.bind_eq_some_iff.mp H; obtain ⟨t354, A270, H⟩ := H
        have A27 := Qx A270; clear A270
        by_cases c28 : t354 = true
        ·subst c28
         have H1 : (if (x6_2.length : Int) < a0_0 then (if 0 ≤ t347 then ((impl_Bits_field_in_30_3.f k2 a0_0 a0_1 a0_2 a0_3 l0_4 a0_5 l0_6 (wrap64 ((x6_2.length : Int) * t347)) t347).bind fun t355 => (if x6_2.length < 17592186044416 then (impl_Sparse_numbers.l0 k2 t347 (x6_2 ++ [Go.bits .or .i64 (shl .i64 (wrap64 (x68_2 - (x6_2.length : Int))) t347) t355]) a0_5 (wrap64 (x68_2 + 1)) a0_0 a0_1 a0_2 a0_3 l0_4 a0_5 l0_6) else (none))) else (none)) else (impl_Sparse_numbers.l0 k2 t347 x6_2 a0_5 (wrap64 (x68_2 + 1)) a0_0 a0_1 a0_2 a0_3 l0_4 a0_5 l0_6)) = some (r1, r2) := by rw [if_pos rfl] at H; exact H
         clear H; have H := H1; clear H1
         by_cases c29 : (x6_2.length : Int) < a0_0
         ·rw [if_pos c29] at H
          have c29b0 : decide ((x6_2.length : Int) < a0_0) = true := decide_eq_true c29
          clear c29
          by_cases c30 : 0 ≤ t347
          ·rw [if_pos c30] at H; have c30b0 := eq_true c30
           have c30b1 : decide (0 ≤ t347) = true := decide_eq_true c30
           clear c30
           obtain ⟨ji31, hji31⟩ : ∃ j_ : Int, (shl .i64 (wrap64 (x68_2 - (x6_2.length : Int))) t347) = j_ := ⟨_, rfl⟩
           replace H : ((impl_Bits_field_in_30_3.f k2 a0_0 a0_1 a0_2 a0_3 l0_4 a0_5 l0_6 (wrap64 ((x6_2.length : Int) * t347)) t347).bind fun t355 => (if x6_2.length < 17592186044416 then (impl_Sparse_numbers.l0 k2 t347 (x6_2 ++ [Go.bits .or .i64 (ji31) t355]) a0_5 (wrap64 (x68_2 + 1)) a0_0 a0_1 a0_2 a0_3 l0_4 a0_5 l0_6) else (none))) = some (r1, r2) := by first | (rw [hji31] at H; exact H) | (simp only [hji31] at H ⊢; exact H)
           (try rw [hji31] at A27)
           have hji31_ : (IntKind.i64.wrap ((wrap64 (x68_2 - (x6_2.length : Int))) * 2 ^ min t347.toNat 64)) = ji31 := hji31
           have hji31z : t347 ≤ 64 → (IntKind.i64.wrap ((wrap64 (x68_2 - (x6_2.length : Int))) * 2 ^ t347.toNat)) = ji31 := shl_small hji31
           have hji31y : (wrap64 ((wrap64 (x68_2 - (x6_2.length : Int))) * 2 ^ min t347.toNat 64)) = ji31 := (i64_w _).symm.trans hji31_
           have hji31x : t347 ≤ 64 → (wrap64 ((wrap64 (x68_2 - (x6_2.length : Int))) * 2 ^ t347.toNat)) = ji31 := fun h_ => (i64_w _).symm.trans (hji31z h_)
           replace H := Option.bind_eq_some_iff.mp H; obtain ⟨t355, A320, H⟩ := H
           have A32 := Qx A320; clear A320
           by_cases c33 : x6_2.length < 17592186044416
           ·rw [if_pos c33] at H; have LMc33 := Qx c33; clear c33
            obtain ⟨y356, hy356⟩ : ∃ y_ : List Int, y_ = (x6_2 ++ [Go.bits .or .i64 (ji31) t355]) := ⟨_, rfl⟩
            replace H : (impl_Sparse_numbers.l0 k2 t347 y356 a0_5 (wrap64 (x68_2 + 1)) a0_0 a0_1 a0_2 a0_3 l0_4 a0_5 l0_6) = some (r1, r2) := by first | (rw [hy356]; with_reducible exact H) | (have H2_ := (Option.bind_some _ _).symm.trans H; rw [hy356]; with_reducible exact H2_) | (have H2_ := (Option.bind_some _ _).symm.trans H; with_reducible exact H2_) | with_reducible exact H | (rw [hy356]; exact H) | exact H
            have Ny356 := Qx hy356; clear hy356; have H' := Qx H; clear H; obtain ⟨Ao34, co34, eo34⟩ := Kd.R_slice HO_6.out; subst eo34
            try go_wp2_with (first | ((with_reducible refine gate_callee (f := 43) rfl ?_); refine gl_ 77 Try.func43 #[.pointer (some ⟨gb0_, 5, none⟩), .int .i64 x68_2] ?_; (with_reducible refine (impl_Bits_at_in_30_5.calls gb0_ a0_0 a0_1 a0_2 a0_3 A0_4 c0_4 l0_4 a0_5 A0_6 c0_6 l0_6 x68_2 true _ ?side1 ?side2 ?side3 ?side4 ?side5 A27.out).mono ?_); (case side1 => exact kC_ HR0_4); (case side2 => exact HC0_4.out); (case side3 => exact kC_ HR0_6); (case side4 => exact HC0_6.out); (case side5 => exact (kB_ BK0)); rintro e w' ⟨rfl, ⟨nd, rfl⟩⟩; refine ⟨_, rfl, ?_⟩; obtain ⟨hcz35_0, hcz35_1, hcz35_2, hcz35_3, hcz35_4, hcz35_5, hcz35_6, hfz35_0, hfz35_1, hfz35_2, hfz35_3, hfz35_4, hfz35_5, hfz35_6⟩ := cellsQ7_g1d (w := wr) BK0.out))
            (try (rw [drewN_self wr]; generalize hq_ : World.drewN wr _ = wr; have n0_ : Aside0 (Kd.R (Kd.int .i64) 3 wr w.heap.size (fun k_ => True) (.slice Ao34 x6_2.length co34) x6_2) := ⟨by rw [← hq_]; exact (kR_ HO_6)⟩; have n1_ : Aside0 (wr.heap[gb0_]? = some (.cells #[.int .i64 a0_0, .int .i64 a0_1, .int .i64 a0_2, .int .i64 a0_3, .slice A0_4 l0_4.length c0_4, .int .i64 a0_5, .slice A0_6 l0_6.length c0_6] 30 (0, 0))) := ⟨by rw [← hq_]; exact (kB_ BK0)⟩; have n2_ : Aside0 (Below w.heap.size w wr) := ⟨by rw [← hq_]; exact hB_⟩; clear HO_6 BK0 HB hq_; have HO_6 := n0_; have BK0 := n1_; have HB := n2_; clear n0_ n1_ n2_))
            replace HO_6 := Qx (Qrd HO_6.out)
            replace BK0 := Qx (Qw BK0.out)
            replace HB := Qx (Qd HB.out)
            refine start_ (n := 18) (S := fun w' => True) (ds := []) #[false, false, false, false, false, false, false, false, false, false, false, false, false, false, false, false, false, false] (by kernel_rfl) rfl rfl trivial (fun hHeld => ?_); refine with_tabW impl_Sparse_numbers.tab10 impl_Sparse_numbers.bits10 (fun HT_ HW_ => ?_)
            generalize wr.drew = w36 at HO_6 BK0 HB hHeld ⊢
            refine pr_ 0 86 18 1 ?_
            refine pr_ 1 87 18 3 ?_
            refine pr_ 2 88 18 7 ?_
            refine pr_ 3 89 18 15 ?_
            refine pr_ 4 90 18 31 ?_
            refine pr_ 5 91 18 63 ?_
            refine pr_ 6 92 18 127 ?_
            refine pr_ 7 93 18 255 ?_
            refine pr_ 8 94 18 511 ?_
            refine pr_ 9 95 18 1023 ?_
            refine pr_ 10 96 18 2047 ?_
            refine pr_ 11 97 18 4095 ?_
            refine pr_ 12 98 18 8191 ?_
            refine one_ (i := 13) (N := some 99) (bsA 18 16383) rfl rfl (one_of HT_.out (by kernel_rfl)) (by decide) (fun K hK => ?_)
            refine goes_ Try.func44 (by kernel_rfl) rfl #[.pointer (some ⟨gb0_, 3, none⟩), .int .i64 (wrap64 ((x6_2.length : Int) * t347)), .int .i64 t347] (by rfl) rfl rfl (by (try simp only [List.map_toArray, List.map_cons, List.map_nil]); first | done | rfl | (simp only [List.length_drop, List.length_take]; rfl)) ?_
            with_reducible refine (impl_Bits_field_in_30_3.calls k2 gb0_ a0_0 a0_1 a0_2 a0_3 A0_4 c0_4 l0_4 a0_5 A0_6 c0_6 l0_6 (wrap64 ((x6_2.length : Int) * t347)) t347 t355 _ ?side1 ?side2 ?side3 ?side4 ?side5 A32.out).mono ?_
            (case side1 => exact kC_ HR0_4)
            (case side2 => exact HC0_4.out)
            (case side3 => exact kC_ HR0_6)
            (case side4 => exact HC0_6.out)
            (case side5 => exact (kB_ BK0))
            rintro e w' ⟨rfl, ⟨nd, rfl⟩⟩
            refine ⟨_, rfl, ?_⟩
            refine hK.out _ _ trivial (fun hHeld => ?_)
            clear hK K
            refine norm_ (a' := ?_) ?_ ?_
            rotate_left
            ·show Act.put _ (some 99) _ = _
             simp only [Act.put, List.setIfInBounds_toArray, List.set_cons_zero, List.set_cons_succ, i64_w]
             rfl
            refine pr_ 14 100 18 32767 ?_
            refine one_ (i := 15) (N := some 101) (bsA 18 65535) rfl rfl (one_of HT_.out (by kernel_rfl)) (by decide) (fun K hK => ?_)
            refine value_ (w1 := ?_) (v := ?_) (by rfl) rfl ?_ ?_
            rotate_left 2
            ·go_simp
             constructor
             ·rfl
             ·rfl
            refine hK.out _ _ trivial (fun hHeld => ?_)
            clear hK K
            refine norm_ (a' := ?_) ?_ ?_
            rotate_left
            ·show Act.put _ (some 101) _ = _
             simp only [Act.put, List.setIfInBounds_toArray, List.set_cons_zero, List.set_cons_succ, i64_w]
             rfl
            refine one_ (i := 16) (N := some 102) (bsA 18 131071) rfl rfl (one_of HT_.out (by kernel_rfl)) (by decide) (fun K hK => ?_)
            refine Kd.R_append_step (Kd.int .i64) (w0 := w) w.heap.size (by rfl) (.tmp 86) (.tmp 101) 24 3 (.int .i64 0) 8 rfl Try.underlying24 info3 rfl (by decide) (by omega) (.slice Ao34 x6_2.length co34) x6_2 (Go.bits .or .i64 (ji31) t355) [.int .i64 (Go.bits .or .i64 (ji31) t355)] (fun _ => True) (fun _ => False) rfl rfl ?aP (fun _ hk => hk.elim) ?aF ?aO ?aB ?aS ?aL ?_
            (case aP => exact rfl)
            (case aB => exact hB_)
            (case aF => exact (fun _ _ => trivial))
            (case aO => exact (kR_ HO_6))
            (case aS => exact (Qz hB_))
            (case aL => have := LMc33.out; omega)
            intro v357 w37 ho hb hg hat
            rw [← Ny356.out] at ho
            have n0_ := Qx (blk_grown (kB_ BK0) hg (Kd.R_ne HO_6.out BK0.out (by decide)))
            have n1_ := Qx (hb)
            have n2_ := Qx (ho)
            clear BK0 HB HO_6; have BK0 := n0_; have HB := n1_; have HO358 := n2_; clear n0_ n1_ n2_ ho hb hg hat
            refine hK.out _ _ trivial (fun hHeld => ?_)
            clear hK K
            refine norm_ (a' := ?_) ?_ ?_
            rotate_left
            ·show Act.put _ (some 102) _ = _
             simp only [Act.put, List.setIfInBounds_toArray, List.set_cons_zero, List.set_cons_succ, i64_w]
             rfl
            refine pr_ 17 6 18 262143 ?_
            refine done_ (done_of HT_.out (by kernel_rfl)) ?_
            try go_wp2
            go_roundg k2
            case measure => have := HJ2.out; have := HK2.out; omega
            case rel => exact ⟨(y356), (wrap64 (x68_2 + 1)), rg_, H', ⟨by have := HJ2.out; have := HK2.out; omega⟩, ⟨kR_ HO358⟩, ⟨kB_ BK0⟩, ⟨hB_⟩⟩
           ·rw [if_neg c33] at H
            exact absurd H (by simp)
          ·rw [if_neg c30] at H
           exact absurd H (by simp)
         ·rw [if_neg c29] at H
          have c29b0 : decide ((x6_2.length : Int) < a0_0) = false := decide_eq_false c29
          clear c29; have H' := Qx H; clear H; obtain ⟨Ao38, co38, eo38⟩ := Kd.R_slice HO_6.out; subst eo38
          go_wp2_with (first | ((with_reducible refine gate_callee (f := 43) rfl ?_); refine gl_ 77 Try.func43 #[.pointer (some ⟨gb0_, 5, none⟩), .int .i64 x68_2] ?_; (with_reducible refine (impl_Bits_at_in_30_5.calls gb0_ a0_0 a0_1 a0_2 a0_3 A0_4 c0_4 l0_4 a0_5 A0_6 c0_6 l0_6 x68_2 true _ ?side1 ?side2 ?side3 ?side4 ?side5 A27.out).mono ?_); (case side1 => exact kC_ HR0_4); (case side2 => exact HC0_4.out); (case side3 => exact kC_ HR0_6); (case side4 => exact HC0_6.out); (case side5 => exact (kB_ BK0)); rintro e w' ⟨rfl, ⟨nd, rfl⟩⟩; refine ⟨_, rfl, ?_⟩; obtain ⟨hcz39_0, hcz39_1, hcz39_2, hcz39_3, hcz39_4, hcz39_5, hcz39_6, hfz39_0, hfz39_1, hfz39_2, hfz39_3, hfz39_4, hfz39_5, hfz39_6⟩ := cellsQ7_g1d (w := wr) BK0.out))
          go_roundg k2
          case measure => have := HJ2.out; have := HK2.out; omega
          case rel => exact ⟨(x6_2), (wrap64 (x68_2 + 1)), rg_, H', ⟨by have := HJ2.out; have := HK2.out; omega⟩, ⟨kR_ HO_6⟩, ⟨kB_ BK0⟩, ⟨hB_⟩⟩
        ·replace c28 := Bool.eq_false_iff.mpr c28; subst c28
         have H1 : (impl_Sparse_numbers.l0 k2 t347 x6_2 a0_5 (wrap64 (x68_2 + 1)) a0_0 a0_1 a0_2 a0_3 l0_4 a0_5 l0_6) = some (r1, r2) := by rw [if_neg (show ¬ (false = true) by decide)] at H; exact H
         clear H; have H := H1; clear H1; have H' := Qx H; clear H; obtain ⟨Ao40, co40, eo40⟩ := Kd.R_slice HO_6.out; subst eo40
         go_wp2_with (first | ((with_reducible refine gate_callee (f := 43) rfl ?_); refine gl_ 77 Try.func43 #[.pointer (some ⟨gb0_, 5, none⟩), .int .i64 x68_2] ?_; (with_reducible refine (impl_Bits_at_in_30_5.calls gb0_ a0_0 a0_1 a0_2 a0_3 A0_4 c0_4 l0_4 a0_5 A0_6 c0_6 l0_6 x68_2 false _ ?side1 ?side2 ?side3 ?side4 ?side5 A27.out).mono ?_); (case side1 => exact kC_ HR0_4); (case side2 => exact HC0_4.out); (case side3 => exact kC_ HR0_6); (case side4 => exact HC0_6.out); (case side5 => exact (kB_ BK0)); rintro e w' ⟨rfl, ⟨nd, rfl⟩⟩; refine ⟨_, rfl, ?_⟩))
         go_roundg k2
         case measure => have := HJ2.out; have := HK2.out; omega
         case rel => exact ⟨(x6_2), (wrap64 (x68_2 + 1)), rg_, H', ⟨by have := HJ2.out; have := HK2.out; omega⟩, ⟨kR_ HO_6⟩, ⟨kB_ BK0⟩, ⟨hB_⟩⟩
       ·rw [if_neg c26] at H
        have c26b0 : decide (x68_2 < a0_5) = false := decide_eq_false c26
        clear c26; have HC41 := Qx H; clear H
        go_upto_region 12 with (fail)
        go_cut [119] (fun v119 wc => ∃ (kq : Nat) (x119_40 : Bool), v119 = .bool x119_40 ∧ Aside0 (impl_Sparse_numbers.j2 kq x6_2 x119_40 a0_0 a0_1 a0_2 a0_3 l0_4 a0_5 l0_6 = some (r1, r2)) ∧ Aside0 (kq ≤ k2) ∧ Aside0 (Kd.R (Kd.int .i64) 3 wc w.heap.size (fun _ => True) u6 x6_2) ∧ Aside0 (wc.heap[gb0_]? = some (.cells #[.int .i64 a0_0, .int .i64 a0_1, .int .i64 a0_2, .int .i64 a0_3, (.slice A0_4 l0_4.length c0_4), .int .i64 a0_5, (.slice A0_6 l0_6.length c0_6)] 30 (0, 0))) ∧ Aside0 (Below w.heap.size w wc))
        case first =>
         have H := HC41.out; clear HC41
         by_cases c42 : (x6_2.length : Int) = a0_0
         ·rw [if_pos c42] at H
          have c42b0 : ((x6_2.length : Int) == a0_0) = true := beq_iff_eq.mpr c42
          have c42b1 : ((x6_2.length : Int) != a0_0) = false := bne_eq_false_iff_eq.mpr c42
          clear c42
          (first | rw [c42b0] | (simp only [i64_w, i32_w]; rw [c42b0]) | skip)
          replace H := Option.bind_eq_some_iff.mp H; obtain ⟨t359, A430, H⟩ := H
          have A43 := Qx A430; clear A430; have H' := Qx H; clear H; obtain ⟨Ao44, co44, eo44⟩ := Kd.R_slice HO_6.out; subst eo44
          obtain ⟨hcz45_0, hcz45_1, hcz45_2, hcz45_3, hcz45_4, hcz45_5, hcz45_6, hfz45_0, hfz45_1, hfz45_2, hfz45_3, hfz45_4, hfz45_5, hfz45_6⟩ := cellsQ7_g1d (w := wr) BK0.out
          go_wp2_with (first | (go_at_call 18; (with_reducible refine (impl_sortedOk.calls k2 _ _ x6_2 a0_1 t359 _ ?side1 ?side2 A43.out).mono ?_); (case side1 => exact kD_ HO_6); (case side2 => exact (Kd.R_reads' HO_6.out).2.1); rintro e w' ⟨rfl, ⟨nd, rfl⟩⟩))
          go_meet
          case rel => exact ⟨_, (!t359), rg_, H', ⟨by have := HJ2.out; have := HK2.out; first | omega | exact Nat.le_refl _⟩, ⟨kR_ HO_6⟩, ⟨kB_ BK0⟩, ⟨hB_⟩⟩
         ·rw [if_neg c42] at H
          have c42b0 : ((x6_2.length : Int) == a0_0) = false := beq_eq_false_iff_ne.mpr c42
          have c42b1 : ((x6_2.length : Int) != a0_0) = true := bne_iff_ne.mpr c42
          (first | rw [c42b0] | (simp only [i64_w, i32_w]; rw [c42b0]) | skip)
          have H' := Qx H; clear H; obtain ⟨Ao46, co46, eo46⟩ := Kd.R_slice HO_6.out; subst eo46
          obtain ⟨hcz47_0, hcz47_1, hcz47_2, hcz47_3, hcz47_4, hcz47_5, hcz47_6, hfz47_0, hfz47_1, hfz47_2, hfz47_3, hfz47_4, hfz47_5, hfz47_6⟩ := cellsQ7_g1d (w := wr) BK0.out
          go_wp2
          go_meet
          case rel => exact ⟨_, (true), rg_, H', ⟨by have := HJ2.out; have := HK2.out; first | omega | exact Nat.le_refl _⟩, ⟨kR_ HO_6⟩, ⟨kB_ BK0⟩, ⟨hB_⟩⟩
        case rest =>
         clear HC41
         try clear c2
         try clear p2
         try clear c3
         try clear c4
         try clear c6
         try clear p6
         try clear c7
         try clear c7b0
         try clear c7b1
         try clear c22
         try clear c26
         try clear c26b0
         try clear c28
         try clear c29
         try clear c29b0
         try clear c30
         try clear c30b0
         try clear c30b1
         try clear c33
         try clear c42
         try clear c42b0
         try clear c42b1
         try clear c43
         try clear c44
         try clear hcz25_0
         try clear hcz25_1
         try clear hcz25_2
         try clear hcz25_3
         try clear hcz25_4
         try clear hcz25_5
         try clear hcz25_6
         try clear hcz35_0
         try clear hcz35_1
         try clear hcz35_2
         try clear hcz35_3
         try clear hcz35_4
         try clear hcz35_5
         try clear hcz35_6
         try clear hcz39_0
         try clear hcz39_1
         try clear hcz39_2
         try clear hcz39_3
         try clear hcz39_4
         try clear hcz39_5
         try clear hcz39_6
         try clear hcz45_0
         try clear hcz45_1
         try clear hcz45_2
         try clear hcz45_3
         try clear hcz45_4
         try clear hcz45_5
         try clear hcz45_6
         try clear hcz47_0
         try clear hcz47_1
         try clear hcz47_2
         try clear hcz47_3
         try clear hcz47_4
         try clear hcz47_5
         try clear hcz47_6
         try clear hfz25_0
         try clear hfz25_1
         try clear hfz25_2
         try clear hfz25_3
         try clear hfz25_4
         try clear hfz25_5
         try clear hfz25_6
         try clear hfz35_0
         try clear hfz35_1
         try clear hfz35_2
         try clear hfz35_3
         try clear hfz35_4
         try clear hfz35_5
         try clear hfz35_6
         try clear hfz39_0
         try clear hfz39_1
         try clear hfz39_2
         try clear hfz39_3
         try clear hfz39_4
         try clear hfz39_5
         try clear hfz39_6
         try clear hfz45_0
         try clear hfz45_1
         try clear hfz45_2
         try clear hfz45_3
         try clear hfz45_4
         try clear hfz45_5
         try clear hfz45_6
         try clear hfz47_0
         try clear hfz47_1
         try clear hfz47_2
         try clear hfz47_3
         try clear hfz47_4
         try clear hfz47_5
         try clear hfz47_6
         try clear p2
         obtain ⟨kq, x119_40, rfl, HA, HJ40, HO_6, BK0, HB⟩ := hcut
         cases kq with
         | zero => exact absurd HA.out (by simp [impl_Sparse_numbers.j2])
         | succ kj40 =>
          have H := HA.out; clear HA; simp only [impl_Sparse_numbers.j2] at H
          by_cases c48 : x119_40 = true
          ·subst c48
           have H1 : (some (([] : List Int), false)) = some (r1, r2) := by rw [if_pos rfl] at H; exact H
           clear H; have H := H1; clear H1; simp only [Option.some.injEq, Prod.mk.injEq] at H; obtain ⟨rfl, rfl⟩ := H
           go_wp2
           go_ret2
           exact ⟨_, rf_, by first | exact Kd.R_nil _ _ _ _ _ | exact Kd.N_nil _ _ _ _ _ | exact Kd.V_nil _ _ _ _ _ | exact Kd.Q_nil _ _ _ _ _ | exact Kd.S_nil _ _ _ _ _, hB_⟩
          ·replace c48 := Bool.eq_false_iff.mpr c48; subst c48
           have H1 : ((impl_sparse.f kj40 x6_2 a0_1).bind fun bt360 => ((impl_sameBits.f kj40 bt360.2.2.2.1 bt360.2.2.2.2.1 a0_3 l0_4).bind fun t372 => (if t372 = true then ((impl_sameBits.f kj40 bt360.2.2.2.2.2.1 bt360.2.2.2.2.2.2 a0_5 l0_6).bind fun t373 => (some (x6_2, t373))) else (some (x6_2, false))))) = some (r1, r2) := by rw [if_neg (show ¬ (false = true) by decide)] at H; exact H
           clear H; have H := H1; clear H1; replace H := Option.bind_eq_some_iff.mp H; obtain ⟨⟨t360, t361, t362, t363, t364, t367, t368⟩, A490, H⟩ := H
           have A49 := Qx A490; clear A490; replace H := Option.bind_eq_some_iff.mp H; obtain ⟨t372, A500, H⟩ := H
           have A50 := Qx A500; clear A500
           by_cases c51 : t372 = true
           ·subst c51
            have H1 : ((impl_sameBits.f kj40 t367 t368 a0_5 l0_6).bind fun t373 => (some (x6_2, t373))) = some (r1, r2) := by rw [if_pos rfl] at H; exact H
            clear H; have H := H1; clear H1; replace H := Option.bind_eq_some_iff.mp H; obtain ⟨t373, A520, H⟩ := H
            have A52 := Qx A520; clear A520; simp only [Option.some.injEq, Prod.mk.injEq] at H; obtain ⟨rfl, rfl⟩ := H
            obtain ⟨hcz53_0, hcz53_1, hcz53_2, hcz53_3, hcz53_4, hcz53_5, hcz53_6, hfz53_0, hfz53_1, hfz53_2, hfz53_3, hfz53_4, hfz53_5, hfz53_6⟩ := cellsQ7_g1d (w := wc) BK0.out
            obtain ⟨Ao54, co54, eo54⟩ := Kd.R_slice HO_6.out; subst eo54
            try go_wp2_with (first | ((with_reducible refine gate_callee (f := 19) rfl ?_); refine gl_ 125 Try.func19 #[.slice Ao54 x6_2.length co54, .int .i64 a0_1] ?_; (with_reducible refine (impl_sparse.calls kj40 _ _ x6_2 a0_1 t360 t361 t362 t363 t364 t367 t368 _ ?side1 ?side2 A49.out).mono ?_); (case side1 => exact kD_ HO_6); (case side2 => exact (Kd.R_reads' HO_6.out).2.1); rintro e w55 ⟨v365, v369, rfl, ho0, ho1, hb⟩; refine ⟨_, rfl, ?_⟩; have HO366 := Qx (Kd.R_lower (Kd.R_new' ho0 (Kd.R_lt (kR_ HO_6))) (Qz hB_)); have HO370 := Qx (Kd.R_lower (Kd.R_new' ho1 (Kd.R_lt (kR_ HO_6))) (Qz hB_)); replace HO_6 := Qx (Qrm (Kd.R_told (Kd.R_told (Kd.R_old (kR_ HO_6) hb) (Kd.R_base ho0)) (Kd.R_base ho1)) (fun _ h_ => h_.1)); replace BK0 := Qx (Qb (kB_ BK0) hb); replace HB := Qx (Qp hB_ hb); (try clear hb); (try clear hb2); (try clear hk); (try clear hi); (try clear ho0); (try clear ho1)) | ((with_reducible refine gate_dst (N := 9) rfl ?_); refine bx_ 9 #[.int .i64 0, .int .i64 0, .int .i64 0, .int .i64 0, .slice none 0 0, .int .i64 0, .slice none 0 0] 30 ?_; intro gb371 hg w56 hbox hb; replace HO_6 := Qx (Qrb (kR_ HO_6) hb); replace HO366 := Qx (Qrb (kR_ HO366) hb); replace HO370 := Qx (Qrb (kR_ HO370) hb); have BK371 := Qx (hbox); have GW371 := Qx ((ge_ hg)); have GE371 := Qx ((ge_ hg)); replace HB := Qx (Qp hB_ hb); have NB0_371 := Qx ((ne_ hg BK0)); have NB371_0 := Qx ((nf_ hg BK0)); replace BK0 := Qx (Qb (kB_ BK0) hb); clear hb hbox hg; have hnb57 := NB371_0.out; have hnc57 := NB0_371.out; obtain ⟨hcz58_0, hcz58_1, hcz58_2, hcz58_3, hcz58_4, hcz58_5, hcz58_6, hfz58_0, hfz58_1, hfz58_2, hfz58_3, hfz58_4, hfz58_5, hfz58_6⟩ := cellsQ7_g1d (w := w56) BK371.out; obtain ⟨Ao59, co59, eo59⟩ := Kd.R_slice HO366.out; subst eo59; obtain ⟨Ao60, co60, eo60⟩ := Kd.R_slice HO370.out; subst eo60))
            have n0_ : Aside0 (Kd.R (Kd.int .i64) 3 (((((((w56.setCell ⟨gb371, 0, none⟩ (.int .i64 t360)).setCell ⟨gb371, 1, none⟩ (.int .i64 t361)).setCell ⟨gb371, 2, none⟩ (.int .i64 t362)).setCell ⟨gb371, 3, none⟩ (.int .i64 t363)).setCell ⟨gb371, 4, none⟩ (.slice Ao59 t364.length co59)).setCell ⟨gb371, 5, none⟩ (.int .i64 t367)).setCell ⟨gb371, 6, none⟩ (.slice Ao60 t368.length co60)) w.heap.size (fun k_ => some k_ ≠ (.slice Ao59 t364.length co59 : Value).ownBlock ∧ some k_ ≠ (.slice Ao60 t368.length co60 : Value).ownBlock) (.slice Ao54 x6_2.length co54) x6_2) := ⟨by (with_reducible repeat (first | apply Kd.R_alloc | apply Kd.R_drewN | apply Qrd)); exact Qrm (farsQ7_g1d (Kd.R_types HO_6.out BK371.out (by decide)) (fun _ hk => hk.2) (.int .i64 t360) (.int .i64 t361) (.int .i64 t362) (.int .i64 t363) (.slice Ao59 t364.length co59) (.int .i64 t367) (.slice Ao60 t368.length co60)) (fun _ hk => ⟨hk.1.1.2, hk.1.2⟩)⟩
            have n1_ : Aside0 (Kd.R (Kd.int .i64) 3 (((((((w56.setCell ⟨gb371, 0, none⟩ (.int .i64 t360)).setCell ⟨gb371, 1, none⟩ (.int .i64 t361)).setCell ⟨gb371, 2, none⟩ (.int .i64 t362)).setCell ⟨gb371, 3, none⟩ (.int .i64 t363)).setCell ⟨gb371, 4, none⟩ (.slice Ao59 t364.length co59)).setCell ⟨gb371, 5, none⟩ (.int .i64 t367)).setCell ⟨gb371, 6, none⟩ (.slice Ao60 t368.length co60)) w.heap.size (fun k_ => some k_ ≠ (.slice Ao54 x6_2.length co54 : Value).ownBlock ∧ some k_ ≠ (.slice Ao60 t368.length co60 : Value).ownBlock) (.slice Ao59 t364.length co59) t364) := ⟨by (with_reducible repeat (first | apply Kd.R_alloc | apply Kd.R_drewN | apply Qrd)); exact Qrm (farsQ7_g1d (Kd.R_types HO366.out BK371.out (by decide)) (fun _ hk => hk.2) (.int .i64 t360) (.int .i64 t361) (.int .i64 t362) (.int .i64 t363) (.slice Ao59 t364.length co59) (.int .i64 t367) (.slice Ao60 t368.length co60)) (fun _ hk => ⟨hk.1.2, hk.1.1⟩)⟩
            have n2_ : Aside0 (Kd.R (Kd.int .i64) 3 (((((((w56.setCell ⟨gb371, 0, none⟩ (.int .i64 t360)).setCell ⟨gb371, 1, none⟩ (.int .i64 t361)).setCell ⟨gb371, 2, none⟩ (.int .i64 t362)).setCell ⟨gb371, 3, none⟩ (.int .i64 t363)).setCell ⟨gb371, 4, none⟩ (.slice Ao59 t364.length co59)).setCell ⟨gb371, 5, none⟩ (.int .i64 t367)).setCell ⟨gb371, 6, none⟩ (.slice Ao60 t368.length co60)) w.heap.size (fun k_ => some k_ ≠ (.slice Ao54 x6_2.length co54 : Value).ownBlock ∧ some k_ ≠ (.slice Ao59 t364.length co59 : Value).ownBlock) (.slice Ao60 t368.length co60) t368) := ⟨by (with_reducible repeat (first | apply Kd.R_alloc | apply Kd.R_drewN | apply Qrd)); exact Qrm (farsQ7_g1d (Kd.R_types HO370.out BK371.out (by decide)) (fun _ hk => hk.2) (.int .i64 t360) (.int .i64 t361) (.int .i64 t362) (.int .i64 t363) (.slice Ao59 t364.length co59) (.int .i64 t367) (.slice Ao60 t368.length co60)) (fun _ hk => ⟨hk.1.2, hk.1.1⟩)⟩
            have n3_ : Aside0 ((((((((w56.setCell ⟨gb371, 0, none⟩ (.int .i64 t360)).setCell ⟨gb371, 1, none⟩ (.int .i64 t361)).setCell ⟨gb371, 2, none⟩ (.int .i64 t362)).setCell ⟨gb371, 3, none⟩ (.int .i64 t363)).setCell ⟨gb371, 4, none⟩ (.slice Ao59 t364.length co59)).setCell ⟨gb371, 5, none⟩ (.int .i64 t367)).setCell ⟨gb371, 6, none⟩ (.slice Ao60 t368.length co60)).heap[gb0_]? = some (.cells #[.int .i64 a0_0, .int .i64 a0_1, .int .i64 a0_2, .int .i64 a0_3, .slice A0_4 l0_4.length c0_4, .int .i64 a0_5, .slice A0_6 l0_6.length c0_6] 30 (0, 0))) := ⟨by (with_reducible repeat (first | refine Qm ?_ _ | refine Qw ?_ | refine Qk ?_ _)); refine Qr ?_ NB0_371.out _; (with_reducible repeat (first | refine Qm ?_ _ | refine Qw ?_ | refine Qk ?_ _)); refine Qr ?_ NB0_371.out _; (with_reducible repeat (first | refine Qm ?_ _ | refine Qw ?_ | refine Qk ?_ _)); refine Qr ?_ NB0_371.out _; (with_reducible repeat (first | refine Qm ?_ _ | refine Qw ?_ | refine Qk ?_ _)); refine Qr ?_ NB0_371.out _; (with_reducible repeat (first | refine Qm ?_ _ | refine Qw ?_ | refine Qk ?_ _)); refine Qr ?_ NB0_371.out _; (with_reducible repeat (first | refine Qm ?_ _ | refine Qw ?_ | refine Qk ?_ _)); refine Qr ?_ NB0_371.out _; (with_reducible repeat (first | refine Qm ?_ _ | refine Qw ?_ | refine Qk ?_ _)); refine Qr ?_ NB0_371.out _; (with_reducible repeat (first | refine Qm ?_ _ | refine Qw ?_ | refine Qk ?_ _)); exact BK0.out⟩
            have n4_ : Aside0 ((((((((w56.setCell ⟨gb371, 0, none⟩ (.int .i64 t360)).setCell ⟨gb371, 1, none⟩ (.int .i64 t361)).setCell ⟨gb371, 2, none⟩ (.int .i64 t362)).setCell ⟨gb371, 3, none⟩ (.int .i64 t363)).setCell ⟨gb371, 4, none⟩ (.slice Ao59 t364.length co59)).setCell ⟨gb371, 5, none⟩ (.int .i64 t367)).setCell ⟨gb371, 6, none⟩ (.slice Ao60 t368.length co60)).heap[gb371]? = some (.cells #[.int .i64 t360, .int .i64 t361, .int .i64 t362, .int .i64 t363, .slice Ao59 t364.length co59, .int .i64 t367, .slice Ao60 t368.length co60] 30 (0, 0))) := ⟨by (with_reducible repeat (first | refine Qm ?_ _ | refine Qw ?_ | refine Qk ?_ _)); refine Qu (cs := #[.int .i64 t360, .int .i64 t361, .int .i64 t362, .int .i64 t363, .slice Ao59 t364.length co59, .int .i64 t367, .slice none 0 0]) ?_ 6 _ rfl; (with_reducible repeat (first | refine Qm ?_ _ | refine Qw ?_ | refine Qk ?_ _)); refine Qu (cs := #[.int .i64 t360, .int .i64 t361, .int .i64 t362, .int .i64 t363, .slice Ao59 t364.length co59, .int .i64 0, .slice none 0 0]) ?_ 5 _ rfl; (with_reducible repeat (first | refine Qm ?_ _ | refine Qw ?_ | refine Qk ?_ _)); refine Qu (cs := #[.int .i64 t360, .int .i64 t361, .int .i64 t362, .int .i64 t363, .slice none 0 0, .int .i64 0, .slice none 0 0]) ?_ 4 _ rfl; (with_reducible repeat (first | refine Qm ?_ _ | refine Qw ?_ | refine Qk ?_ _)); refine Qu (cs := #[.int .i64 t360, .int .i64 t361, .int .i64 t362, .int .i64 0, .slice none 0 0, .int .i64 0, .slice none 0 0]) ?_ 3 _ rfl; (with_reducible repeat (first | refine Qm ?_ _ | refine Qw ?_ | refine Qk ?_ _)); refine Qu (cs := #[.int .i64 t360, .int .i64 t361, .int .i64 0, .int .i64 0, .slice none 0 0, .int .i64 0, .slice none 0 0]) ?_ 2 _ rfl; (with_reducible repeat (first | refine Qm ?_ _ | refine Qw ?_ | refine Qk ?_ _)); refine Qu (cs := #[.int .i64 t360, .int .i64 0, .int .i64 0, .int .i64 0, .slice none 0 0, .int .i64 0, .slice none 0 0]) ?_ 1 _ rfl; (with_reducible repeat (first | refine Qm ?_ _ | refine Qw ?_ | refine Qk ?_ _)); refine Qu (cs := #[.int .i64 0, .int .i64 0, .int .i64 0, .int .i64 0, .slice none 0 0, .int .i64 0, .slice none 0 0]) ?_ 0 _ rfl; (with_reducible repeat (first | refine Qm ?_ _ | refine Qw ?_ | refine Qk ?_ _)); exact BK371.out⟩
            have n5_ : Aside0 (Below w.heap.size w (((((((w56.setCell ⟨gb371, 0, none⟩ (.int .i64 t360)).setCell ⟨gb371, 1, none⟩ (.int .i64 t361)).setCell ⟨gb371, 2, none⟩ (.int .i64 t362)).setCell ⟨gb371, 3, none⟩ (.int .i64 t363)).setCell ⟨gb371, 4, none⟩ (.slice Ao59 t364.length co59)).setCell ⟨gb371, 5, none⟩ (.int .i64 t367)).setCell ⟨gb371, 6, none⟩ (.slice Ao60 t368.length co60))) := ⟨hB_⟩
            (try clear HO_6); (try clear HO366); (try clear HO370); (try clear BK0); (try clear BK371); (try clear HB)
            generalize (((((((w56.setCell ⟨gb371, 0, none⟩ (.int .i64 t360)).setCell ⟨gb371, 1, none⟩ (.int .i64 t361)).setCell ⟨gb371, 2, none⟩ (.int .i64 t362)).setCell ⟨gb371, 3, none⟩ (.int .i64 t363)).setCell ⟨gb371, 4, none⟩ (.slice Ao59 t364.length co59)).setCell ⟨gb371, 5, none⟩ (.int .i64 t367)).setCell ⟨gb371, 6, none⟩ (.slice Ao60 t368.length co60)) = w61 at n0_ n1_ n2_ n3_ n4_ n5_ ⊢
            have HO_6 := n0_; have HO366 := n1_; have HO370 := n2_; have BK0 := n3_; have BK371 := n4_; have HB := n5_; clear n0_ n1_ n2_ n3_ n4_ n5_
            replace HO_6 := Qx (Qrd HO_6.out)
            replace HO366 := Qx (Qrd HO366.out)
            replace HO370 := Qx (Qrd HO370.out)
            replace BK0 := Qx (Qw BK0.out)
            replace BK371 := Qx (Qw BK371.out)
            replace HB := Qx (Qd HB.out)
            refine start_ (n := 19) (S := fun w' => w'.cell? ⟨gb371, 0, none⟩ = some (.int .i64 t360) ∧ w'.cell? ⟨gb371, 1, none⟩ = some (.int .i64 t361) ∧ w'.cell? ⟨gb371, 2, none⟩ = some (.int .i64 t362) ∧ w'.cell? ⟨gb371, 3, none⟩ = some (.int .i64 t363) ∧ w'.cell? ⟨gb371, 4, none⟩ = some (.slice Ao59 t364.length co59) ∧ w'.cell? ⟨gb371, 5, none⟩ = some (.int .i64 t367) ∧ w'.cell? ⟨gb371, 6, none⟩ = some (.slice Ao60 t368.length co60) ∧ w'.cell? ⟨gb0_, 0, none⟩ = some (.int .i64 a0_0) ∧ w'.cell? ⟨gb0_, 1, none⟩ = some (.int .i64 a0_1) ∧ w'.cell? ⟨gb0_, 2, none⟩ = some (.int .i64 a0_2) ∧ w'.cell? ⟨gb0_, 3, none⟩ = some (.int .i64 a0_3) ∧ w'.cell? ⟨gb0_, 4, none⟩ = some (.slice A0_4 l0_4.length c0_4) ∧ w'.cell? ⟨gb0_, 5, none⟩ = some (.int .i64 a0_5) ∧ w'.cell? ⟨gb0_, 6, none⟩ = some (.slice A0_6 l0_6.length c0_6)) (ds := []) #[false, false, false, false, false, false, false, false, false, false, false, false, false, false, false, false, false, false, false] (by kernel_rfl) rfl rfl ⟨(Qc BK371.out 0).trans rfl, (Qc BK371.out 1).trans rfl, (Qc BK371.out 2).trans rfl, (Qc BK371.out 3).trans rfl, (Qc BK371.out 4).trans rfl, (Qc BK371.out 5).trans rfl, (Qc BK371.out 6).trans rfl, (Qc BK0.out 0).trans rfl, (Qc BK0.out 1).trans rfl, (Qc BK0.out 2).trans rfl, (Qc BK0.out 3).trans rfl, (Qc BK0.out 4).trans rfl, (Qc BK0.out 5).trans rfl, (Qc BK0.out 6).trans rfl⟩ (fun hHeld => ?_); refine with_tabW impl_Sparse_numbers.tab15 impl_Sparse_numbers.bits15 (fun HT_ HW_ => ?_)
            generalize w61.drew = w62 at HO_6 HO366 HO370 BK0 BK371 HB hHeld ⊢
            refine pr_ 0 126 19 1 ?_
            refine pr_ 1 127 19 3 ?_
            refine pr_ 3 129 19 11 ?_
            refine pr_ 4 130 19 27 ?_
            refine pr_ 5 131 19 59 ?_
            refine tq_ 2 128 19 63 HT_.out HW_.out (by kernel_rfl) hHeld ?_ rfl (by rintro w' ⟨s0, s1, s2, s3, s4, s5, s6, s7, s8, s9, s10, s11, s12, s13⟩; go_simp; with_reducible rfl)
            refine tq_ 6 132 19 127 HT_.out HW_.out (by kernel_rfl) hHeld ?_ rfl (by rintro w' ⟨s0, s1, s2, s3, s4, s5, s6, s7, s8, s9, s10, s11, s12, s13⟩; go_simp; with_reducible rfl)
            refine one_ (i := 7) (N := some 133) (bsA 19 255) rfl rfl (one_of HT_.out (by kernel_rfl)) (by decide) (fun K hK => ?_)
            refine goes_ Try.func45 (by kernel_rfl) rfl #[.agg #[.int .i64 t363, .slice Ao59 t364.length co59], .agg #[.int .i64 a0_3, .slice A0_4 l0_4.length c0_4]] (by rfl) rfl rfl (by (try simp only [List.map_toArray, List.map_cons, List.map_nil]); first | done | rfl | (simp only [List.length_drop, List.length_take]; rfl)) ?_
            with_reducible refine (impl_sameBits.calls kj40 t363 _ _ t364 a0_3 _ _ l0_4 true _ ?side1 ?side2 ?side3 ?side4 A50.out).mono ?_
            (case side1 => exact kD_ HO366)
            (case side2 => exact (Kd.R_reads' HO366.out).2.1)
            (case side3 => exact kC_ HR0_4)
            (case side4 => exact HC0_4.out)
            rintro e w63 ⟨rfl, hb⟩
            refine ⟨_, rfl, ?_⟩
            replace HO_6 := Qx (Qrb (kR_ HO_6) hb)
            replace HO366 := Qx (Qrb (kR_ HO366) hb)
            replace HO370 := Qx (Qrb (kR_ HO370) hb)
            replace BK0 := Qx (Qb (kB_ BK0) hb)
            replace BK371 := Qx (Qb (kB_ BK371) hb)
            replace HB := Qx (Qp hB_ hb)
            (try clear hb); (try clear hb2); (try clear hk); (try clear hi)
            refine hK.out _ _ ⟨(Qc BK371.out 0).trans rfl, (Qc BK371.out 1).trans rfl, (Qc BK371.out 2).trans rfl, (Qc BK371.out 3).trans rfl, (Qc BK371.out 4).trans rfl, (Qc BK371.out 5).trans rfl, (Qc BK371.out 6).trans rfl, (Qc BK0.out 0).trans rfl, (Qc BK0.out 1).trans rfl, (Qc BK0.out 2).trans rfl, (Qc BK0.out 3).trans rfl, (Qc BK0.out 4).trans rfl, (Qc BK0.out 5).trans rfl, (Qc BK0.out 6).trans rfl⟩ (fun hHeld => ?_)
            clear hK K
            refine norm_ (a' := ?_) ?_ ?_
            rotate_left
            ·show Act.put _ (some 133) _ = _
             simp only [Act.put, List.setIfInBounds_toArray, List.set_cons_zero, List.set_cons_succ, i64_w]
             rfl
            refine pr_ 8 134 19 511 ?_
            refine pr_ 9 135 19 1023 ?_
            refine pr_ 11 137 19 3071 ?_
            refine pr_ 12 138 19 7167 ?_
            refine pr_ 13 139 19 15359 ?_
            refine tq_ 10 136 19 16383 HT_.out HW_.out (by kernel_rfl) hHeld ?_ rfl (by rintro w' ⟨s0, s1, s2, s3, s4, s5, s6, s7, s8, s9, s10, s11, s12, s13⟩; go_simp; with_reducible rfl)
            refine tq_ 14 140 19 32767 HT_.out HW_.out (by kernel_rfl) hHeld ?_ rfl (by rintro w' ⟨s0, s1, s2, s3, s4, s5, s6, s7, s8, s9, s10, s11, s12, s13⟩; go_simp; with_reducible rfl)
            refine one_ (i := 15) (N := some 141) (bsA 19 65535) rfl rfl (one_of HT_.out (by kernel_rfl)) (by decide) (fun K hK => ?_)
            refine goes_ Try.func45 (by kernel_rfl) rfl #[.agg #[.int .i64 t367, .slice Ao60 t368.length co60], .agg #[.int .i64 a0_5, .slice A0_6 l0_6.length c0_6]] (by rfl) rfl rfl (by (try simp only [List.map_toArray, List.map_cons, List.map_nil]); first | done | rfl | (simp only [List.length_drop, List.length_take]; rfl)) ?_
            with_reducible refine (impl_sameBits.calls kj40 t367 _ _ t368 a0_5 _ _ l0_6 t373 _ ?side1 ?side2 ?side3 ?side4 A52.out).mono ?_
            (case side1 => exact kD_ HO370)
            (case side2 => exact (Kd.R_reads' HO370.out).2.1)
            (case side3 => exact kC_ HR0_6)
            (case side4 => exact HC0_6.out)
            rintro e w64 ⟨rfl, hb⟩
            refine ⟨_, rfl, ?_⟩
            replace HO_6 := Qx (Qrb (kR_ HO_6) hb)
            replace HO366 := Qx (Qrb (kR_ HO366) hb)
            replace HO370 := Qx (Qrb (kR_ HO370) hb)
            replace BK0 := Qx (Qb (kB_ BK0) hb)
            replace BK371 := Qx (Qb (kB_ BK371) hb)
            replace HB := Qx (Qp hB_ hb)
            (try clear hb); (try clear hb2); (try clear hk); (try clear hi)
            refine hK.out _ _ ⟨(Qc BK371.out 0).trans rfl, (Qc BK371.out 1).trans rfl, (Qc BK371.out 2).trans rfl, (Qc BK371.out 3).trans rfl, (Qc BK371.out 4).trans rfl, (Qc BK371.out 5).trans rfl, (Qc BK371.out 6).trans rfl, (Qc BK0.out 0).trans rfl, (Qc BK0.out 1).trans rfl, (Qc BK0.out 2).trans rfl, (Qc BK0.out 3).trans rfl, (Qc BK0.out 4).trans rfl, (Qc BK0.out 5).trans rfl, (Qc BK0.out 6).trans rfl⟩ (fun hHeld => ?_)
            clear hK K
            refine norm_ (a' := ?_) ?_ ?_
            rotate_left
            ·show Act.put _ (some 141) _ = _
             simp only [Act.put, List.setIfInBounds_toArray, List.set_cons_zero, List.set_cons_succ, i64_w]
             rfl
            refine pr_ 16 142 19 131071 ?_
            refine pr_ 17 2 19 262143 ?_
            refine pr_ 18 3 19 524287 ?_
            refine done_ (done_of HT_.out (by kernel_rfl)) ?_
            try go_wp2
            go_ret2
            exact ⟨_, rf_, by (with_reducible repeat (first | apply Kd.R_alloc | apply Kd.R_drewN | apply Qrd)); exact Qrm HO_6.out (fun _ hk => trivial), hB_⟩
           ·replace c51 := Bool.eq_false_iff.mpr c51; subst c51
            have H1 : (some (x6_2, false)) = some (r1, r2) := by rw [if_neg (show ¬ (false = true) by decide)] at H; exact H
            clear H; have H := H1; clear H1; simp only [Option.some.injEq, Prod.mk.injEq] at H; obtain ⟨rfl, rfl⟩ := H
            obtain ⟨hcz65_0, hcz65_1, hcz65_2, hcz65_3, hcz65_4, hcz65_5, hcz65_6, hfz65_0, hfz65_1, hfz65_2, hfz65_3, hfz65_4, hfz65_5, hfz65_6⟩ := cellsQ7_g1d (w := wc) BK0.out
            obtain ⟨Ao66, co66, eo66⟩ := Kd.R_slice HO_6.out; subst eo66
            try go_wp2_with (first | ((with_reducible refine gate_callee (f := 19) rfl ?_); refine gl_ 125 Try.func19 #[.slice Ao66 x6_2.length co66, .int .i64 a0_1] ?_; (with_reducible refine (impl_sparse.calls kj40 _ _ x6_2 a0_1 t360 t361 t362 t363 t364 t367 t368 _ ?side1 ?side2 A49.out).mono ?_); (case side1 => exact kD_ HO_6); (case side2 => exact (Kd.R_reads' HO_6.out).2.1); rintro e w67 ⟨v365, v369, rfl, ho0, ho1, hb⟩; refine ⟨_, rfl, ?_⟩; have HO366 := Qx (Kd.R_lower (Kd.R_new' ho0 (Kd.R_lt (kR_ HO_6))) (Qz hB_)); have HO370 := Qx (Kd.R_lower (Kd.R_new' ho1 (Kd.R_lt (kR_ HO_6))) (Qz hB_)); replace HO_6 := Qx (Qrm (Kd.R_told (Kd.R_told (Kd.R_old (kR_ HO_6) hb) (Kd.R_base ho0)) (Kd.R_base ho1)) (fun _ h_ => h_.1)); replace BK0 := Qx (Qb (kB_ BK0) hb); replace HB := Qx (Qp hB_ hb); (try clear hb); (try clear hb2); (try clear hk); (try clear hi); (try clear ho0); (try clear ho1)) | ((with_reducible refine gate_dst (N := 9) rfl ?_); refine bx_ 9 #[.int .i64 0, .int .i64 0, .int .i64 0, .int .i64 0, .slice none 0 0, .int .i64 0, .slice none 0 0] 30 ?_; intro gb371 hg w68 hbox hb; replace HO_6 := Qx (Qrb (kR_ HO_6) hb); replace HO366 := Qx (Qrb (kR_ HO366) hb); replace HO370 := Qx (Qrb (kR_ HO370) hb); have BK371 := Qx (hbox); have GW371 := Qx ((ge_ hg)); have GE371 := Qx ((ge_ hg)); replace HB := Qx (Qp hB_ hb); have NB0_371 := Qx ((ne_ hg BK0)); have NB371_0 := Qx ((nf_ hg BK0)); replace BK0 := Qx (Qb (kB_ BK0) hb); clear hb hbox hg; have hnb69 := NB371_0.out; have hnc69 := NB0_371.out; obtain ⟨hcz70_0, hcz70_1, hcz70_2, hcz70_3, hcz70_4, hcz70_5, hcz70_6, hfz70_0, hfz70_1, hfz70_2, hfz70_3, hfz70_4, hfz70_5, hfz70_6⟩ := cellsQ7_g1d (w := w68) BK371.out; obtain ⟨Ao71, co71, eo71⟩ := Kd.R_slice HO366.out; subst eo71; obtain ⟨Ao72, co72, eo72⟩ := Kd.R_slice HO370.out; subst eo72))
            have n0_ : Aside0 (Kd.R (Kd.int .i64) 3 (((((((w68.setCell ⟨gb371, 0, none⟩ (.int .i64 t360)).setCell ⟨gb371, 1, none⟩ (.int .i64 t361)).setCell ⟨gb371, 2, none⟩ (.int .i64 t362)).setCell ⟨gb371, 3, none⟩ (.int .i64 t363)).setCell ⟨gb371, 4, none⟩ (.slice Ao71 t364.length co71)).setCell ⟨gb371, 5, none⟩ (.int .i64 t367)).setCell ⟨gb371, 6, none⟩ (.slice Ao72 t368.length co72)) w.heap.size (fun k_ => some k_ ≠ (.slice Ao71 t364.length co71 : Value).ownBlock ∧ some k_ ≠ (.slice Ao72 t368.length co72 : Value).ownBlock) (.slice Ao66 x6_2.length co66) x6_2) := ⟨by (with_reducible repeat (first | apply Kd.R_alloc | apply Kd.R_drewN | apply Qrd)); exact Qrm (farsQ7_g1d (Kd.R_types HO_6.out BK371.out (by decide)) (fun _ hk => hk.2) (.int .i64 t360) (.int .i64 t361) (.int .i64 t362) (.int .i64 t363) (.slice Ao71 t364.length co71) (.int .i64 t367) (.slice Ao72 t368.length co72)) (fun _ hk => ⟨hk.1.1.2, hk.1.2⟩)⟩
            have n1_ : Aside0 (Kd.R (Kd.int .i64) 3 (((((((w68.setCell ⟨gb371, 0, none⟩ (.int .i64 t360)).setCell ⟨gb371, 1, none⟩ (.int .i64 t361)).setCell ⟨gb371, 2, none⟩ (.int .i64 t362)).setCell ⟨gb371, 3, none⟩ (.int .i64 t363)).setCell ⟨gb371, 4, none⟩ (.slice Ao71 t364.length co71)).setCell ⟨gb371, 5, none⟩ (.int .i64 t367)).setCell ⟨gb371, 6, none⟩ (.slice Ao72 t368.length co72)) w.heap.size (fun k_ => some k_ ≠ (.slice Ao66 x6_2.length co66 : Value).ownBlock ∧ some k_ ≠ (.slice Ao72 t368.length co72 : Value).ownBlock) (.slice Ao71 t364.length co71) t364) := ⟨by (with_reducible repeat (first | apply Kd.R_alloc | apply Kd.R_drewN | apply Qrd)); exact Qrm (farsQ7_g1d (Kd.R_types HO366.out BK371.out (by decide)) (fun _ hk => hk.2) (.int .i64 t360) (.int .i64 t361) (.int .i64 t362) (.int .i64 t363) (.slice Ao71 t364.length co71) (.int .i64 t367) (.slice Ao72 t368.length co72)) (fun _ hk => ⟨hk.1.2, hk.1.1⟩)⟩
            have n2_ : Aside0 (Kd.R (Kd.int .i64) 3 (((((((w68.setCell ⟨gb371, 0, none⟩ (.int .i64 t360)).setCell ⟨gb371, 1, none⟩ (.int .i64 t361)).setCell ⟨gb371, 2, none⟩ (.int .i64 t362)).setCell ⟨gb371, 3, none⟩ (.int .i64 t363)).setCell ⟨gb371, 4, none⟩ (.slice Ao71 t364.length co71)).setCell ⟨gb371, 5, none⟩ (.int .i64 t367)).setCell ⟨gb371, 6, none⟩ (.slice Ao72 t368.length co72)) w.heap.size (fun k_ => some k_ ≠ (.slice Ao66 x6_2.length co66 : Value).ownBlock ∧ some k_ ≠ (.slice Ao71 t364.length co71 : Value).ownBlock) (.slice Ao72 t368.length co72) t368) := ⟨by (with_reducible repeat (first | apply Kd.R_alloc | apply Kd.R_drewN | apply Qrd)); exact Qrm (farsQ7_g1d (Kd.R_types HO370.out BK371.out (by decide)) (fun _ hk => hk.2) (.int .i64 t360) (.int .i64 t361) (.int .i64 t362) (.int .i64 t363) (.slice Ao71 t364.length co71) (.int .i64 t367) (.slice Ao72 t368.length co72)) (fun _ hk => ⟨hk.1.2, hk.1.1⟩)⟩
            have n3_ : Aside0 ((((((((w68.setCell ⟨gb371, 0, none⟩ (.int .i64 t360)).setCell ⟨gb371, 1, none⟩ (.int .i64 t361)).setCell ⟨gb371, 2, none⟩ (.int .i64 t362)).setCell ⟨gb371, 3, none⟩ (.int .i64 t363)).setCell ⟨gb371, 4, none⟩ (.slice Ao71 t364.length co71)).setCell ⟨gb371, 5, none⟩ (.int .i64 t367)).setCell ⟨gb371, 6, none⟩ (.slice Ao72 t368.length co72)).heap[gb0_]? = some (.cells #[.int .i64 a0_0, .int .i64 a0_1, .int .i64 a0_2, .int .i64 a0_3, .slice A0_4 l0_4.length c0_4, .int .i64 a0_5, .slice A0_6 l0_6.length c0_6] 30 (0, 0))) := ⟨by (with_reducible repeat (first | refine Qm ?_ _ | refine Qw ?_ | refine Qk ?_ _)); refine Qr ?_ NB0_371.out _; (with_reducible repeat (first | refine Qm ?_ _ | refine Qw ?_ | refine Qk ?_ _)); refine Qr ?_ NB0_371.out _; (with_reducible repeat (first | refine Qm ?_ _ | refine Qw ?_ | refine Qk ?_ _)); refine Qr ?_ NB0_371.out _; (with_reducible repeat (first | refine Qm ?_ _ | refine Qw ?_ | refine Qk ?_ _)); refine Qr ?_ NB0_371.out _; (with_reducible repeat (first | refine Qm ?_ _ | refine Qw ?_ | refine Qk ?_ _)); refine Qr ?_ NB0_371.out _; (with_reducible repeat (first | refine Qm ?_ _ | refine Qw ?_ | refine Qk ?_ _)); refine Qr ?_ NB0_371.out _; (with_reducible repeat (first | refine Qm ?_ _ | refine Qw ?_ | refine Qk ?_ _)); refine Qr ?_ NB0_371.out _; (with_reducible repeat (first | refine Qm ?_ _ | refine Qw ?_ | refine Qk ?_ _)); exact BK0.out⟩
            have n4_ : Aside0 ((((((((w68.setCell ⟨gb371, 0, none⟩ (.int .i64 t360)).setCell ⟨gb371, 1, none⟩ (.int .i64 t361)).setCell ⟨gb371, 2, none⟩ (.int .i64 t362)).setCell ⟨gb371, 3, none⟩ (.int .i64 t363)).setCell ⟨gb371, 4, none⟩ (.slice Ao71 t364.length co71)).setCell ⟨gb371, 5, none⟩ (.int .i64 t367)).setCell ⟨gb371, 6, none⟩ (.slice Ao72 t368.length co72)).heap[gb371]? = some (.cells #[.int .i64 t360, .int .i64 t361, .int .i64 t362, .int .i64 t363, .slice Ao71 t364.length co71, .int .i64 t367, .slice Ao72 t368.length co72] 30 (0, 0))) := ⟨by (with_reducible repeat (first | refine Qm ?_ _ | refine Qw ?_ | refine Qk ?_ _)); refine Qu (cs := #[.int .i64 t360, .int .i64 t361, .int .i64 t362, .int .i64 t363, .slice Ao71 t364.length co71, .int .i64 t367, .slice none 0 0]) ?_ 6 _ rfl; (with_reducible repeat (first | refine Qm ?_ _ | refine Qw ?_ | refine Qk ?_ _)); refine Qu (cs := #[.int .i64 t360, .int .i64 t361, .int .i64 t362, .int .i64 t363, .slice Ao71 t364.length co71, .int .i64 0, .slice none 0 0]) ?_ 5 _ rfl; (with_reducible repeat (first | refine Qm ?_ _ | refine Qw ?_ | refine Qk ?_ _)); refine Qu (cs := #[.int .i64 t360, .int .i64 t361, .int .i64 t362, .int .i64 t363, .slice none 0 0, .int .i64 0, .slice none 0 0]) ?_ 4 _ rfl; (with_reducible repeat (first | refine Qm ?_ _ | refine Qw ?_ | refine Qk ?_ _)); refine Qu (cs := #[.int .i64 t360, .int .i64 t361, .int .i64 t362, .int .i64 0, .slice none 0 0, .int .i64 0, .slice none 0 0]) ?_ 3 _ rfl; (with_reducible repeat (first | refine Qm ?_ _ | refine Qw ?_ | refine Qk ?_ _)); refine Qu (cs := #[.int .i64 t360, .int .i64 t361, .int .i64 0, .int .i64 0, .slice none 0 0, .int .i64 0, .slice none 0 0]) ?_ 2 _ rfl; (with_reducible repeat (first | refine Qm ?_ _ | refine Qw ?_ | refine Qk ?_ _)); refine Qu (cs := #[.int .i64 t360, .int .i64 0, .int .i64 0, .int .i64 0, .slice none 0 0, .int .i64 0, .slice none 0 0]) ?_ 1 _ rfl; (with_reducible repeat (first | refine Qm ?_ _ | refine Qw ?_ | refine Qk ?_ _)); refine Qu (cs := #[.int .i64 0, .int .i64 0, .int .i64 0, .int .i64 0, .slice none 0 0, .int .i64 0, .slice none 0 0]) ?_ 0 _ rfl; (with_reducible repeat (first | refine Qm ?_ _ | refine Qw ?_ | refine Qk ?_ _)); exact BK371.out⟩
            have n5_ : Aside0 (Below w.heap.size w (((((((w68.setCell ⟨gb371, 0, none⟩ (.int .i64 t360)).setCell ⟨gb371, 1, none⟩ (.int .i64 t361)).setCell ⟨gb371, 2, none⟩ (.int .i64 t362)).setCell ⟨gb371, 3, none⟩ (.int .i64 t363)).setCell ⟨gb371, 4, none⟩ (.slice Ao71 t364.length co71)).setCell ⟨gb371, 5, none⟩ (.int .i64 t367)).setCell ⟨gb371, 6, none⟩ (.slice Ao72 t368.length co72))) := ⟨hB_⟩
            (try clear HO_6); (try clear HO366); (try clear HO370); (try clear BK0); (try clear BK371); (try clear HB)
            generalize (((((((w68.setCell ⟨gb371, 0, none⟩ (.int .i64 t360)).setCell ⟨gb371, 1, none⟩ (.int .i64 t361)).setCell ⟨gb371, 2, none⟩ (.int .i64 t362)).setCell ⟨gb371, 3, none⟩ (.int .i64 t363)).setCell ⟨gb371, 4, none⟩ (.slice Ao71 t364.length co71)).setCell ⟨gb371, 5, none⟩ (.int .i64 t367)).setCell ⟨gb371, 6, none⟩ (.slice Ao72 t368.length co72)) = w73 at n0_ n1_ n2_ n3_ n4_ n5_ ⊢
            have HO_6 := n0_; have HO366 := n1_; have HO370 := n2_; have BK0 := n3_; have BK371 := n4_; have HB := n5_; clear n0_ n1_ n2_ n3_ n4_ n5_
            replace HO_6 := Qx (Qrd HO_6.out)
            replace HO366 := Qx (Qrd HO366.out)
            replace HO370 := Qx (Qrd HO370.out)
            replace BK0 := Qx (Qw BK0.out)
            replace BK371 := Qx (Qw BK371.out)
            replace HB := Qx (Qd HB.out)
            refine start_ (n := 19) (S := fun w' => w'.cell? ⟨gb371, 0, none⟩ = some (.int .i64 t360) ∧ w'.cell? ⟨gb371, 1, none⟩ = some (.int .i64 t361) ∧ w'.cell? ⟨gb371, 2, none⟩ = some (.int .i64 t362) ∧ w'.cell? ⟨gb371, 3, none⟩ = some (.int .i64 t363) ∧ w'.cell? ⟨gb371, 4, none⟩ = some (.slice Ao71 t364.length co71) ∧ w'.cell? ⟨gb371, 5, none⟩ = some (.int .i64 t367) ∧ w'.cell? ⟨gb371, 6, none⟩ = some (.slice Ao72 t368.length co72) ∧ w'.cell? ⟨gb0_, 0, none⟩ = some (.int .i64 a0_0) ∧ w'.cell? ⟨gb0_, 1, none⟩ = some (.int .i64 a0_1) ∧ w'.cell? ⟨gb0_, 2, none⟩ = some (.int .i64 a0_2) ∧ w'.cell? ⟨gb0_, 3, none⟩ = some (.int .i64 a0_3) ∧ w'.cell? ⟨gb0_, 4, none⟩ = some (.slice A0_4 l0_4.length c0_4) ∧ w'.cell? ⟨gb0_, 5, none⟩ = some (.int .i64 a0_5) ∧ w'.cell? ⟨gb0_, 6, none⟩ = some (.slice A0_6 l0_6.length c0_6)) (ds := []) #[false, false, false, false, false, false, false, false, false, false, false, false, false, false, false, false, false, false, false] (by kernel_rfl) rfl rfl ⟨(Qc BK371.out 0).trans rfl, (Qc BK371.out 1).trans rfl, (Qc BK371.out 2).trans rfl, (Qc BK371.out 3).trans rfl, (Qc BK371.out 4).trans rfl, (Qc BK371.out 5).trans rfl, (Qc BK371.out 6).trans rfl, (Qc BK0.out 0).trans rfl, (Qc BK0.out 1).trans rfl, (Qc BK0.out 2).trans rfl, (Qc BK0.out 3).trans rfl, (Qc BK0.out 4).trans rfl, (Qc BK0.out 5).trans rfl, (Qc BK0.out 6).trans rfl⟩ (fun hHeld => ?_); refine with_tabW impl_Sparse_numbers.tab15 impl_Sparse_numbers.bits15 (fun HT_ HW_ => ?_)
            generalize w73.drew = w74 at HO_6 HO366 HO370 BK0 BK371 HB hHeld ⊢
            refine pr_ 0 126 19 1 ?_
            refine pr_ 1 127 19 3 ?_
            refine pr_ 3 129 19 11 ?_
            refine pr_ 4 130 19 27 ?_
            refine pr_ 5 131 19 59 ?_
            refine tq_ 2 128 19 63 HT_.out HW_.out (by kernel_rfl) hHeld ?_ rfl (by rintro w' ⟨s0, s1, s2, s3, s4, s5, s6, s7, s8, s9, s10, s11, s12, s13⟩; go_simp; with_reducible rfl)
            refine tq_ 6 132 19 127 HT_.out HW_.out (by kernel_rfl) hHeld ?_ rfl (by rintro w' ⟨s0, s1, s2, s3, s4, s5, s6, s7, s8, s9, s10, s11, s12, s13⟩; go_simp; with_reducible rfl)
            refine one_ (i := 7) (N := some 133) (bsA 19 255) rfl rfl (one_of HT_.out (by kernel_rfl)) (by decide) (fun K hK => ?_)
            refine goes_ Try.func45 (by kernel_rfl) rfl #[.agg #[.int .i64 t363, .slice Ao71 t364.length co71], .agg #[.int .i64 a0_3, .slice A0_4 l0_4.length c0_4]] (by rfl) rfl rfl (by (try simp only [List.map_toArray, List.map_cons, List.map_nil]); first | done | rfl | (simp only [List.length_drop, List.length_take]; rfl)) ?_
            with_reducible refine (impl_sameBits.calls kj40 t363 _ _ t364 a0_3 _ _ l0_4 false _ ?side1 ?side2 ?side3 ?side4 A50.out).mono ?_
            (case side1 => exact kD_ HO366)
            (case side2 => exact (Kd.R_reads' HO366.out).2.1)
            (case side3 => exact kC_ HR0_4)
            (case side4 => exact HC0_4.out)
            rintro e w75 ⟨rfl, hb⟩
            refine ⟨_, rfl, ?_⟩
            replace HO_6 := Qx (Qrb (kR_ HO_6) hb)
            replace HO366 := Qx (Qrb (kR_ HO366) hb)
            replace HO370 := Qx (Qrb (kR_ HO370) hb)
            replace BK0 := Qx (Qb (kB_ BK0) hb)
            replace BK371 := Qx (Qb (kB_ BK371) hb)
            replace HB := Qx (Qp hB_ hb)
            (try clear hb); (try clear hb2); (try clear hk); (try clear hi)
            refine hK.out _ _ ⟨(Qc BK371.out 0).trans rfl, (Qc BK371.out 1).trans rfl, (Qc BK371.out 2).trans rfl, (Qc BK371.out 3).trans rfl, (Qc BK371.out 4).trans rfl, (Qc BK371.out 5).trans rfl, (Qc BK371.out 6).trans rfl, (Qc BK0.out 0).trans rfl, (Qc BK0.out 1).trans rfl, (Qc BK0.out 2).trans rfl, (Qc BK0.out 3).trans rfl, (Qc BK0.out 4).trans rfl, (Qc BK0.out 5).trans rfl, (Qc BK0.out 6).trans rfl⟩ (fun hHeld => ?_)
            clear hK K
            refine norm_ (a' := ?_) ?_ ?_
            rotate_left
            ·show Act.put _ (some 133) _ = _
             simp only [Act.put, List.setIfInBounds_toArray, List.set_cons_zero, List.set_cons_succ, i64_w]
             rfl
            refine pr_ 8 134 19 511 ?_
            refine ur_ 9 135 19 1023 ?_
            refine ur_ 10 136 19 2047 ?_
            refine ur_ 11 137 19 4095 ?_
            refine ur_ 12 138 19 8191 ?_
            refine ur_ 13 139 19 16383 ?_
            refine ur_ 14 140 19 32767 ?_
            refine ur_ 15 141 19 65535 ?_
            refine pr_ 16 142 19 131071 ?_
            refine pr_ 17 2 19 262143 ?_
            refine pr_ 18 3 19 524287 ?_
            refine done_ (done_of HT_.out (by kernel_rfl)) ?_
            try go_wp2
            go_ret2
            exact ⟨_, rf_, by (with_reducible repeat (first | apply Kd.R_alloc | apply Kd.R_drewN | apply Qrd)); exact Qrm HO_6.out (fun _ hk => trivial), hB_⟩
/-! ### impl_SparseList: function 9 -/
def impl_SparseList.f (k : Nat) (a0_0 : Int) (a0_1 : Int) (a0_2 : Int) (a0_3 : Int) (l0_4 : List Int) (a0_5 : Int) (l0_6 : List Int) : Option (List Int × Bool) := (impl_Sparse_numbers.f k a0_0 a0_1 a0_2 a0_3 l0_4 a0_5 l0_6).bind fun bt375 => (if bt375.2 = true then (some (bt375.1, true)) else (some (([] : List Int), false)))
theorem impl_SparseList.mono : ∀ a0 a1 a2 a3 a4 a5 a6 k, LeO (impl_SparseList.f k a0 a1 a2 a3 a4 a5 a6) (impl_SparseList.f (k + 1) a0 a1 a2 a3 a4 a5 a6) := by
  intro a0 a1 a2 a3 a4 a5 a6 k
  unfold impl_SparseList.f
  repeat' first
      | (with_reducible exact impl_Sparse_numbers.mono _ _ _ _ _ _ _ _)
      | (with_reducible exact LeO.refl _)
      | (with_reducible exact LeO.none _)
      | (with_reducible refine LeO.ite ?_ ?_)
      | (with_reducible refine LeO.bind ?_ (fun _ => ?_))
      | exact impl_Sparse_numbers.mono _ _ _ _ _ _ _ _
      | exact LeO.none _
      | refine LeO.ite ?_ ?_
      | refine LeO.bind ?_ (fun _ => ?_)
noncomputable def impl_SparseList.F (a0_0 : Int) (a0_1 : Int) (a0_2 : Int) (a0_3 : Int) (l0_4 : List Int) (a0_5 : Int) (l0_6 : List Int) : Option (List Int × Bool) := lim fun k => impl_SparseList.f k a0_0 a0_1 a0_2 a0_3 l0_4 a0_5 l0_6
theorem impl_SparseList.F_sup (a0_0 : Int) (a0_1 : Int) (a0_2 : Int) (a0_3 : Int) (l0_4 : List Int) (a0_5 : Int) (l0_6 : List Int) : Sup (fun k => impl_SparseList.f k a0_0 a0_1 a0_2 a0_3 l0_4 a0_5 l0_6) (impl_SparseList.F a0_0 a0_1 a0_2 a0_3 l0_4 a0_5 l0_6) := Sup.of_mono fun k => impl_SparseList.mono a0_0 a0_1 a0_2 a0_3 l0_4 a0_5 l0_6 k
theorem impl_SparseList.F_eq (a0_0 : Int) (a0_1 : Int) (a0_2 : Int) (a0_3 : Int) (l0_4 : List Int) (a0_5 : Int) (l0_6 : List Int) : impl_SparseList.F a0_0 a0_1 a0_2 a0_3 l0_4 a0_5 l0_6 = (impl_Sparse_numbers.F a0_0 a0_1 a0_2 a0_3 l0_4 a0_5 l0_6).bind fun bt375 => (if bt375.2 = true then (some (bt375.1, true)) else (some (([] : List Int), false))) := by
  refine Sup.unique (impl_SparseList.F_sup a0_0 a0_1 a0_2 a0_3 l0_4 a0_5 l0_6) (Sup.congr (g' := fun k => (impl_Sparse_numbers.f k a0_0 a0_1 a0_2 a0_3 l0_4 a0_5 l0_6).bind fun bt375 => (if bt375.2 = true then (some (bt375.1, true)) else (some (([] : List Int), false)))) (fun k => by first | rfl | simp only [impl_SparseList.f]) ?_)
  repeat' first
    | (with_reducible exact impl_Sparse_numbers.F_sup _ _ _ _ _ _ _)
    | (with_reducible refine Sup.ite ?_ ?_)
    | (with_reducible refine Sup.bind ?_ (fun _ => ?_))
    | (with_reducible exact Sup.const _)
    | exact impl_Sparse_numbers.F_sup _ _ _ _ _ _ _
    | exact Sup.const _
set_option maxHeartbeats 8000000 in
set_option maxRecDepth 100000 in
theorem impl_SparseList.calls (k : Nat) (a0_0 : Int) (a0_1 : Int) (a0_2 : Int) (a0_3 : Int) (A0_4 : Option Addr) (c0_4 : Nat) (l0_4 : List Int) (a0_5 : Int) (A0_6 : Option Addr) (c0_6 : Nat) (l0_6 : List Int) (r1 : List Int) (r2 : Bool) (w : World) (hr0_4 : Kd.C (Kd.int .i64) w A0_4 l0_4.length l0_4) (hc0_4 : l0_4.length ≤ c0_4) (hr0_6 : Kd.C (Kd.int .i64) w A0_6 l0_6.length l0_6) (hc0_6 : l0_6.length ≤ c0_6) (h : impl_SparseList.f k a0_0 a0_1 a0_2 a0_3 l0_4 a0_5 l0_6 = some (r1, r2)) :
    Calls Try.prog 9 #[.agg #[.int .i64 a0_0, .int .i64 a0_1, .int .i64 a0_2, .int .i64 a0_3, .slice A0_4 l0_4.length c0_4, .int .i64 a0_5, .slice A0_6 l0_6.length c0_6]] w fun e w' => ∃ v0_ : Value, e = .returned (.tuple #[v0_, .bool r2]) ∧ Kd.R (Kd.int .i64) 3 w' w.heap.size (fun _ => True) v0_ r1 ∧ Below w.heap.size w w' := by
  have hu30 := Try.underlying30; have HR0_4 := Qx hr0_4; have HC0_4 := Qx hc0_4; clear hr0_4 hc0_4; have HR0_6 := Qx hr0_6; have HC0_6 := Qx hc0_6; clear hr0_6 hc0_6
  have HB := Qx (Below.refl w.heap.size w)
  have H : ((impl_Sparse_numbers.f k a0_0 a0_1 a0_2 a0_3 l0_4 a0_5 l0_6).bind fun bt375 => (if bt375.2 = true then (some (bt375.1, true)) else (some (([] : List Int), false)))) = some (r1, r2) := h
  clear h; replace H := Option.bind_eq_some_iff.mp H; obtain ⟨⟨t375, t378⟩, A20, H⟩ := H
  have A2 := Qx A20; clear A20
  by_cases c3 : t378 = true
  ·subst c3
   have H1 : (some (t375, true)) = some (r1, r2) := by rw [if_pos rfl] at H; exact H
   clear H; have H := H1; clear H1; simp only [Option.some.injEq, Prod.mk.injEq] at H; obtain ⟨rfl, rfl⟩ := H
   go_enter Try.func9, Try.ntmps9
   go_wp2_with (first | ((with_reducible refine gate_dst (N := 1) rfl ?_); refine bx_ 1 #[.int .i64 a0_0, .int .i64 a0_1, .int .i64 a0_2, .int .i64 a0_3, .slice A0_4 l0_4.length c0_4, .int .i64 a0_5, .slice A0_6 l0_6.length c0_6] 30 ?_; intro gb374 hg w4 hbox hb; have BK374 := Qx (hbox); have GW374 := Qx ((ge_ hg)); have GE374 := Qx ((ge_ hg)); replace HB := Qx (Qp hB_ hb); clear hb hbox hg) | ((with_reducible refine gate_callee (f := 23) rfl ?_); refine gl_ 7 Try.func23 #[.pointer (some ⟨gb374, 0, none⟩)] ?_; (with_reducible refine (impl_Sparse_numbers.calls k gb374 a0_0 a0_1 a0_2 a0_3 A0_4 c0_4 l0_4 a0_5 A0_6 c0_6 l0_6 t375 true _ ?side1 ?side2 ?side3 ?side4 ?side5 A2.out).mono ?_); (case side1 => exact kC_ HR0_4); (case side2 => exact HC0_4.out); (case side3 => exact kC_ HR0_6); (case side4 => exact HC0_6.out); (case side5 => exact (kB_ BK374)); rintro e w5 ⟨v376, rfl, ho0, hb⟩; refine ⟨_, rfl, ?_⟩; have HO377 := Qx (Kd.R_lower ho0 (Qz hB_)); replace BK374 := Qx (Qb (kB_ BK374) hb); replace HB := Qx (Qp hB_ hb); (try clear hb); (try clear hb2); (try clear hk); (try clear hi); (try clear ho0)))
   go_ret2
   exact ⟨_, rf_, kR_ HO377, hB_⟩
  ·replace c3 := Bool.eq_false_iff.mpr c3; subst c3
   have H1 : (some (([] : List Int), false)) = some (r1, r2) := by rw [if_neg (show ¬ (false = true) by decide)] at H; exact H
   clear H; have H := H1; clear H1; simp only [Option.some.injEq, Prod.mk.injEq] at H; obtain ⟨rfl, rfl⟩ := H
   go_enter Try.func9, Try.ntmps9
   go_wp2_with (first | ((with_reducible refine gate_dst (N := 1) rfl ?_); refine bx_ 1 #[.int .i64 a0_0, .int .i64 a0_1, .int .i64 a0_2, .int .i64 a0_3, .slice A0_4 l0_4.length c0_4, .int .i64 a0_5, .slice A0_6 l0_6.length c0_6] 30 ?_; intro gb374 hg w6 hbox hb; have BK374 := Qx (hbox); have GW374 := Qx ((ge_ hg)); have GE374 := Qx ((ge_ hg)); replace HB := Qx (Qp hB_ hb); clear hb hbox hg) | ((with_reducible refine gate_callee (f := 23) rfl ?_); refine gl_ 7 Try.func23 #[.pointer (some ⟨gb374, 0, none⟩)] ?_; (with_reducible refine (impl_Sparse_numbers.calls k gb374 a0_0 a0_1 a0_2 a0_3 A0_4 c0_4 l0_4 a0_5 A0_6 c0_6 l0_6 t375 false _ ?side1 ?side2 ?side3 ?side4 ?side5 A2.out).mono ?_); (case side1 => exact kC_ HR0_4); (case side2 => exact HC0_4.out); (case side3 => exact kC_ HR0_6); (case side4 => exact HC0_6.out); (case side5 => exact (kB_ BK374)); rintro e w7 ⟨v376, rfl, ho0, hb⟩; refine ⟨_, rfl, ?_⟩; have HO377 := Qx (Kd.R_lower ho0 (Qz hB_)); replace BK374 := Qx (Qb (kB_ BK374) hb); replace HB := Qx (Qp hB_ hb); (try clear hb); (try clear hb2); (try clear hk); (try clear hi); (try clear ho0)))
   go_ret2
   exact ⟨_, rf_, by first | exact Kd.R_nil _ _ _ _ _ | exact Kd.N_nil _ _ _ _ _ | exact Kd.V_nil _ _ _ _ _ | exact Kd.Q_nil _ _ _ _ _ | exact Kd.S_nil _ _ _ _ _, hB_⟩
/-! ### impl_IsSparse: function 24 -/
def impl_IsSparse.f (k : Nat) (a0_0 : Int) (a0_1 : Int) (a0_2 : Int) (a0_3 : Int) (l0_4 : List Int) (a0_5 : Int) (l0_6 : List Int) : Option (Bool) := (impl_Sparse_numbers.f k a0_0 a0_1 a0_2 a0_3 l0_4 a0_5 l0_6).bind fun bt380 => (some bt380.2)
theorem impl_IsSparse.mono : ∀ a0 a1 a2 a3 a4 a5 a6 k, LeO (impl_IsSparse.f k a0 a1 a2 a3 a4 a5 a6) (impl_IsSparse.f (k + 1) a0 a1 a2 a3 a4 a5 a6) := by
  intro a0 a1 a2 a3 a4 a5 a6 k
  unfold impl_IsSparse.f
  repeat' first
      | (with_reducible exact impl_Sparse_numbers.mono _ _ _ _ _ _ _ _)
      | (with_reducible exact LeO.refl _)
      | (with_reducible exact LeO.none _)
      | (with_reducible refine LeO.ite ?_ ?_)
      | (with_reducible refine LeO.bind ?_ (fun _ => ?_))
      | exact impl_Sparse_numbers.mono _ _ _ _ _ _ _ _
      | exact LeO.none _
      | refine LeO.ite ?_ ?_
      | refine LeO.bind ?_ (fun _ => ?_)
noncomputable def impl_IsSparse.F (a0_0 : Int) (a0_1 : Int) (a0_2 : Int) (a0_3 : Int) (l0_4 : List Int) (a0_5 : Int) (l0_6 : List Int) : Option (Bool) := lim fun k => impl_IsSparse.f k a0_0 a0_1 a0_2 a0_3 l0_4 a0_5 l0_6
theorem impl_IsSparse.F_sup (a0_0 : Int) (a0_1 : Int) (a0_2 : Int) (a0_3 : Int) (l0_4 : List Int) (a0_5 : Int) (l0_6 : List Int) : Sup (fun k => impl_IsSparse.f k a0_0 a0_1 a0_2 a0_3 l0_4 a0_5 l0_6) (impl_IsSparse.F a0_0 a0_1 a0_2 a0_3 l0_4 a0_5 l0_6) := Sup.of_mono fun k => impl_IsSparse.mono a0_0 a0_1 a0_2 a0_3 l0_4 a0_5 l0_6 k
theorem impl_IsSparse.F_eq (a0_0 : Int) (a0_1 : Int) (a0_2 : Int) (a0_3 : Int) (l0_4 : List Int) (a0_5 : Int) (l0_6 : List Int) : impl_IsSparse.F a0_0 a0_1 a0_2 a0_3 l0_4 a0_5 l0_6 = (impl_Sparse_numbers.F a0_0 a0_1 a0_2 a0_3 l0_4 a0_5 l0_6).bind fun bt380 => (some bt380.2) := by
  refine Sup.unique (impl_IsSparse.F_sup a0_0 a0_1 a0_2 a0_3 l0_4 a0_5 l0_6) (Sup.congr (g' := fun k => (impl_Sparse_numbers.f k a0_0 a0_1 a0_2 a0_3 l0_4 a0_5 l0_6).bind fun bt380 => (some bt380.2)) (fun k => by first | rfl | simp only [impl_IsSparse.f]) ?_)
  repeat' first
    | (with_reducible exact impl_Sparse_numbers.F_sup _ _ _ _ _ _ _)
    | (with_reducible refine Sup.ite ?_ ?_)
    | (with_reducible refine Sup.bind ?_ (fun _ => ?_))
    | (with_reducible exact Sup.const _)
    | exact impl_Sparse_numbers.F_sup _ _ _ _ _ _ _
    | exact Sup.const _
set_option maxHeartbeats 8000000 in
set_option maxRecDepth 100000 in
theorem impl_IsSparse.calls (k : Nat) (a0_0 : Int) (a0_1 : Int) (a0_2 : Int) (a0_3 : Int) (A0_4 : Option Addr) (c0_4 : Nat) (l0_4 : List Int) (a0_5 : Int) (A0_6 : Option Addr) (c0_6 : Nat) (l0_6 : List Int) (r : Bool) (w : World) (hr0_4 : Kd.C (Kd.int .i64) w A0_4 l0_4.length l0_4) (hc0_4 : l0_4.length ≤ c0_4) (hr0_6 : Kd.C (Kd.int .i64) w A0_6 l0_6.length l0_6) (hc0_6 : l0_6.length ≤ c0_6) (h : impl_IsSparse.f k a0_0 a0_1 a0_2 a0_3 l0_4 a0_5 l0_6 = some r) :
    Calls Try.prog 24 #[.agg #[.int .i64 a0_0, .int .i64 a0_1, .int .i64 a0_2, .int .i64 a0_3, .slice A0_4 l0_4.length c0_4, .int .i64 a0_5, .slice A0_6 l0_6.length c0_6]] w fun e w' => e = .returned (.bool r) ∧ Below w.heap.size w w' := by
  have hu30 := Try.underlying30; have HR0_4 := Qx hr0_4; have HC0_4 := Qx hc0_4; clear hr0_4 hc0_4; have HR0_6 := Qx hr0_6; have HC0_6 := Qx hc0_6; clear hr0_6 hc0_6
  have HB := Qx (Below.refl w.heap.size w)
  have H : ((impl_Sparse_numbers.f k a0_0 a0_1 a0_2 a0_3 l0_4 a0_5 l0_6).bind fun bt380 => (some bt380.2)) = some r := h
  clear h; replace H := Option.bind_eq_some_iff.mp H; obtain ⟨⟨t380, t383⟩, A20, H⟩ := H
  have A2 := Qx A20; clear A20; obtain rfl := Option.some.inj H
  go_enter Try.func24, Try.ntmps24
  go_wp2_with (first | ((with_reducible refine gate_dst (N := 1) rfl ?_); refine bx_ 1 #[.int .i64 a0_0, .int .i64 a0_1, .int .i64 a0_2, .int .i64 a0_3, .slice A0_4 l0_4.length c0_4, .int .i64 a0_5, .slice A0_6 l0_6.length c0_6] 30 ?_; intro gb379 hg w3 hbox hb; have BK379 := Qx (hbox); have GW379 := Qx ((ge_ hg)); have GE379 := Qx ((ge_ hg)); replace HB := Qx (Qp hB_ hb); clear hb hbox hg) | ((with_reducible refine gate_callee (f := 23) rfl ?_); refine gl_ 6 Try.func23 #[.pointer (some ⟨gb379, 0, none⟩)] ?_; (with_reducible refine (impl_Sparse_numbers.calls k gb379 a0_0 a0_1 a0_2 a0_3 A0_4 c0_4 l0_4 a0_5 A0_6 c0_6 l0_6 t380 t383 _ ?side1 ?side2 ?side3 ?side4 ?side5 A2.out).mono ?_); (case side1 => exact kC_ HR0_4); (case side2 => exact HC0_4.out); (case side3 => exact kC_ HR0_6); (case side4 => exact HC0_6.out); (case side5 => exact (kB_ BK379)); rintro e w4 ⟨v381, rfl, ho0, hb⟩; refine ⟨_, rfl, ?_⟩; have HO382 := Qx (Kd.R_lower ho0 (Qz hB_)); replace BK379 := Qx (Qb (kB_ BK379) hb); replace HB := Qx (Qp hB_ hb); (try clear hb); (try clear hb2); (try clear hk); (try clear hi); (try clear ho0)))
  go_ret
  exact ⟨rf_, hB_⟩
/-! ### impl_SparseBits: function 10 -/
def impl_SparseBits.f (k : Nat) (a0_0 : Int) (a0_1 : Int) (a0_2 : Int) (a0_3 : Int) (l0_4 : List Int) (a0_5 : Int) (l0_6 : List Int) : Option (Int × Bool) := (impl_IsSparse.f k a0_0 a0_1 a0_2 a0_3 l0_4 a0_5 l0_6).bind fun t385 => (if t385 = true then (some (wrap64 (a0_3 + a0_5), true)) else (some (0, false)))
theorem impl_SparseBits.mono : ∀ a0 a1 a2 a3 a4 a5 a6 k, LeO (impl_SparseBits.f k a0 a1 a2 a3 a4 a5 a6) (impl_SparseBits.f (k + 1) a0 a1 a2 a3 a4 a5 a6) := by
  intro a0 a1 a2 a3 a4 a5 a6 k
  unfold impl_SparseBits.f
  repeat' first
      | (with_reducible exact impl_IsSparse.mono _ _ _ _ _ _ _ _)
      | (with_reducible exact LeO.refl _)
      | (with_reducible exact LeO.none _)
      | (with_reducible refine LeO.ite ?_ ?_)
      | (with_reducible refine LeO.bind ?_ (fun _ => ?_))
      | exact impl_IsSparse.mono _ _ _ _ _ _ _ _
      | exact LeO.none _
      | refine LeO.ite ?_ ?_
      | refine LeO.bind ?_ (fun _ => ?_)
noncomputable def impl_SparseBits.F (a0_0 : Int) (a0_1 : Int) (a0_2 : Int) (a0_3 : Int) (l0_4 : List Int) (a0_5 : Int) (l0_6 : List Int) : Option (Int × Bool) := lim fun k => impl_SparseBits.f k a0_0 a0_1 a0_2 a0_3 l0_4 a0_5 l0_6
theorem impl_SparseBits.F_sup (a0_0 : Int) (a0_1 : Int) (a0_2 : Int) (a0_3 : Int) (l0_4 : List Int) (a0_5 : Int) (l0_6 : List Int) : Sup (fun k => impl_SparseBits.f k a0_0 a0_1 a0_2 a0_3 l0_4 a0_5 l0_6) (impl_SparseBits.F a0_0 a0_1 a0_2 a0_3 l0_4 a0_5 l0_6) := Sup.of_mono fun k => impl_SparseBits.mono a0_0 a0_1 a0_2 a0_3 l0_4 a0_5 l0_6 k
theorem impl_SparseBits.F_eq (a0_0 : Int) (a0_1 : Int) (a0_2 : Int) (a0_3 : Int) (l0_4 : List Int) (a0_5 : Int) (l0_6 : List Int) : impl_SparseBits.F a0_0 a0_1 a0_2 a0_3 l0_4 a0_5 l0_6 = (impl_IsSparse.F a0_0 a0_1 a0_2 a0_3 l0_4 a0_5 l0_6).bind fun t385 => (if t385 = true then (some (wrap64 (a0_3 + a0_5), true)) else (some (0, false))) := by
  refine Sup.unique (impl_SparseBits.F_sup a0_0 a0_1 a0_2 a0_3 l0_4 a0_5 l0_6) (Sup.congr (g' := fun k => (impl_IsSparse.f k a0_0 a0_1 a0_2 a0_3 l0_4 a0_5 l0_6).bind fun t385 => (if t385 = true then (some (wrap64 (a0_3 + a0_5), true)) else (some (0, false)))) (fun k => by first | rfl | simp only [impl_SparseBits.f]) ?_)
  repeat' first
    | (with_reducible exact impl_IsSparse.F_sup _ _ _ _ _ _ _)
    | (with_reducible refine Sup.ite ?_ ?_)
    | (with_reducible refine Sup.bind ?_ (fun _ => ?_))
    | (with_reducible exact Sup.const _)
    | exact impl_IsSparse.F_sup _ _ _ _ _ _ _
    | exact Sup.const _
set_option maxHeartbeats 8000000 in
set_option maxRecDepth 100000 in
theorem impl_SparseBits.calls (k : Nat) (a0_0 : Int) (a0_1 : Int) (a0_2 : Int) (a0_3 : Int) (A0_4 : Option Addr) (c0_4 : Nat) (l0_4 : List Int) (a0_5 : Int) (A0_6 : Option Addr) (c0_6 : Nat) (l0_6 : List Int) (r1 : Int) (r2 : Bool) (w : World) (hr0_4 : Kd.C (Kd.int .i64) w A0_4 l0_4.length l0_4) (hc0_4 : l0_4.length ≤ c0_4) (hr0_6 : Kd.C (Kd.int .i64) w A0_6 l0_6.length l0_6) (hc0_6 : l0_6.length ≤ c0_6) (h : impl_SparseBits.f k a0_0 a0_1 a0_2 a0_3 l0_4 a0_5 l0_6 = some (r1, r2)) :
    Calls Try.prog 10 #[.agg #[.int .i64 a0_0, .int .i64 a0_1, .int .i64 a0_2, .int .i64 a0_3, .slice A0_4 l0_4.length c0_4, .int .i64 a0_5, .slice A0_6 l0_6.length c0_6]] w fun e w' => e = .returned (.tuple #[.int .i64 r1, .bool r2]) ∧ Below w.heap.size w w' := by
  have hu30 := Try.underlying30; have HR0_4 := Qx hr0_4; have HC0_4 := Qx hc0_4; clear hr0_4 hc0_4; have HR0_6 := Qx hr0_6; have HC0_6 := Qx hc0_6; clear hr0_6 hc0_6
  have HB := Qx (Below.refl w.heap.size w)
  have H : ((impl_IsSparse.f k a0_0 a0_1 a0_2 a0_3 l0_4 a0_5 l0_6).bind fun t385 => (if t385 = true then (some (wrap64 (a0_3 + a0_5), true)) else (some (0, false)))) = some (r1, r2) := h
  clear h; replace H := Option.bind_eq_some_iff.mp H; obtain ⟨t385, A20, H⟩ := H
  have A2 := Qx A20; clear A20
  by_cases c3 : t385 = true
  ·subst c3
   have H1 : (some (wrap64 (a0_3 + a0_5), true)) = some (r1, r2) := by rw [if_pos rfl] at H; exact H
   clear H; have H := H1; clear H1; simp only [Option.some.injEq, Prod.mk.injEq] at H; obtain ⟨rfl, rfl⟩ := H
   go_enter Try.func10, Try.ntmps10
   go_wp2_with (first | ((with_reducible refine gate_dst (N := 1) rfl ?_); refine bx_ 1 #[.int .i64 a0_0, .int .i64 a0_1, .int .i64 a0_2, .int .i64 a0_3, .slice A0_4 l0_4.length c0_4, .int .i64 a0_5, .slice A0_6 l0_6.length c0_6] 30 ?_; intro gb384 hg w4 hbox hb; have BK384 := Qx (hbox); have GW384 := Qx ((ge_ hg)); have GE384 := Qx ((ge_ hg)); replace HB := Qx (Qp hB_ hb); clear hb hbox hg; obtain ⟨hcz5_0, hcz5_1, hcz5_2, hcz5_3, hcz5_4, hcz5_5, hcz5_6, hfz5_0, hfz5_1, hfz5_2, hfz5_3, hfz5_4, hfz5_5, hfz5_6⟩ := cellsQ7_g1d (w := w4) BK384.out) | ((with_reducible refine gate_callee (f := 24) rfl ?_); refine gl_ 5 Try.func24 #[.agg #[.int .i64 a0_0, .int .i64 a0_1, .int .i64 a0_2, .int .i64 a0_3, .slice A0_4 l0_4.length c0_4, .int .i64 a0_5, .slice A0_6 l0_6.length c0_6]] ?_; (with_reducible refine (impl_IsSparse.calls k a0_0 a0_1 a0_2 a0_3 _ _ l0_4 a0_5 _ _ l0_6 true _ ?side1 ?side2 ?side3 ?side4 A2.out).mono ?_); (case side1 => exact kC_ HR0_4); (case side2 => exact HC0_4.out); (case side3 => exact kC_ HR0_6); (case side4 => exact HC0_6.out); rintro e w6 ⟨rfl, hb⟩; refine ⟨_, rfl, ?_⟩; replace BK384 := Qx (Qb (kB_ BK384) hb); replace HB := Qx (Qp hB_ hb); (try clear hb); (try clear hb2); (try clear hk); (try clear hi); obtain ⟨hcz7_0, hcz7_1, hcz7_2, hcz7_3, hcz7_4, hcz7_5, hcz7_6, hfz7_0, hfz7_1, hfz7_2, hfz7_3, hfz7_4, hfz7_5, hfz7_6⟩ := cellsQ7_g1d (w := w6) BK384.out))
   go_ret2
   exact ⟨rf_, hB_⟩
  ·replace c3 := Bool.eq_false_iff.mpr c3; subst c3
   have H1 : (some (0, false)) = some (r1, r2) := by rw [if_neg (show ¬ (false = true) by decide)] at H; exact H
   clear H; have H := H1; clear H1; simp only [Option.some.injEq, Prod.mk.injEq] at H; obtain ⟨rfl, rfl⟩ := H
   go_enter Try.func10, Try.ntmps10
   go_wp2_with (first | ((with_reducible refine gate_dst (N := 1) rfl ?_); refine bx_ 1 #[.int .i64 a0_0, .int .i64 a0_1, .int .i64 a0_2, .int .i64 a0_3, .slice A0_4 l0_4.length c0_4, .int .i64 a0_5, .slice A0_6 l0_6.length c0_6] 30 ?_; intro gb384 hg w8 hbox hb; have BK384 := Qx (hbox); have GW384 := Qx ((ge_ hg)); have GE384 := Qx ((ge_ hg)); replace HB := Qx (Qp hB_ hb); clear hb hbox hg; obtain ⟨hcz9_0, hcz9_1, hcz9_2, hcz9_3, hcz9_4, hcz9_5, hcz9_6, hfz9_0, hfz9_1, hfz9_2, hfz9_3, hfz9_4, hfz9_5, hfz9_6⟩ := cellsQ7_g1d (w := w8) BK384.out) | ((with_reducible refine gate_callee (f := 24) rfl ?_); refine gl_ 5 Try.func24 #[.agg #[.int .i64 a0_0, .int .i64 a0_1, .int .i64 a0_2, .int .i64 a0_3, .slice A0_4 l0_4.length c0_4, .int .i64 a0_5, .slice A0_6 l0_6.length c0_6]] ?_; (with_reducible refine (impl_IsSparse.calls k a0_0 a0_1 a0_2 a0_3 _ _ l0_4 a0_5 _ _ l0_6 false _ ?side1 ?side2 ?side3 ?side4 A2.out).mono ?_); (case side1 => exact kC_ HR0_4); (case side2 => exact HC0_4.out); (case side3 => exact kC_ HR0_6); (case side4 => exact HC0_6.out); rintro e w10 ⟨rfl, hb⟩; refine ⟨_, rfl, ?_⟩; replace BK384 := Qx (Qb (kB_ BK384) hb); replace HB := Qx (Qp hB_ hb); (try clear hb); (try clear hb2); (try clear hk); (try clear hi)))
   go_ret2
   exact ⟨rf_, hB_⟩
/-! ### impl_SparseAt: function 12 -/
def impl_SparseAt.f (k : Nat) (a0_0 : Int) (a0_1 : Int) (a0_2 : Int) (a0_3 : Int) (l0_4 : List Int) (a0_5 : Int) (l0_6 : List Int) (a1 : Int) : Option (Int × Bool) := (impl_Sparse_numbers.f k a0_0 a0_1 a0_2 a0_3 l0_4 a0_5 l0_6).bind fun bt387 => (if bt387.2 = true then ((impl_in.f a1 0 (wrap64 ((bt387.1.length : Int) - 1))).bind fun t391 => (if t391 = true then (if 0 ≤ a1 then (if a1 < (bt387.1.length : Int) then (some (rd bt387.1 a1, true)) else (none)) else (none)) else (some (0, false)))) else (some (0, false)))
theorem impl_SparseAt.mono : ∀ a0 a1 a2 a3 a4 a5 a6 a7 k, LeO (impl_SparseAt.f k a0 a1 a2 a3 a4 a5 a6 a7) (impl_SparseAt.f (k + 1) a0 a1 a2 a3 a4 a5 a6 a7) := by
  intro a0 a1 a2 a3 a4 a5 a6 a7 k
  unfold impl_SparseAt.f
  repeat' first
      | (with_reducible exact impl_Sparse_numbers.mono _ _ _ _ _ _ _ _)
      | (with_reducible exact LeO.refl _)
      | (with_reducible exact LeO.none _)
      | (with_reducible refine LeO.ite ?_ ?_)
      | (with_reducible refine LeO.bind ?_ (fun _ => ?_))
      | exact impl_Sparse_numbers.mono _ _ _ _ _ _ _ _
      | exact LeO.none _
      | refine LeO.ite ?_ ?_
      | refine LeO.bind ?_ (fun _ => ?_)
noncomputable def impl_SparseAt.F (a0_0 : Int) (a0_1 : Int) (a0_2 : Int) (a0_3 : Int) (l0_4 : List Int) (a0_5 : Int) (l0_6 : List Int) (a1 : Int) : Option (Int × Bool) := lim fun k => impl_SparseAt.f k a0_0 a0_1 a0_2 a0_3 l0_4 a0_5 l0_6 a1
theorem impl_SparseAt.F_sup (a0_0 : Int) (a0_1 : Int) (a0_2 : Int) (a0_3 : Int) (l0_4 : List Int) (a0_5 : Int) (l0_6 : List Int) (a1 : Int) : Sup (fun k => impl_SparseAt.f k a0_0 a0_1 a0_2 a0_3 l0_4 a0_5 l0_6 a1) (impl_SparseAt.F a0_0 a0_1 a0_2 a0_3 l0_4 a0_5 l0_6 a1) := Sup.of_mono fun k => impl_SparseAt.mono a0_0 a0_1 a0_2 a0_3 l0_4 a0_5 l0_6 a1 k
theorem impl_SparseAt.F_eq (a0_0 : Int) (a0_1 : Int) (a0_2 : Int) (a0_3 : Int) (l0_4 : List Int) (a0_5 : Int) (l0_6 : List Int) (a1 : Int) : impl_SparseAt.F a0_0 a0_1 a0_2 a0_3 l0_4 a0_5 l0_6 a1 = (impl_Sparse_numbers.F a0_0 a0_1 a0_2 a0_3 l0_4 a0_5 l0_6).bind fun bt387 => (if bt387.2 = true then ((impl_in.f a1 0 (wrap64 ((bt387.1.length : Int) - 1))).bind fun t391 => (if t391 = true then (if 0 ≤ a1 then (if a1 < (bt387.1.length : Int) then (some (rd bt387.1 a1, true)) else (none)) else (none)) else (some (0, false)))) else (some (0, false))) := by
  refine Sup.unique (impl_SparseAt.F_sup a0_0 a0_1 a0_2 a0_3 l0_4 a0_5 l0_6 a1) (Sup.congr (g' := fun k => (impl_Sparse_numbers.f k a0_0 a0_1 a0_2 a0_3 l0_4 a0_5 l0_6).bind fun bt387 => (if bt387.2 = true then ((impl_in.f a1 0 (wrap64 ((bt387.1.length : Int) - 1))).bind fun t391 => (if t391 = true then (if 0 ≤ a1 then (if a1 < (bt387.1.length : Int) then (some (rd bt387.1 a1, true)) else (none)) else (none)) else (some (0, false)))) else (some (0, false)))) (fun k => by first | rfl | simp only [impl_SparseAt.f]) ?_)
  repeat' first
    | (with_reducible exact impl_Sparse_numbers.F_sup _ _ _ _ _ _ _)
    | (with_reducible refine Sup.ite ?_ ?_)
    | (with_reducible refine Sup.bind ?_ (fun _ => ?_))
    | (with_reducible exact Sup.const _)
    | exact impl_Sparse_numbers.F_sup _ _ _ _ _ _ _
    | exact Sup.const _
set_option maxHeartbeats 8000000 in
set_option maxRecDepth 100000 in
theorem impl_SparseAt.calls (k : Nat) (a0_0 : Int) (a0_1 : Int) (a0_2 : Int) (a0_3 : Int) (A0_4 : Option Addr) (c0_4 : Nat) (l0_4 : List Int) (a0_5 : Int) (A0_6 : Option Addr) (c0_6 : Nat) (l0_6 : List Int) (a1 : Int) (r1 : Int) (r2 : Bool) (w : World) (hr0_4 : Kd.C (Kd.int .i64) w A0_4 l0_4.length l0_4) (hc0_4 : l0_4.length ≤ c0_4) (hr0_6 : Kd.C (Kd.int .i64) w A0_6 l0_6.length l0_6) (hc0_6 : l0_6.length ≤ c0_6) (h : impl_SparseAt.f k a0_0 a0_1 a0_2 a0_3 l0_4 a0_5 l0_6 a1 = some (r1, r2)) :
    Calls Try.prog 12 #[.agg #[.int .i64 a0_0, .int .i64 a0_1, .int .i64 a0_2, .int .i64 a0_3, .slice A0_4 l0_4.length c0_4, .int .i64 a0_5, .slice A0_6 l0_6.length c0_6], .int .i64 a1] w fun e w' => e = .returned (.tuple #[.int .i64 r1, .bool r2]) ∧ Below w.heap.size w w' := by
  have hu30 := Try.underlying30; have HR0_4 := Qx hr0_4; have HC0_4 := Qx hc0_4; clear hr0_4 hc0_4; have HR0_6 := Qx hr0_6; have HC0_6 := Qx hc0_6; clear hr0_6 hc0_6
  have HB := Qx (Below.refl w.heap.size w)
  have H : ((impl_Sparse_numbers.f k a0_0 a0_1 a0_2 a0_3 l0_4 a0_5 l0_6).bind fun bt387 => (if bt387.2 = true then ((impl_in.f a1 0 (wrap64 ((bt387.1.length : Int) - 1))).bind fun t391 => (if t391 = true then (if 0 ≤ a1 then (if a1 < (bt387.1.length : Int) then (some (rd bt387.1 a1, true)) else (none)) else (none)) else (some (0, false)))) else (some (0, false)))) = some (r1, r2) := h
  clear h; replace H := Option.bind_eq_some_iff.mp H; obtain ⟨⟨t387, t390⟩, A30, H⟩ := H
  have A3 := Qx A30; clear A30
  by_cases c4 : t390 = true
  ·subst c4
   have H1 : ((impl_in.f a1 0 (wrap64 ((t387.length : Int) - 1))).bind fun t391 => (if t391 = true then (if 0 ≤ a1 then (if a1 < (t387.length : Int) then (some (rd t387 a1, true)) else (none)) else (none)) else (some (0, false)))) = some (r1, r2) := by rw [if_pos rfl] at H; exact H
   clear H; have H := H1; clear H1; replace H := Option.bind_eq_some_iff.mp H; obtain ⟨t391, A50, H⟩ := H
   have A5 := Qx A50; clear A50
   by_cases c6 : t391 = true
   ·subst c6
    have H1 : (if 0 ≤ a1 then (if a1 < (t387.length : Int) then (some (rd t387 a1, true)) else (none)) else (none)) = some (r1, r2) := by rw [if_pos rfl] at H; exact H
    clear H; have H := H1; clear H1
    by_cases c7 : 0 ≤ a1
    ·rw [if_pos c7] at H
     have c7b0 : decide (0 ≤ a1) = true := decide_eq_true c7
     clear c7
     by_cases c8 : a1 < (t387.length : Int)
     ·rw [if_pos c8] at H
      have c8b0 : decide (a1 < (t387.length : Int)) = true := decide_eq_true c8
      clear c8; simp only [Option.some.injEq, Prod.mk.injEq] at H; obtain ⟨rfl, rfl⟩ := H
      go_enter Try.func12, Try.ntmps12
      go_wp2_with (first | ((with_reducible refine gate_dst (N := 2) rfl ?_); (try (refine gate_guard (by rfl) ?_; dsimp only)); refine bx_ 2 #[.int .i64 a0_0, .int .i64 a0_1, .int .i64 a0_2, .int .i64 a0_3, .slice A0_4 l0_4.length c0_4, .int .i64 a0_5, .slice A0_6 l0_6.length c0_6] 30 ?_; intro gb386 hg w9 hbox hb; have BK386 := Qx (hbox); have GW386 := Qx ((ge_ hg)); have GE386 := Qx ((ge_ hg)); replace HB := Qx (Qp hB_ hb); clear hb hbox hg) | ((with_reducible refine gate_callee (f := 23) rfl ?_); refine gl_ 9 Try.func23 #[.pointer (some ⟨gb386, 0, none⟩)] ?_; (with_reducible refine (impl_Sparse_numbers.calls k gb386 a0_0 a0_1 a0_2 a0_3 A0_4 c0_4 l0_4 a0_5 A0_6 c0_6 l0_6 t387 true _ ?side1 ?side2 ?side3 ?side4 ?side5 A3.out).mono ?_); (case side1 => exact kC_ HR0_4); (case side2 => exact HC0_4.out); (case side3 => exact kC_ HR0_6); (case side4 => exact HC0_6.out); (case side5 => exact (kB_ BK386)); rintro e w10 ⟨v388, rfl, ho0, hb⟩; refine ⟨_, rfl, ?_⟩; have HO389 := Qx (Kd.R_lower ho0 (Qz hB_)); replace BK386 := Qx (Qb (kB_ BK386) hb); replace HB := Qx (Qp hB_ hb); (try clear hb); (try clear hb2); (try clear hk); (try clear hi); (try clear ho0); obtain ⟨Ao11, co11, eo11⟩ := Kd.R_slice HO389.out; subst eo11) | (go_at_call 25; (with_reducible refine (impl_in.calls a1 0 (wrap64 ((t387.length : Int) - 1)) true _ A5.out).mono ?_); rintro e w' ⟨rfl, ⟨nd, rfl⟩⟩; have p392 : 0 ≤ (a1 : Int) := of_decide_eq_true as_; have q392 : a1 < (t387.length : Int) := of_decide_eq_true as_; obtain ⟨ad392, e392, hx392_0⟩ := Kd.at_int (Kd.R_reads' HO389.out).2.2 a1 p392 q392; cases e392; replace p392 := eq_true p392; replace q392 := eq_true q392))
      go_ret2
      exact ⟨rf_, hB_⟩
     ·rw [if_neg c8] at H
      exact absurd H (by simp)
    ·rw [if_neg c7] at H
     exact absurd H (by simp)
   ·replace c6 := Bool.eq_false_iff.mpr c6; subst c6
    have H1 : (some (0, false)) = some (r1, r2) := by rw [if_neg (show ¬ (false = true) by decide)] at H; exact H
    clear H; have H := H1; clear H1; simp only [Option.some.injEq, Prod.mk.injEq] at H; obtain ⟨rfl, rfl⟩ := H
    go_enter Try.func12, Try.ntmps12
    go_wp2_with (first | ((with_reducible refine gate_dst (N := 2) rfl ?_); (try (refine gate_guard (by rfl) ?_; dsimp only)); refine bx_ 2 #[.int .i64 a0_0, .int .i64 a0_1, .int .i64 a0_2, .int .i64 a0_3, .slice A0_4 l0_4.length c0_4, .int .i64 a0_5, .slice A0_6 l0_6.length c0_6] 30 ?_; intro gb386 hg w12 hbox hb; have BK386 := Qx (hbox); have GW386 := Qx ((ge_ hg)); have GE386 := Qx ((ge_ hg)); replace HB := Qx (Qp hB_ hb); clear hb hbox hg) | ((with_reducible refine gate_callee (f := 23) rfl ?_); refine gl_ 9 Try.func23 #[.pointer (some ⟨gb386, 0, none⟩)] ?_; (with_reducible refine (impl_Sparse_numbers.calls k gb386 a0_0 a0_1 a0_2 a0_3 A0_4 c0_4 l0_4 a0_5 A0_6 c0_6 l0_6 t387 true _ ?side1 ?side2 ?side3 ?side4 ?side5 A3.out).mono ?_); (case side1 => exact kC_ HR0_4); (case side2 => exact HC0_4.out); (case side3 => exact kC_ HR0_6); (case side4 => exact HC0_6.out); (case side5 => exact (kB_ BK386)); rintro e w13 ⟨v388, rfl, ho0, hb⟩; refine ⟨_, rfl, ?_⟩; have HO389 := Qx (Kd.R_lower ho0 (Qz hB_)); replace BK386 := Qx (Qb (kB_ BK386) hb); replace HB := Qx (Qp hB_ hb); (try clear hb); (try clear hb2); (try clear hk); (try clear hi); (try clear ho0); obtain ⟨Ao14, co14, eo14⟩ := Kd.R_slice HO389.out; subst eo14) | (go_at_call 25; (with_reducible refine (impl_in.calls a1 0 (wrap64 ((t387.length : Int) - 1)) false _ A5.out).mono ?_); rintro e w' ⟨rfl, ⟨nd, rfl⟩⟩))
    go_ret2
    exact ⟨rf_, hB_⟩
  ·replace c4 := Bool.eq_false_iff.mpr c4; subst c4
   have H1 : (some (0, false)) = some (r1, r2) := by rw [if_neg (show ¬ (false = true) by decide)] at H; exact H
   clear H; have H := H1; clear H1; simp only [Option.some.injEq, Prod.mk.injEq] at H; obtain ⟨rfl, rfl⟩ := H
   go_enter Try.func12, Try.ntmps12
   go_wp2_with (first | ((with_reducible refine gate_dst (N := 2) rfl ?_); (try (refine gate_guard (by rfl) ?_; dsimp only)); refine bx_ 2 #[.int .i64 a0_0, .int .i64 a0_1, .int .i64 a0_2, .int .i64 a0_3, .slice A0_4 l0_4.length c0_4, .int .i64 a0_5, .slice A0_6 l0_6.length c0_6] 30 ?_; intro gb386 hg w15 hbox hb; have BK386 := Qx (hbox); have GW386 := Qx ((ge_ hg)); have GE386 := Qx ((ge_ hg)); replace HB := Qx (Qp hB_ hb); clear hb hbox hg) | ((with_reducible refine gate_callee (f := 23) rfl ?_); refine gl_ 9 Try.func23 #[.pointer (some ⟨gb386, 0, none⟩)] ?_; (with_reducible refine (impl_Sparse_numbers.calls k gb386 a0_0 a0_1 a0_2 a0_3 A0_4 c0_4 l0_4 a0_5 A0_6 c0_6 l0_6 t387 false _ ?side1 ?side2 ?side3 ?side4 ?side5 A3.out).mono ?_); (case side1 => exact kC_ HR0_4); (case side2 => exact HC0_4.out); (case side3 => exact kC_ HR0_6); (case side4 => exact HC0_6.out); (case side5 => exact (kB_ BK386)); rintro e w16 ⟨v388, rfl, ho0, hb⟩; refine ⟨_, rfl, ?_⟩; have HO389 := Qx (Kd.R_lower ho0 (Qz hB_)); replace BK386 := Qx (Qb (kB_ BK386) hb); replace HB := Qx (Qp hB_ hb); (try clear hb); (try clear hb2); (try clear hk); (try clear hi); (try clear ho0)))
   go_ret2
   exact ⟨rf_, hB_⟩
/-! ### cmp_isNaN_int: function 55 -/
def cmp_isNaN_int.f (a0 : Int) : Option (Bool) := some (a0 != a0)
set_option maxHeartbeats 8000000 in
set_option maxRecDepth 100000 in
theorem cmp_isNaN_int.calls (a0 : Int) (r : Bool) (w : World) (h : cmp_isNaN_int.f a0 = some r) :
    Calls Try.prog 55 #[.int .i64 a0] w fun e w' => e = .returned (.bool r) ∧ Drawn0 w w' := by
  have H : (some (a0 != a0)) = some r := h
  clear h; obtain rfl := Option.some.inj H
  go_enter Try.func55, Try.ntmps55
  go_wp2
  go_ret
  exact ⟨rg_, by repeat (first | exact Drawn0.refl _ | apply Drawn0.step)⟩
/-! ### cmp_Less_int: function 53 -/
def cmp_Less_int.f (a0 : Int) (a1 : Int) : Option (Bool) := (cmp_isNaN_int.f a0).bind fun t393 => (if t393 = true then ((cmp_isNaN_int.f a1).bind fun t394 => (if t394 = true then (some (decide (a0 < a1))) else (some true))) else (some (decide (a0 < a1))))
set_option maxHeartbeats 8000000 in
set_option maxRecDepth 100000 in
theorem cmp_Less_int.calls (a0 : Int) (a1 : Int) (r : Bool) (w : World) (h : cmp_Less_int.f a0 a1 = some r) :
    Calls Try.prog 53 #[.int .i64 a0, .int .i64 a1] w fun e w' => e = .returned (.bool r) ∧ Drawn0 w w' := by
  have H : ((cmp_isNaN_int.f a0).bind fun t393 => (if t393 = true then ((cmp_isNaN_int.f a1).bind fun t394 => (if t394 = true then (some (decide (a0 < a1))) else (some true))) else (some (decide (a0 < a1))))) = some r := h
  clear h; replace H := Option.bind_eq_some_iff.mp H; obtain ⟨t393, A30, H⟩ := H
  have A3 := Qx A30; clear A30
  by_cases c4 : t393 = true
  ·subst c4
   have H1 : ((cmp_isNaN_int.f a1).bind fun t394 => (if t394 = true then (some (decide (a0 < a1))) else (some true))) = some r := by rw [if_pos rfl] at H; exact H
   clear H; have H := H1; clear H1; replace H := Option.bind_eq_some_iff.mp H; obtain ⟨t394, A50, H⟩ := H
   have A5 := Qx A50; clear A50
   by_cases c6 : t394 = true
   ·subst c6
    have H1 : (some (decide (a0 < a1))) = some r := by rw [if_pos rfl] at H; exact H
    clear H; have H := H1; clear H1; obtain rfl := Option.some.inj H
    go_enter Try.func53, Try.ntmps53
    go_wp2_with (first | ((with_reducible refine gate_callee (f := 55) rfl ?_); refine gl_ 6 Try.func55 #[.int .i64 a0] ?_; (with_reducible refine (cmp_isNaN_int.calls a0 true _ A3.out).mono ?_); rintro e w' ⟨rfl, ⟨nd, rfl⟩⟩; refine ⟨_, rfl, ?_⟩) | (go_at_call 55; (with_reducible refine (cmp_isNaN_int.calls a1 true _ A5.out).mono ?_); rintro e w' ⟨rfl, ⟨nd, rfl⟩⟩))
    go_ret
    exact ⟨rg_, by repeat (first | exact Drawn0.refl _ | apply Drawn0.step)⟩
   ·replace c6 := Bool.eq_false_iff.mpr c6; subst c6
    have H1 : (some true) = some r := by rw [if_neg (show ¬ (false = true) by decide)] at H; exact H
    clear H; have H := H1; clear H1; obtain rfl := Option.some.inj H
    go_enter Try.func53, Try.ntmps53
    go_wp2_with (first | ((with_reducible refine gate_callee (f := 55) rfl ?_); refine gl_ 6 Try.func55 #[.int .i64 a0] ?_; (with_reducible refine (cmp_isNaN_int.calls a0 true _ A3.out).mono ?_); rintro e w' ⟨rfl, ⟨nd, rfl⟩⟩; refine ⟨_, rfl, ?_⟩) | (go_at_call 55; (with_reducible refine (cmp_isNaN_int.calls a1 false _ A5.out).mono ?_); rintro e w' ⟨rfl, ⟨nd, rfl⟩⟩))
    go_ret
    exact ⟨rg_, by repeat (first | exact Drawn0.refl _ | apply Drawn0.step)⟩
  ·replace c4 := Bool.eq_false_iff.mpr c4; subst c4
   have H1 : (some (decide (a0 < a1))) = some r := by rw [if_neg (show ¬ (false = true) by decide)] at H; exact H
   clear H; have H := H1; clear H1; obtain rfl := Option.some.inj H
   go_enter Try.func53, Try.ntmps53
   go_wp2_with (first | ((with_reducible refine gate_callee (f := 55) rfl ?_); refine gl_ 6 Try.func55 #[.int .i64 a0] ?_; (with_reducible refine (cmp_isNaN_int.calls a0 false _ A3.out).mono ?_); rintro e w' ⟨rfl, ⟨nd, rfl⟩⟩; refine ⟨_, rfl, ?_⟩))
   go_ret
   exact ⟨rg_, by repeat (first | exact Drawn0.refl _ | apply Drawn0.step)⟩
/-! ### slices_isNaN_int: function 54 -/
def slices_isNaN_int.f (a0 : Int) : Option (Bool) := some (a0 != a0)
set_option maxHeartbeats 8000000 in
set_option maxRecDepth 100000 in
theorem slices_isNaN_int.calls (a0 : Int) (r : Bool) (w : World) (h : slices_isNaN_int.f a0 = some r) :
    Calls Try.prog 54 #[.int .i64 a0] w fun e w' => e = .returned (.bool r) ∧ Drawn0 w w' := by
  have H : (some (a0 != a0)) = some r := h
  clear h; obtain rfl := Option.some.inj H
  go_enter Try.func54, Try.ntmps54
  go_wp2
  go_ret
  exact ⟨rg_, by repeat (first | exact Drawn0.refl _ | apply Drawn0.step)⟩
end Go.Proofs.Ytcgakiihochafaa.X
