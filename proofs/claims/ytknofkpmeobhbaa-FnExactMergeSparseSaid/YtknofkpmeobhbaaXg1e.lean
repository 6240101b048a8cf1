/- Written by a program of this session: what functions of the given program compute, and that their calls do so. -/
import Derived.Test.YtknofkpmeobhbaaXx0
import Derived.Test.YtknofkpmeobhbaaXg1c
import Derived.Test.YtknofkpmeobhbaaXg1d
import Derived.Test.YtknofkpmeobhbaaXs
namespace Go.Proofs.Ytknofkpmeobhbaa.X
open Go.RowKit Go.Proofs.YtknofkpmeobhbaaW.PrintWords Go.Proofs.YtknofkpmeobhbaaW.PrintLast Go.Proofs.YtknofkpmeobhbaaW.PrintMore
theorem cellsQ7_g1e {w : World} {g : Nat} {t : TypeId} {a0 a1 a2 a3 a4 a5 a6 : Value} (k : w.heap[g]? = some (.cells #[a0, a1, a2, a3, a4, a5, a6] t (0, 0))) : w.cell? ⟨g, 0, none⟩ = some a0 ∧ w.cell? ⟨g, 1, none⟩ = some a1 ∧ w.cell? ⟨g, 2, none⟩ = some a2 ∧ w.cell? ⟨g, 3, none⟩ = some a3 ∧ w.cell? ⟨g, 4, none⟩ = some a4 ∧ w.cell? ⟨g, 5, none⟩ = some a5 ∧ w.cell? ⟨g, 6, none⟩ = some a6 ∧ w.frozen? ⟨g, 0, none⟩ = false ∧ w.frozen? ⟨g, 1, none⟩ = false ∧ w.frozen? ⟨g, 2, none⟩ = false ∧ w.frozen? ⟨g, 3, none⟩ = false ∧ w.frozen? ⟨g, 4, none⟩ = false ∧ w.frozen? ⟨g, 5, none⟩ = false ∧ w.frozen? ⟨g, 6, none⟩ = false := ⟨(blk_cell k 0).trans rfl, (blk_cell k 1).trans rfl, (blk_cell k 2).trans rfl, (blk_cell k 3).trans rfl, (blk_cell k 4).trans rfl, (blk_cell k 5).trans rfl, (blk_cell k 6).trans rfl, blk_frozen k 0, blk_frozen k 1, blk_frozen k 2, blk_frozen k 3, blk_frozen k 4, blk_frozen k 5, blk_frozen k 6⟩
theorem farsQ7_g1e {τ : Type} {d : Kd τ} {e : Nat} {w : World} {base g : Nat} {ok : Nat → Prop} {v : Value} {xs : List τ} (h : d.R e w base ok v xs) (hok : ∀ k, ok k → k ≠ g) (u0 u1 u2 u3 u4 u5 u6 : Value) : d.R e (((((((w.setCell ⟨g, 0, none⟩ u0).setCell ⟨g, 1, none⟩ u1).setCell ⟨g, 2, none⟩ u2).setCell ⟨g, 3, none⟩ u3).setCell ⟨g, 4, none⟩ u4).setCell ⟨g, 5, none⟩ u5).setCell ⟨g, 6, none⟩ u6) base ok v xs := Kd.R_far (p := ⟨g, 6, none⟩) (Kd.R_far (p := ⟨g, 5, none⟩) (Kd.R_far (p := ⟨g, 4, none⟩) (Kd.R_far (p := ⟨g, 3, none⟩) (Kd.R_far (p := ⟨g, 2, none⟩) (Kd.R_far (p := ⟨g, 1, none⟩) (Kd.R_far (p := ⟨g, 0, none⟩) h hok u0) hok u1) hok u2) hok u3) hok u4) hok u5) hok u6
open Go.Proofs.YtknofkpmeobhbaaW.PrintWords renaming blk_cell → Qc, below_drew1 → Qd, blk_alloc → Qk, blk_drewN → Qm, blk_drew → Qw, below_size → Qz, below_step → Qp, blk_below → Qb, blk_put → Qu, blk_far → Qr
open Go.Proofs.YtknofkpmeobhbaaW.PrintWords.Kd renaming R_drewN → Qrn, R_alloc → Qra, R_drew → Qrd, R_mono → Qrm, R_below → Qrb
open Go.Proofs.YtknofkpmeobhbaaW.PrintWords.Aside0 renaming mk → Qx
attribute [local go_sem] max2_int min2_int max_two min_two max_three min_three max_four min_four   -- for this text's walks alone
set_option linter.unusedVariables false
set_option linter.unusedSimpArgs false
/-! ### impl_Sparse_numbers: function 37 -/
mutual
def impl_Sparse_numbers.j0 : Nat → Int → Bool → Int → Int → Int → Int → List Int → Int → List Int → Option (List Int × Bool)
  | 0, _, _, _, _, _, _, _, _, _ => none
  | k + 1, x4, x61, x1000, x1001, x1002, x1003, x1004, x1005, x1006 => if x61 = true then (some (([] : List Int), false)) else (impl_Sparse_numbers.l0 k x4 (([] : List Int)) x1005 0 x1000 x1001 x1002 x1003 x1004 x1005 x1006)
def impl_Sparse_numbers.l0 : Nat → Int → List Int → Int → Int → Int → Int → Int → Int → List Int → Int → List Int → Option (List Int × Bool)
  | 0, _, _, _, _, _, _, _, _, _, _, _ => none
  | k + 1, x4, x6, x67, x68, x1000, x1001, x1002, x1003, x1004, x1005, x1006 => if x68 < x67 then ((impl_Bits_at_in_30_5.f x1000 x1001 x1002 x1003 x1004 x1005 x1006 x68).bind fun t324 => (if t324 = true then (if (x6.length : Int) < x1000 then (if 0 ≤ x4 then ((impl_Bits_field_in_30_3.f k x1000 x1001 x1002 x1003 x1004 x1005 x1006 (wrap64 ((x6.length : Int) * x4)) x4).bind fun t325 => (if x6.length < 17592186044416 then (impl_Sparse_numbers.l0 k x4 (x6 ++ [Go.bits .or .i64 (shl .i64 (wrap64 (x68 - (x6.length : Int))) x4) t325]) x67 (wrap64 (x68 + 1)) x1000 x1001 x1002 x1003 x1004 x1005 x1006) else (none))) else (none)) else (impl_Sparse_numbers.l0 k x4 x6 x67 (wrap64 (x68 + 1)) x1000 x1001 x1002 x1003 x1004 x1005 x1006)) else (impl_Sparse_numbers.l0 k x4 x6 x67 (wrap64 (x68 + 1)) x1000 x1001 x1002 x1003 x1004 x1005 x1006))) else (if (x6.length : Int) = x1000 then ((impl_sortedOk.f k x6 x1001).bind fun t329 => (impl_Sparse_numbers.j2 k x6 (!t329) x1000 x1001 x1002 x1003 x1004 x1005 x1006)) else (impl_Sparse_numbers.j2 k x6 true x1000 x1001 x1002 x1003 x1004 x1005 x1006))
def impl_Sparse_numbers.j2 : Nat → List Int → Bool → Int → Int → Int → Int → List Int → Int → List Int → Option (List Int × Bool)
  | 0, _, _, _, _, _, _, _, _, _ => none
  | k + 1, x6, x119, x1000, x1001, x1002, x1003, x1004, x1005, x1006 => if x119 = true then (some (([] : List Int), false)) else ((impl_sparse.f k x6 x1001).bind fun bt330 => ((impl_sameBits.f k bt330.2.2.2.1 bt330.2.2.2.2.1 x1003 x1004).bind fun t342 => (if t342 = true then ((impl_sameBits.f k bt330.2.2.2.2.2.1 bt330.2.2.2.2.2.2 x1005 x1006).bind fun t343 => (some (x6, t343))) else (some (x6, false)))))
end
def impl_Sparse_numbers.f (k : Nat) (a0_0 : Int) (a0_1 : Int) (a0_2 : Int) (a0_3 : Int) (l0_4 : List Int) (a0_5 : Int) (l0_6 : List Int) : Option (List Int × Bool) := (impl_WidthFor.f k a0_0 a0_1).bind fun bt317 => (if bt317.2 = true then (if bt317.1 = a0_2 then ((impl_IsBits.f k a0_3 l0_4).bind fun t319 => (if t319 = true then ((impl_IsBits.f k a0_5 l0_6).bind fun t320 => (if t320 = true then (impl_Sparse_numbers.j0 k bt317.1 (a0_3 != (wrap64 (bt317.1 * a0_0))) a0_0 a0_1 a0_2 a0_3 l0_4 a0_5 l0_6) else (impl_Sparse_numbers.j0 k bt317.1 true a0_0 a0_1 a0_2 a0_3 l0_4 a0_5 l0_6))) else (impl_Sparse_numbers.j0 k bt317.1 true a0_0 a0_1 a0_2 a0_3 l0_4 a0_5 l0_6))) else (impl_Sparse_numbers.j0 k bt317.1 true a0_0 a0_1 a0_2 a0_3 l0_4 a0_5 l0_6)) else (impl_Sparse_numbers.j0 k bt317.1 true a0_0 a0_1 a0_2 a0_3 l0_4 a0_5 l0_6))
theorem impl_Sparse_numbers.mono_l : ∀ k, (∀ y0 y1 y2 y3 y4 y5 y6 y7 y8, LeO (impl_Sparse_numbers.j0 k y0 y1 y2 y3 y4 y5 y6 y7 y8) (impl_Sparse_numbers.j0 (k + 1) y0 y1 y2 y3 y4 y5 y6 y7 y8)) ∧ (∀ y0 y1 y2 y3 y4 y5 y6 y7 y8 y9 y10, LeO (impl_Sparse_numbers.l0 k y0 y1 y2 y3 y4 y5 y6 y7 y8 y9 y10) (impl_Sparse_numbers.l0 (k + 1) y0 y1 y2 y3 y4 y5 y6 y7 y8 y9 y10)) ∧ (∀ y0 y1 y2 y3 y4 y5 y6 y7 y8, LeO (impl_Sparse_numbers.j2 k y0 y1 y2 y3 y4 y5 y6 y7 y8) (impl_Sparse_numbers.j2 (k + 1) y0 y1 y2 y3 y4 y5 y6 y7 y8))
  | 0 => ⟨fun _ _ _ _ _ _ _ _ _ r h => by simp [impl_Sparse_numbers.j0] at h, fun _ _ _ _ _ _ _ _ _ _ _ r h => by simp [impl_Sparse_numbers.l0] at h, fun _ _ _ _ _ _ _ _ _ r h => by simp [impl_Sparse_numbers.j2] at h⟩
  | k + 1 => by
    obtain ⟨ih0, ih1, ih2⟩ := impl_Sparse_numbers.mono_l k
    refine ⟨?_, ?_, ?_⟩
    · intro y0 y1 y2 y3 y4 y5 y6 y7 y8
      unfold impl_Sparse_numbers.j0
      repeat' first
      | (with_reducible exact ih0 _ _ _ _ _ _ _ _ _)
      | (with_reducible exact ih1 _ _ _ _ _ _ _ _ _ _ _)
      | (with_reducible exact ih2 _ _ _ _ _ _ _ _ _)
      | (with_reducible exact impl_Bits_field_in_30_3.mono _ _ _ _ _ _ _ _ _ _)
      | (with_reducible exact impl_IsBits.mono _ _ _)
      | (with_reducible exact impl_WidthFor.mono _ _ _)
      | (with_reducible exact impl_sameBits.mono _ _ _ _ _)
      | (with_reducible exact impl_sortedOk.mono _ _ _)
      | (with_reducible exact impl_sparse.mono _ _ _)
      | (with_reducible exact LeO.refl _)
      | (with_reducible exact LeO.none _)
      | (with_reducible refine LeO.ite ?_ ?_)
      | (with_reducible refine LeO.bind ?_ (fun _ => ?_))
      | exact ih0 _ _ _ _ _ _ _ _ _
      | exact ih1 _ _ _ _ _ _ _ _ _ _ _
      | exact ih2 _ _ _ _ _ _ _ _ _
      | exact impl_Bits_field_in_30_3.mono _ _ _ _ _ _ _ _ _ _
      | exact impl_IsBits.mono _ _ _
      | exact impl_WidthFor.mono _ _ _
      | exact impl_sameBits.mono _ _ _ _ _
      | exact impl_sortedOk.mono _ _ _
      | exact impl_sparse.mono _ _ _
      | exact LeO.none _
      | refine LeO.ite ?_ ?_
      | refine LeO.bind ?_ (fun _ => ?_)
    · intro y0 y1 y2 y3 y4 y5 y6 y7 y8 y9 y10
      unfold impl_Sparse_numbers.l0
      repeat' first
      | (with_reducible exact ih0 _ _ _ _ _ _ _ _ _)
      | (with_reducible exact ih1 _ _ _ _ _ _ _ _ _ _ _)
      | (with_reducible exact ih2 _ _ _ _ _ _ _ _ _)
      | (with_reducible exact impl_Bits_field_in_30_3.mono _ _ _ _ _ _ _ _ _ _)
      | (with_reducible exact impl_IsBits.mono _ _ _)
      | (with_reducible exact impl_WidthFor.mono _ _ _)
      | (with_reducible exact impl_sameBits.mono _ _ _ _ _)
      | (with_reducible exact impl_sortedOk.mono _ _ _)
      | (with_reducible exact impl_sparse.mono _ _ _)
      | (with_reducible exact LeO.refl _)
      | (with_reducible exact LeO.none _)
      | (with_reducible refine LeO.ite ?_ ?_)
      | (with_reducible refine LeO.bind ?_ (fun _ => ?_))
      | exact ih0 _ _ _ _ _ _ _ _ _
      | exact ih1 _ _ _ _ _ _ _ _ _ _ _
      | exact ih2 _ _ _ _ _ _ _ _ _
      | exact impl_Bits_field_in_30_3.mono _ _ _ _ _ _ _ _ _ _
      | exact impl_IsBits.mono _ _ _
      | exact impl_WidthFor.mono _ _ _
      | exact impl_sameBits.mono _ _ _ _ _
      | exact impl_sortedOk.mono _ _ _
      | exact impl_sparse.mono _ _ _
      | exact LeO.none _
      | refine LeO.ite ?_ ?_
      | refine LeO.bind ?_ (fun _ => ?_)
    · intro y0 y1 y2 y3 y4 y5 y6 y7 y8
      unfold impl_Sparse_numbers.j2
      repeat' first
      | (with_reducible exact ih0 _ _ _ _ _ _ _ _ _)
      | (with_reducible exact ih1 _ _ _ _ _ _ _ _ _ _ _)
      | (with_reducible exact ih2 _ _ _ _ _ _ _ _ _)
      | (with_reducible exact impl_Bits_field_in_30_3.mono _ _ _ _ _ _ _ _ _ _)
      | (with_reducible exact impl_IsBits.mono _ _ _)
      | (with_reducible exact impl_WidthFor.mono _ _ _)
      | (with_reducible exact impl_sameBits.mono _ _ _ _ _)
      | (with_reducible exact impl_sortedOk.mono _ _ _)
      | (with_reducible exact impl_sparse.mono _ _ _)
      | (with_reducible exact LeO.refl _)
      | (with_reducible exact LeO.none _)
      | (with_reducible refine LeO.ite ?_ ?_)
      | (with_reducible refine LeO.bind ?_ (fun _ => ?_))
      | exact ih0 _ _ _ _ _ _ _ _ _
      | exact ih1 _ _ _ _ _ _ _ _ _ _ _
      | exact ih2 _ _ _ _ _ _ _ _ _
      | exact impl_Bits_field_in_30_3.mono _ _ _ _ _ _ _ _ _ _
      | exact impl_IsBits.mono _ _ _
      | exact impl_WidthFor.mono _ _ _
      | exact impl_sameBits.mono _ _ _ _ _
      | exact impl_sortedOk.mono _ _ _
      | exact impl_sparse.mono _ _ _
      | exact LeO.none _
      | refine LeO.ite ?_ ?_
      | refine LeO.bind ?_ (fun _ => ?_)
theorem impl_Sparse_numbers.mono : ∀ a0 a1 a2 a3 a4 a5 a6 k, LeO (impl_Sparse_numbers.f k a0 a1 a2 a3 a4 a5 a6) (impl_Sparse_numbers.f (k + 1) a0 a1 a2 a3 a4 a5 a6) := by
  intro a0 a1 a2 a3 a4 a5 a6 k
  obtain ⟨ih0, ih1, ih2⟩ := impl_Sparse_numbers.mono_l k
  unfold impl_Sparse_numbers.f
  repeat' first
      | (with_reducible exact ih0 _ _ _ _ _ _ _ _ _)
      | (with_reducible exact ih1 _ _ _ _ _ _ _ _ _ _ _)
      | (with_reducible exact ih2 _ _ _ _ _ _ _ _ _)
      | (with_reducible exact impl_Bits_field_in_30_3.mono _ _ _ _ _ _ _ _ _ _)
      | (with_reducible exact impl_IsBits.mono _ _ _)
      | (with_reducible exact impl_WidthFor.mono _ _ _)
      | (with_reducible exact impl_sameBits.mono _ _ _ _ _)
      | (with_reducible exact impl_sortedOk.mono _ _ _)
      | (with_reducible exact impl_sparse.mono _ _ _)
      | (with_reducible exact LeO.refl _)
      | (with_reducible exact LeO.none _)
      | (with_reducible refine LeO.ite ?_ ?_)
      | (with_reducible refine LeO.bind ?_ (fun _ => ?_))
      | exact ih0 _ _ _ _ _ _ _ _ _
      | exact ih1 _ _ _ _ _ _ _ _ _ _ _
      | exact ih2 _ _ _ _ _ _ _ _ _
      | exact impl_Bits_field_in_30_3.mono _ _ _ _ _ _ _ _ _ _
      | exact impl_IsBits.mono _ _ _
      | exact impl_WidthFor.mono _ _ _
      | exact impl_sameBits.mono _ _ _ _ _
      | exact impl_sortedOk.mono _ _ _
      | exact impl_sparse.mono _ _ _
      | exact LeO.none _
      | refine LeO.ite ?_ ?_
      | refine LeO.bind ?_ (fun _ => ?_)
noncomputable def impl_Sparse_numbers.J0 (y0 : Int) (y1 : Bool) (y2 : Int) (y3 : Int) (y4 : Int) (y5 : Int) (y6 : List Int) (y7 : Int) (y8 : List Int) : Option (List Int × Bool) := lim fun k => impl_Sparse_numbers.j0 k y0 y1 y2 y3 y4 y5 y6 y7 y8
theorem impl_Sparse_numbers.J0_sup (y0 : Int) (y1 : Bool) (y2 : Int) (y3 : Int) (y4 : Int) (y5 : Int) (y6 : List Int) (y7 : Int) (y8 : List Int) : Sup (fun k => impl_Sparse_numbers.j0 k y0 y1 y2 y3 y4 y5 y6 y7 y8) (impl_Sparse_numbers.J0 y0 y1 y2 y3 y4 y5 y6 y7 y8) := Sup.of_mono fun k => (impl_Sparse_numbers.mono_l k).1 y0 y1 y2 y3 y4 y5 y6 y7 y8
noncomputable def impl_Sparse_numbers.L0 (y0 : Int) (y1 : List Int) (y2 : Int) (y3 : Int) (y4 : Int) (y5 : Int) (y6 : Int) (y7 : Int) (y8 : List Int) (y9 : Int) (y10 : List Int) : Option (List Int × Bool) := lim fun k => impl_Sparse_numbers.l0 k y0 y1 y2 y3 y4 y5 y6 y7 y8 y9 y10
theorem impl_Sparse_numbers.L0_sup (y0 : Int) (y1 : List Int) (y2 : Int) (y3 : Int) (y4 : Int) (y5 : Int) (y6 : Int) (y7 : Int) (y8 : List Int) (y9 : Int) (y10 : List Int) : Sup (fun k => impl_Sparse_numbers.l0 k y0 y1 y2 y3 y4 y5 y6 y7 y8 y9 y10) (impl_Sparse_numbers.L0 y0 y1 y2 y3 y4 y5 y6 y7 y8 y9 y10) := Sup.of_mono fun k => (impl_Sparse_numbers.mono_l k).2.1 y0 y1 y2 y3 y4 y5 y6 y7 y8 y9 y10
noncomputable def impl_Sparse_numbers.J2 (y0 : List Int) (y1 : Bool) (y2 : Int) (y3 : Int) (y4 : Int) (y5 : Int) (y6 : List Int) (y7 : Int) (y8 : List Int) : Option (List Int × Bool) := lim fun k => impl_Sparse_numbers.j2 k y0 y1 y2 y3 y4 y5 y6 y7 y8
theorem impl_Sparse_numbers.J2_sup (y0 : List Int) (y1 : Bool) (y2 : Int) (y3 : Int) (y4 : Int) (y5 : Int) (y6 : List Int) (y7 : Int) (y8 : List Int) : Sup (fun k => impl_Sparse_numbers.j2 k y0 y1 y2 y3 y4 y5 y6 y7 y8) (impl_Sparse_numbers.J2 y0 y1 y2 y3 y4 y5 y6 y7 y8) := Sup.of_mono fun k => (impl_Sparse_numbers.mono_l k).2.2 y0 y1 y2 y3 y4 y5 y6 y7 y8
noncomputable def impl_Sparse_numbers.F (a0_0 : Int) (a0_1 : Int) (a0_2 : Int) (a0_3 : Int) (l0_4 : List Int) (a0_5 : Int) (l0_6 : List Int) : Option (List Int × Bool) := lim fun k => impl_Sparse_numbers.f k a0_0 a0_1 a0_2 a0_3 l0_4 a0_5 l0_6
theorem impl_Sparse_numbers.F_sup (a0_0 : Int) (a0_1 : Int) (a0_2 : Int) (a0_3 : Int) (l0_4 : List Int) (a0_5 : Int) (l0_6 : List Int) : Sup (fun k => impl_Sparse_numbers.f k a0_0 a0_1 a0_2 a0_3 l0_4 a0_5 l0_6) (impl_Sparse_numbers.F a0_0 a0_1 a0_2 a0_3 l0_4 a0_5 l0_6) := Sup.of_mono fun k => impl_Sparse_numbers.mono a0_0 a0_1 a0_2 a0_3 l0_4 a0_5 l0_6 k
theorem impl_Sparse_numbers.J0_eq (x4 : Int) (x61 : Bool) (x1000 : Int) (x1001 : Int) (x1002 : Int) (x1003 : Int) (x1004 : List Int) (x1005 : Int) (x1006 : List Int) : impl_Sparse_numbers.J0 x4 x61 x1000 x1001 x1002 x1003 x1004 x1005 x1006 = if x61 = true then (some (([] : List Int), false)) else (impl_Sparse_numbers.L0 x4 (([] : List Int)) x1005 0 x1000 x1001 x1002 x1003 x1004 x1005 x1006) := by
  refine Sup.unique (impl_Sparse_numbers.J0_sup x4 x61 x1000 x1001 x1002 x1003 x1004 x1005 x1006) (Sup.shift (fun k => (impl_Sparse_numbers.mono_l k).1 x4 x61 x1000 x1001 x1002 x1003 x1004 x1005 x1006) (Sup.congr (g' := fun k => if x61 = true then (some (([] : List Int), false)) else (impl_Sparse_numbers.l0 k x4 (([] : List Int)) x1005 0 x1000 x1001 x1002 x1003 x1004 x1005 x1006)) (fun k => by first | rfl | simp only [impl_Sparse_numbers.j0]) ?_))
  repeat' first
    | (with_reducible exact impl_Sparse_numbers.J0_sup _ _ _ _ _ _ _ _ _)
    | (with_reducible exact impl_Sparse_numbers.L0_sup _ _ _ _ _ _ _ _ _ _ _)
    | (with_reducible exact impl_Sparse_numbers.J2_sup _ _ _ _ _ _ _ _ _)
    | (with_reducible exact impl_sparse.F_sup _ _)
    | (with_reducible exact impl_WidthFor.F_sup _ _)
    | (with_reducible exact impl_IsBits.F_sup _ _)
    | (with_reducible exact impl_sortedOk.F_sup _ _)
    | (with_reducible exact impl_sameBits.F_sup _ _ _ _)
    | (with_reducible exact impl_Bits_field_in_30_3.F_sup _ _ _ _ _ _ _ _ _)
    | (with_reducible refine Sup.ite ?_ ?_)
    | (with_reducible refine Sup.bind ?_ (fun _ => ?_))
    | (with_reducible exact Sup.const _)
    | exact impl_Sparse_numbers.J0_sup _ _ _ _ _ _ _ _ _
    | exact impl_Sparse_numbers.L0_sup _ _ _ _ _ _ _ _ _ _ _
    | exact impl_Sparse_numbers.J2_sup _ _ _ _ _ _ _ _ _
    | exact impl_sparse.F_sup _ _
    | exact impl_WidthFor.F_sup _ _
    | exact impl_IsBits.F_sup _ _
    | exact impl_sortedOk.F_sup _ _
    | exact impl_sameBits.F_sup _ _ _ _
    | exact impl_Bits_field_in_30_3.F_sup _ _ _ _ _ _ _ _ _
    | exact Sup.const _
theorem impl_Sparse_numbers.L0_eq (x4 : Int) (x6 : List Int) (x67 : Int) (x68 : Int) (x1000 : Int) (x1001 : Int) (x1002 : Int) (x1003 : Int) (x1004 : List Int) (x1005 : Int) (x1006 : List Int) : impl_Sparse_numbers.L0 x4 x6 x67 x68 x1000 x1001 x1002 x1003 x1004 x1005 x1006 = if x68 < x67 then ((impl_Bits_at_in_30_5.f x1000 x1001 x1002 x1003 x1004 x1005 x1006 x68).bind fun t324 => (if t324 = true then (if (x6.length : Int) < x1000 then (if 0 ≤ x4 then ((impl_Bits_field_in_30_3.F x1000 x1001 x1002 x1003 x1004 x1005 x1006 (wrap64 ((x6.length : Int) * x4)) x4).bind fun t325 => (if x6.length < 17592186044416 then (impl_Sparse_numbers.L0 x4 (x6 ++ [Go.bits .or .i64 (shl .i64 (wrap64 (x68 - (x6.length : Int))) x4) t325]) x67 (wrap64 (x68 + 1)) x1000 x1001 x1002 x1003 x1004 x1005 x1006) else (none))) else (none)) else (impl_Sparse_numbers.L0 x4 x6 x67 (wrap64 (x68 + 1)) x1000 x1001 x1002 x1003 x1004 x1005 x1006)) else (impl_Sparse_numbers.L0 x4 x6 x67 (wrap64 (x68 + 1)) x1000 x1001 x1002 x1003 x1004 x1005 x1006))) else (if (x6.length : Int) = x1000 then ((impl_sortedOk.F x6 x1001).bind fun t329 => (impl_Sparse_numbers.J2 x6 (!t329) x1000 x1001 x1002 x1003 x1004 x1005 x1006)) else (impl_Sparse_numbers.J2 x6 true x1000 x1001 x1002 x1003 x1004 x1005 x1006)) := by
  refine Sup.unique (impl_Sparse_numbers.L0_sup x4 x6 x67 x68 x1000 x1001 x1002 x1003 x1004 x1005 x1006) (Sup.shift (fun k => (impl_Sparse_numbers.mono_l k).2.1 x4 x6 x67 x68 x1000 x1001 x1002 x1003 x1004 x1005 x1006) (Sup.congr (g' := fun k => if x68 < x67 then ((impl_Bits_at_in_30_5.f x1000 x1001 x1002 x1003 x1004 x1005 x1006 x68).bind fun t324 => (if t324 = true then (if (x6.length : Int) < x1000 then (if 0 ≤ x4 then ((impl_Bits_field_in_30_3.f k x1000 x1001 x1002 x1003 x1004 x1005 x1006 (wrap64 ((x6.length : Int) * x4)) x4).bind fun t325 => (if x6.length < 17592186044416 then (impl_Sparse_numbers.l0 k x4 (x6 ++ [Go.bits .or .i64 (shl .i64 (wrap64 (x68 - (x6.length : Int))) x4) t325]) x67 (wrap64 (x68 + 1)) x1000 x1001 x1002 x1003 x1004 x1005 x1006) else (none))) else (none)) else (impl_Sparse_numbers.l0 k x4 x6 x67 (wrap64 (x68 + 1)) x1000 x1001 x1002 x1003 x1004 x1005 x1006)) else (impl_Sparse_numbers.l0 k x4 x6 x67 (wrap64 (x68 + 1)) x1000 x1001 x1002 x1003 x1004 x1005 x1006))) else (if (x6.length : Int) = x1000 then ((impl_sortedOk.f k x6 x1001).bind fun t329 => (impl_Sparse_numbers.j2 k x6 (!t329) x1000 x1001 x1002 x1003 x1004 x1005 x1006)) else (impl_Sparse_numbers.j2 k x6 true x1000 x1001 x1002 x1003 x1004 x1005 x1006))) (fun k => by first | rfl | simp only [impl_Sparse_numbers.l0]) ?_))
  repeat' first
    | (with_reducible exact impl_Sparse_numbers.J0_sup _ _ _ _ _ _ _ _ _)
    | (with_reducible exact impl_Sparse_numbers.L0_sup _ _ _ _ _ _ _ _ _ _ _)
    | (with_reducible exact impl_Sparse_numbers.J2_sup _ _ _ _ _ _ _ _ _)
    | (with_reducible exact impl_sparse.F_sup _ _)
    | (with_reducible exact impl_WidthFor.F_sup _ _)
    | (with_reducible exact impl_IsBits.F_sup _ _)
    | (with_reducible exact impl_sortedOk.F_sup _ _)
    | (with_reducible exact impl_sameBits.F_sup _ _ _ _)
    | (with_reducible exact impl_Bits_field_in_30_3.F_sup _ _ _ _ _ _ _ _ _)
    | (with_reducible refine Sup.ite ?_ ?_)
    | (with_reducible refine Sup.bind ?_ (fun _ => ?_))
    | (with_reducible exact Sup.const _)
    | exact impl_Sparse_numbers.J0_sup _ _ _ _ _ _ _ _ _
    | exact impl_Sparse_numbers.L0_sup _ _ _ _ _ _ _ _ _ _ _
    | exact impl_Sparse_numbers.J2_sup _ _ _ _ _ _ _ _ _
    | exact impl_sparse.F_sup _ _
    | exact impl_WidthFor.F_sup _ _
    | exact impl_IsBits.F_sup _ _
    | exact impl_sortedOk.F_sup _ _
    | exact impl_sameBits.F_sup _ _ _ _
    | exact impl_Bits_field_in_30_3.F_sup _ _ _ _ _ _ _ _ _
    | exact Sup.const _
theorem impl_Sparse_numbers.J2_eq (x6 : List Int) (x119 : Bool) (x1000 : Int) (x1001 : Int) (x1002 : Int) (x1003 : Int) (x1004 : List Int) (x1005 : Int) (x1006 : List Int) : impl_Sparse_numbers.J2 x6 x119 x1000 x1001 x1002 x1003 x1004 x1005 x1006 = if x119 = true then (some (([] : List Int), false)) else ((impl_sparse.F x6 x1001).bind fun bt330 => ((impl_sameBits.F bt330.2.2.2.1 bt330.2.2.2.2.1 x1003 x1004).bind fun t342 => (if t342 = true then ((impl_sameBits.F bt330.2.2.2.2.2.1 bt330.2.2.2.2.2.2 x1005 x1006).bind fun t343 => (some (x6, t343))) else (some (x6, false))))) := by
  refine Sup.unique (impl_Sparse_numbers.J2_sup x6 x119 x1000 x1001 x1002 x1003 x1004 x1005 x1006) (Sup.shift (fun k => (impl_Sparse_numbers.mono_l k).2.2 x6 x119 x1000 x1001 x1002 x1003 x1004 x1005 x1006) (Sup.congr (g' := fun k => if x119 = true then (some (([] : List Int), false)) else ((impl_sparse.f k x6 x1001).bind fun bt330 => ((impl_sameBits.f k bt330.2.2.2.1 bt330.2.2.2.2.1 x1003 x1004).bind fun t342 => (if t342 = true then ((impl_sameBits.f k bt330.2.2.2.2.2.1 bt330.2.2.2.2.2.2 x1005 x1006).bind fun t343 => (some (x6, t343))) else (some (x6, false)))))) (fun k => by first | rfl | simp only [impl_Sparse_numbers.j2]) ?_))
  repeat' first
    | (with_reducible exact impl_Sparse_numbers.J0_sup _ _ _ _ _ _ _ _ _)
    | (with_reducible exact impl_Sparse_numbers.L0_sup _ _ _ _ _ _ _ _ _ _ _)
    | (with_reducible exact impl_Sparse_numbers.J2_sup _ _ _ _ _ _ _ _ _)
    | (with_reducible exact impl_sparse.F_sup _ _)
    | (with_reducible exact impl_WidthFor.F_sup _ _)
    | (with_reducible exact impl_IsBits.F_sup _ _)
    | (with_reducible exact impl_sortedOk.F_sup _ _)
    | (with_reducible exact impl_sameBits.F_sup _ _ _ _)
    | (with_reducible exact impl_Bits_field_in_30_3.F_sup _ _ _ _ _ _ _ _ _)
    | (with_reducible refine Sup.ite ?_ ?_)
    | (with_reducible refine Sup.bind ?_ (fun _ => ?_))
    | (with_reducible exact Sup.const _)
    | exact impl_Sparse_numbers.J0_sup _ _ _ _ _ _ _ _ _
    | exact impl_Sparse_numbers.L0_sup _ _ _ _ _ _ _ _ _ _ _
    | exact impl_Sparse_numbers.J2_sup _ _ _ _ _ _ _ _ _
    | exact impl_sparse.F_sup _ _
    | exact impl_WidthFor.F_sup _ _
    | exact impl_IsBits.F_sup _ _
    | exact impl_sortedOk.F_sup _ _
    | exact impl_sameBits.F_sup _ _ _ _
    | exact impl_Bits_field_in_30_3.F_sup _ _ _ _ _ _ _ _ _
    | exact Sup.const _
theorem impl_Sparse_numbers.F_eq (a0_0 : Int) (a0_1 : Int) (a0_2 : Int) (a0_3 : Int) (l0_4 : List Int) (a0_5 : Int) (l0_6 : List Int) : impl_Sparse_numbers.F a0_0 a0_1 a0_2 a0_3 l0_4 a0_5 l0_6 = (impl_WidthFor.F a0_0 a0_1).bind fun bt317 => (if bt317.2 = true then (if bt317.1 = a0_2 then ((impl_IsBits.F a0_3 l0_4).bind fun t319 => (if t319 = true then ((impl_IsBits.F a0_5 l0_6).bind fun t320 => (if t320 = true then (impl_Sparse_numbers.J0 bt317.1 (a0_3 != (wrap64 (bt317.1 * a0_0))) a0_0 a0_1 a0_2 a0_3 l0_4 a0_5 l0_6) else (impl_Sparse_numbers.J0 bt317.1 true a0_0 a0_1 a0_2 a0_3 l0_4 a0_5 l0_6))) else (impl_Sparse_numbers.J0 bt317.1 true a0_0 a0_1 a0_2 a0_3 l0_4 a0_5 l0_6))) else (impl_Sparse_numbers.J0 bt317.1 true a0_0 a0_1 a0_2 a0_3 l0_4 a0_5 l0_6)) else (impl_Sparse_numbers.J0 bt317.1 true a0_0 a0_1 a0_2 a0_3 l0_4 a0_5 l0_6)) := by
  refine Sup.unique (impl_Sparse_numbers.F_sup a0_0 a0_1 a0_2 a0_3 l0_4 a0_5 l0_6) (Sup.congr (g' := fun k => (impl_WidthFor.f k a0_0 a0_1).bind fun bt317 => (if bt317.2 = true then (if bt317.1 = a0_2 then ((impl_IsBits.f k a0_3 l0_4).bind fun t319 => (if t319 = true then ((impl_IsBits.f k a0_5 l0_6).bind fun t320 => (if t320 = true then (impl_Sparse_numbers.j0 k bt317.1 (a0_3 != (wrap64 (bt317.1 * a0_0))) a0_0 a0_1 a0_2 a0_3 l0_4 a0_5 l0_6) else (impl_Sparse_numbers.j0 k bt317.1 true a0_0 a0_1 a0_2 a0_3 l0_4 a0_5 l0_6))) else (impl_Sparse_numbers.j0 k bt317.1 true a0_0 a0_1 a0_2 a0_3 l0_4 a0_5 l0_6))) else (impl_Sparse_numbers.j0 k bt317.1 true a0_0 a0_1 a0_2 a0_3 l0_4 a0_5 l0_6)) else (impl_Sparse_numbers.j0 k bt317.1 true a0_0 a0_1 a0_2 a0_3 l0_4 a0_5 l0_6))) (fun k => by first | rfl | simp only [impl_Sparse_numbers.f]) ?_)
  repeat' first
    | (with_reducible exact impl_Sparse_numbers.J0_sup _ _ _ _ _ _ _ _ _)
    | (with_reducible exact impl_Sparse_numbers.L0_sup _ _ _ _ _ _ _ _ _ _ _)
    | (with_reducible exact impl_Sparse_numbers.J2_sup _ _ _ _ _ _ _ _ _)
    | (with_reducible exact impl_sparse.F_sup _ _)
    | (with_reducible exact impl_WidthFor.F_sup _ _)
    | (with_reducible exact impl_IsBits.F_sup _ _)
    | (with_reducible exact impl_sortedOk.F_sup _ _)
    | (with_reducible exact impl_sameBits.F_sup _ _ _ _)
    | (with_reducible exact impl_Bits_field_in_30_3.F_sup _ _ _ _ _ _ _ _ _)
    | (with_reducible refine Sup.ite ?_ ?_)
    | (with_reducible refine Sup.bind ?_ (fun _ => ?_))
    | (with_reducible exact Sup.const _)
    | exact impl_Sparse_numbers.J0_sup _ _ _ _ _ _ _ _ _
    | exact impl_Sparse_numbers.L0_sup _ _ _ _ _ _ _ _ _ _ _
    | exact impl_Sparse_numbers.J2_sup _ _ _ _ _ _ _ _ _
    | exact impl_sparse.F_sup _ _
    | exact impl_WidthFor.F_sup _ _
    | exact impl_IsBits.F_sup _ _
    | exact impl_sortedOk.F_sup _ _
    | exact impl_sameBits.F_sup _ _ _ _
    | exact impl_Bits_field_in_30_3.F_sup _ _ _ _ _ _ _ _ _
    | exact Sup.const _
def impl_Sparse_numbers.T1 : Bool × List (List Nat × List Nat) := (true, [([], []), ([0], [0]), ([1], [1]), ([2], [2]), ([], []), ([4], [4]), ([5], [5]), ([6], [6]), ([3, 7], [3, 7]), ([8], [8]), ([9], [9]), ([9], [9]), ([10, 8, 0, 1, 2, 3, 4, 5, 6, 7, 8, 9, 10], [10]), ([11, 12, 0, 1, 2, 3, 4, 5, 6, 7, 8, 9, 10, 11, 12], [11])])
def impl_Sparse_numbers.B1 : List Nat := [0, 1, 3, 7, 0, 16, 48, 112, 255, 511, 1023, 1023, 2047, 8191]
theorem impl_Sparse_numbers.tab1 : rtab .any (opsOf Try.f37 1) = impl_Sparse_numbers.T1 := by kernel_rfl
theorem impl_Sparse_numbers.bits1 : waitsOk impl_Sparse_numbers.T1.2 impl_Sparse_numbers.B1 = true := by kernel_rfl
def impl_Sparse_numbers.T2 : Bool × List (List Nat × List Nat) := (true, [([], []), ([0], [0]), ([1], [1]), ([2], [2]), ([2], [2]), ([4, 2], [2, 4]), ([5, 2], [2, 5]), ([6, 2], [2, 6]), ([3, 7, 2], [2, 3, 7]), ([2, 8], [2, 8]), ([9, 2], [9]), ([10], [10]), ([11, 10], [10, 11]), ([12, 10], [10, 12]), ([13, 10], [10, 13]), ([14, 10, 10], [10, 14]), ([15, 10], [10, 15]), ([10, 16], [10, 16]), ([17, 15], [17]), ([18], [18]), ([19, 18], [18, 19]), ([20, 18], [18, 20]), ([21, 18], [18, 21]), ([22, 18, 18], [18, 22]), ([23, 18], [18, 23]), ([18, 24], [18, 24]), ([25, 23], [25]), ([26], [26]), ([27, 26], [26, 27]), ([28, 26], [26, 28]), ([29, 26], [26, 29]), ([30, 26], [26, 30]), ([26], [26]), ([26], [26]), ([33, 26], [26, 33]), ([34, 26], [26, 34]), ([35, 26], [26, 35]), ([32, 36, 26], [26, 32, 36]), ([31, 37, 26], [26, 31, 37]), ([26, 38], [26, 38])])
def impl_Sparse_numbers.B2 : List Nat := [0, 1, 3, 7, 7, 23, 55, 119, 255, 511, 1023, 2047, 4095, 8191, 16383, 32767, 65535, 131071, 262143, 524287, 1048575, 2097151, 4194303, 8388607, 16777215, 33554431, 67108863, 134217727, 268435455, 536870911, 1073741823, 2147483647, 134217727, 134217727, 8724152319, 25904021503, 60263759871, 133278203903, 274877906943, 549755813887]
theorem impl_Sparse_numbers.tab2 : rtab .any (opsOf Try.f37 2) = impl_Sparse_numbers.T2 := by kernel_rfl
theorem impl_Sparse_numbers.bits2 : waitsOk impl_Sparse_numbers.T2.2 impl_Sparse_numbers.B2 = true := by kernel_rfl
def impl_Sparse_numbers.T10 : Bool × List (List Nat × List Nat) := (true, [([], []), ([], []), ([], []), ([1, 2], [1, 2]), ([], []), ([3, 4], [3, 4]), ([], []), ([6], [6]), ([7], [7]), ([], []), ([], []), ([9, 10], [9, 10]), ([], []), ([8, 11, 12], [8, 11, 12]), ([5, 13], [5, 13]), ([14], [14]), ([0, 15, 13], [0, 15]), ([16, 16, 0, 1, 2, 3, 4, 5, 6, 7, 8, 9, 10, 11, 12, 13, 14, 15, 16], [0, 16])])
def impl_Sparse_numbers.B10 : List Nat := [0, 0, 0, 6, 0, 30, 0, 64, 192, 0, 0, 1536, 0, 8128, 16382, 32766, 65535, 131071]
theorem impl_Sparse_numbers.tab10 : rtab .any (opsOf Try.f37 10) = impl_Sparse_numbers.T10 := by kernel_rfl
theorem impl_Sparse_numbers.bits10 : waitsOk impl_Sparse_numbers.T10.2 impl_Sparse_numbers.B10 = true := by kernel_rfl
def impl_Sparse_numbers.T15 : Bool × List (List Nat × List Nat) := (true, [([], []), ([], []), ([1], [1]), ([], []), ([3], [3]), ([4], [4]), ([5], [5]), ([2, 6], [2, 6]), ([7, 7], [7]), ([8], [8]), ([9, 8], [8, 9]), ([8], [8]), ([11, 8], [8, 11]), ([12, 8], [8, 12]), ([13, 8], [8, 13]), ([10, 14, 8, 8], [8, 10, 14]), ([8, 15], [8, 15]), ([0, 15, 0], [0]), ([16, 17, 0, 1, 2, 3, 4, 5, 6, 7, 8, 9, 10, 11, 12, 13, 14, 15, 16, 17], [16])])
def impl_Sparse_numbers.B15 : List Nat := [0, 0, 2, 0, 8, 24, 56, 126, 254, 510, 1022, 510, 2558, 6654, 14846, 32766, 65534, 65535, 262143]
theorem impl_Sparse_numbers.tab15 : rtab .any (opsOf Try.f37 15) = impl_Sparse_numbers.T15 := by kernel_rfl
theorem impl_Sparse_numbers.bits15 : waitsOk impl_Sparse_numbers.T15.2 impl_Sparse_numbers.B15 = true := by kernel_rfl
set_option maxHeartbeats 8000000 in
set_option maxRecDepth 100000 in
theorem impl_Sparse_numbers.calls (k : Nat) (gb0_ : Nat) (a0_0 : Int) (a0_1 : Int) (a0_2 : Int) (a0_3 : Int) (A0_4 : Option Addr) (c0_4 : Nat) (l0_4 : List Int) (a0_5 : Int) (A0_6 : Option Addr) (c0_6 : Nat) (l0_6 : List Int) (r1 : List Int) (r2 : Bool) (w : World) (hr0_4 : Kd.C (Kd.int .i64) w A0_4 l0_4.length l0_4) (hc0_4 : l0_4.length ≤ c0_4) (hr0_6 : Kd.C (Kd.int .i64) w A0_6 l0_6.length l0_6) (hc0_6 : l0_6.length ≤ c0_6) (hb0_ : w.heap[gb0_]? = some (.cells #[.int .i64 a0_0, .int .i64 a0_1, .int .i64 a0_2, .int .i64 a0_3, .slice A0_4 l0_4.length c0_4, .int .i64 a0_5, .slice A0_6 l0_6.length c0_6] 30 (0, 0))) (h : impl_Sparse_numbers.f k a0_0 a0_1 a0_2 a0_3 l0_4 a0_5 l0_6 = some (r1, r2)) :
    Calls Try.prog 37 #[.pointer (some ⟨gb0_, 0, none⟩)] w fun e w' => ∃ v0_ : Value, e = .returned (.tuple #[v0_, .bool r2]) ∧ Kd.R (Kd.int .i64) 3 w' w.heap.size (fun _ => True) v0_ r1 ∧ Below w.heap.size w w' := by
  have hu28 := Try.underlying28; have hu30 := Try.underlying30; have HR0_4 := Qx hr0_4; have HC0_4 := Qx hc0_4; clear hr0_4 hc0_4; have HR0_6 := Qx hr0_6; have HC0_6 := Qx hc0_6; clear hr0_6 hc0_6; have BK0 := Qx hb0_; clear hb0_
  have HB := Qx (Below.refl w.heap.size w)
  have H : ((impl_WidthFor.f k a0_0 a0_1).bind fun bt317 => (if bt317.2 = true then (if bt317.1 = a0_2 then ((impl_IsBits.f k a0_3 l0_4).bind fun t319 => (if t319 = true then ((impl_IsBits.f k a0_5 l0_6).bind fun t320 => (if t320 = true then (impl_Sparse_numbers.j0 k bt317.1 (a0_3 != (wrap64 (bt317.1 * a0_0))) a0_0 a0_1 a0_2 a0_3 l0_4 a0_5 l0_6) else (impl_Sparse_numbers.j0 k bt317.1 true a0_0 a0_1 a0_2 a0_3 l0_4 a0_5 l0_6))) else (impl_Sparse_numbers.j0 k bt317.1 true a0_0 a0_1 a0_2 a0_3 l0_4 a0_5 l0_6))) else (impl_Sparse_numbers.j0 k bt317.1 true a0_0 a0_1 a0_2 a0_3 l0_4 a0_5 l0_6)) else (impl_Sparse_numbers.j0 k bt317.1 true a0_0 a0_1 a0_2 a0_3 l0_4 a0_5 l0_6))) = some (r1, r2) := h
  clear h; replace H := Option.bind_eq_some_iff.mp H; obtain ⟨⟨t317, t318⟩, A20, H⟩ := H
  have A2 := Qx A20; clear A20; have HC3 := Qx H; clear H
  go_enter Try.func37, Try.ntmps37
  try go_wp2
  replace BK0 := Qx (Qw BK0.out)
  replace HB := Qx (Qd HB.out)
  refine start_ (n := 14) (S := fun w' => w'.cell? ⟨gb0_, 0, none⟩ = some (.int .i64 a0_0) ∧ w'.cell? ⟨gb0_, 1, none⟩ = some (.int .i64 a0_1) ∧ w'.cell? ⟨gb0_, 2, none⟩ = some (.int .i64 a0_2) ∧ w'.cell? ⟨gb0_, 3, none⟩ = some (.int .i64 a0_3) ∧ w'.cell? ⟨gb0_, 4, none⟩ = some (.slice A0_4 l0_4.length c0_4) ∧ w'.cell? ⟨gb0_, 5, none⟩ = some (.int .i64 a0_5) ∧ w'.cell? ⟨gb0_, 6, none⟩ = some (.slice A0_6 l0_6.length c0_6)) (ds := []) #[false, false, false, false, false, false, false, false, false, false, false, false, false, false] (by kernel_rfl) rfl rfl ⟨(Qc BK0.out 0).trans rfl, (Qc BK0.out 1).trans rfl, (Qc BK0.out 2).trans rfl, (Qc BK0.out 3).trans rfl, (Qc BK0.out 4).trans rfl, (Qc BK0.out 5).trans rfl, (Qc BK0.out 6).trans rfl⟩ (fun hHeld => ?_); refine with_tabW impl_Sparse_numbers.tab1 impl_Sparse_numbers.bits1 (fun HT_ HW_ => ?_)
  generalize w.drew = w4 at BK0 HB hHeld ⊢
  refine pr_ 0 11 14 1 ?_
  refine pr_ 1 12 14 3 ?_
  refine pr_ 2 13 14 7 ?_
  refine pr_ 4 15 14 23 ?_
  refine pr_ 5 16 14 55 ?_
  refine pr_ 6 17 14 119 ?_
  refine tq_ 3 14 14 127 HT_.out HW_.out (by kernel_rfl) hHeld ?_ rfl (by rintro w' ⟨s0, s1, s2, s3, s4, s5, s6⟩; go_simp; with_reducible rfl)
  refine tq_ 7 18 14 255 HT_.out HW_.out (by kernel_rfl) hHeld ?_ rfl (by rintro w' ⟨s0, s1, s2, s3, s4, s5, s6⟩; go_simp; with_reducible rfl)
  refine one_ (i := 8) (N := some 19) (bsA 14 511) rfl rfl (one_of HT_.out (by kernel_rfl)) (by decide) (fun K hK => ?_)
  refine goes_ Try.func41 (by kernel_rfl) rfl #[.int .i64 a0_0, .int .i64 a0_1] (by rfl) rfl rfl (by (try simp only [List.map_toArray, List.map_cons, List.map_nil]); first | done | rfl | (simp only [List.length_drop, List.length_take]; rfl)) ?_
  with_reducible refine (impl_WidthFor.calls k a0_0 a0_1 t317 t318 _ A2.out).mono ?_
  rintro e w5 ⟨rfl, hb⟩
  refine ⟨_, rfl, ?_⟩
  replace BK0 := Qx (Qb (kB_ BK0) hb)
  replace HB := Qx (Qp hB_ hb)
  (try clear hb); (try clear hb2); (try clear hk); (try clear hi)
  refine hK.out _ _ ⟨(Qc BK0.out 0).trans rfl, (Qc BK0.out 1).trans rfl, (Qc BK0.out 2).trans rfl, (Qc BK0.out 3).trans rfl, (Qc BK0.out 4).trans rfl, (Qc BK0.out 5).trans rfl, (Qc BK0.out 6).trans rfl⟩ (fun hHeld => ?_)
  clear hK K
  refine norm_ (a' := ?_) ?_ ?_
  rotate_left
  ·show Act.put _ (some 19) _ = _
   simp only [Act.put, List.setIfInBounds_toArray, List.set_cons_zero, List.set_cons_succ, i64_w]
   rfl
  refine pr_ 9 10 14 1023 ?_
  refine pr_ 10 20 14 2047 ?_
  refine pr_ 11 21 14 4095 ?_
  refine pr_ 12 4 14 8191 ?_
  refine pr_ 13 5 14 16383 ?_
  refine done_ (done_of HT_.out (by kernel_rfl)) ?_
  go_upto_region 2 with (fail)
  go_cut [61] (fun v61 wc => ∃ (kq : Nat) (x61_2 : Bool), v61 = .bool x61_2 ∧ Aside0 (impl_Sparse_numbers.j0 kq t317 x61_2 a0_0 a0_1 a0_2 a0_3 l0_4 a0_5 l0_6 = some (r1, r2)) ∧ Aside0 (kq ≤ k) ∧ Aside0 (wc.heap[gb0_]? = some (.cells #[.int .i64 a0_0, .int .i64 a0_1, .int .i64 a0_2, .int .i64 a0_3, (.slice A0_4 l0_4.length c0_4), .int .i64 a0_5, (.slice A0_6 l0_6.length c0_6)] 30 (0, 0))) ∧ Aside0 (Below w.heap.size w wc))
  case first =>
   have H := HC3.out; clear HC3
   by_cases c6 : t318 = true
   ·subst c6
    have H1 : (if t317 = a0_2 then ((impl_IsBits.f k a0_3 l0_4).bind fun t319 => (if t319 = true then ((impl_IsBits.f k a0_5 l0_6).bind fun t320 => (if t320 = true then (impl_Sparse_numbers.j0 k t317 (a0_3 != (wrap64 (t317 * a0_0))) a0_0 a0_1 a0_2 a0_3 l0_4 a0_5 l0_6) else (impl_Sparse_numbers.j0 k t317 true a0_0 a0_1 a0_2 a0_3 l0_4 a0_5 l0_6))) else (impl_Sparse_numbers.j0 k t317 true a0_0 a0_1 a0_2 a0_3 l0_4 a0_5 l0_6))) else (impl_Sparse_numbers.j0 k t317 true a0_0 a0_1 a0_2 a0_3 l0_4 a0_5 l0_6)) = some (r1, r2) := by rw [if_pos rfl] at H; exact H
    clear H; have H := H1; clear H1
    by_cases c7 : t317 = a0_2
    ·rw [if_pos c7] at H
     have c7b0 : (t317 == a0_2) = true := beq_iff_eq.mpr c7
     have c7b1 : (t317 != a0_2) = false := bne_eq_false_iff_eq.mpr c7
     clear c7
     (first | rw [c7b0] | (simp only [i64_w, i32_w]; rw [c7b0]) | skip)
     replace H := Option.bind_eq_some_iff.mp H; obtain ⟨t319, A80, H⟩ := H
     have A8 := Qx A80; clear A80
     by_cases c9 : t319 = true
     ·subst c9
      have H1 : ((impl_IsBits.f k a0_5 l0_6).bind fun t320 => (if t320 = true then (impl_Sparse_numbers.j0 k t317 (a0_3 != (wrap64 (t317 * a0_0))) a0_0 a0_1 a0_2 a0_3 l0_4 a0_5 l0_6) else (impl_Sparse_numbers.j0 k t317 true a0_0 a0_1 a0_2 a0_3 l0_4 a0_5 l0_6))) = some (r1, r2) := by rw [if_pos rfl] at H; exact H
      clear H; have H := H1; clear H1; replace H := Option.bind_eq_some_iff.mp H; obtain ⟨t320, A100, H⟩ := H
      have A10 := Qx A100; clear A100
      by_cases c11 : t320 = true
      ·subst c11
       have H1 : (impl_Sparse_numbers.j0 k t317 (a0_3 != (wrap64 (t317 * a0_0))) a0_0 a0_1 a0_2 a0_3 l0_4 a0_5 l0_6) = some (r1, r2) := by rw [if_pos rfl] at H; exact H
       clear H; have H := H1; clear H1; have H' := Qx H; clear H
       try go_wp2
       replace BK0 := Qx (Qw BK0.out)
       replace HB := Qx (Qd HB.out)
       refine start_ (n := 40) (S := fun w' => w'.cell? ⟨gb0_, 0, none⟩ = some (.int .i64 a0_0) ∧ w'.cell? ⟨gb0_, 1, none⟩ = some (.int .i64 a0_1) ∧ w'.cell? ⟨gb0_, 2, none⟩ = some (.int .i64 a0_2) ∧ w'.cell? ⟨gb0_, 3, none⟩ = some (.int .i64 a0_3) ∧ w'.cell? ⟨gb0_, 4, none⟩ = some (.slice A0_4 l0_4.length c0_4) ∧ w'.cell? ⟨gb0_, 5, none⟩ = some (.int .i64 a0_5) ∧ w'.cell? ⟨gb0_, 6, none⟩ = some (.slice A0_6 l0_6.length c0_6)) (ds := []) #[false, false, false, false, false, false, false, false, false, false, false, false, false, false, false, false, false, false, false, false, false, false, false, false, false, false, false, false, false, false, false, false, false, false, false, false, false, false, false, false] (by kernel_rfl) rfl rfl ⟨(Qc BK0.out 0).trans rfl, (Qc BK0.out 1).trans rfl, (Qc BK0.out 2).trans rfl, (Qc BK0.out 3).trans rfl, (Qc BK0.out 4).trans rfl, (Qc BK0.out 5).trans rfl, (Qc BK0.out 6).trans rfl⟩ (fun hHeld => ?_); refine with_tabW impl_Sparse_numbers.tab2 impl_Sparse_numbers.bits2 (fun HT_ HW_ => ?_)
       generalize w5.drew = w12 at BK0 HB hHeld ⊢
       refine pr_ 0 22 40 1 ?_
       refine pr_ 1 23 40 3 ?_
       refine pr_ 2 24 40 7 ?_
       refine pr_ 3 25 40 15 ?_
       refine pr_ 4 26 40 31 ?_
       refine pr_ 5 27 40 63 ?_
       refine pr_ 6 28 40 127 ?_
       refine tq_ 7 29 40 255 HT_.out HW_.out (by kernel_rfl) hHeld ?_ rfl (by rintro w' ⟨s0, s1, s2, s3, s4, s5, s6⟩; go_simp; with_reducible rfl)
       refine pr_ 8 30 40 511 ?_
       refine pr_ 9 31 40 1023 ?_
       refine pr_ 10 32 40 2047 ?_
       refine pr_ 11 33 40 4095 ?_
       refine pr_ 12 34 40 8191 ?_
       refine pr_ 13 35 40 16383 ?_
       refine tq_ 14 36 40 32767 HT_.out HW_.out (by kernel_rfl) hHeld ?_ rfl (by rintro w' ⟨s0, s1, s2, s3, s4, s5, s6⟩; go_simp; with_reducible rfl)
       refine one_ (i := 15) (N := some 37) (bsA 40 65535) rfl rfl (one_of HT_.out (by kernel_rfl)) (by decide) (fun K hK => ?_)
       refine goes_ Try.func52 (by kernel_rfl) rfl #[.agg #[.int .i64 a0_3, .slice A0_4 l0_4.length c0_4]] (by rfl) rfl rfl (by (try simp only [List.map_toArray, List.map_cons, List.map_nil]); first | done | rfl | (simp only [List.length_drop, List.length_take]; rfl)) ?_
       with_reducible refine (impl_IsBits.calls k a0_3 _ _ l0_4 true _ ?side1 ?side2 A8.out).mono ?_
       (case side1 => exact kC_ HR0_4)
       (case side2 => exact HC0_4.out)
       rintro e w13 ⟨rfl, hb⟩
       refine ⟨_, rfl, ?_⟩
       replace BK0 := Qx (Qb (kB_ BK0) hb)
       replace HB := Qx (Qp hB_ hb)
       (try clear hb); (try clear hb2); (try clear hk); (try clear hi)
       refine hK.out _ _ ⟨(Qc BK0.out 0).trans rfl, (Qc BK0.out 1).trans rfl, (Qc BK0.out 2).trans rfl, (Qc BK0.out 3).trans rfl, (Qc BK0.out 4).trans rfl, (Qc BK0.out 5).trans rfl, (Qc BK0.out 6).trans rfl⟩ (fun hHeld => ?_)
       clear hK K
       refine norm_ (a' := ?_) ?_ ?_
       rotate_left
       ·show Act.put _ (some 37) _ = _
        simp only [Act.put, List.setIfInBounds_toArray, List.set_cons_zero, List.set_cons_succ, i64_w]
        rfl
       refine pr_ 16 38 40 131071 ?_
       refine pr_ 17 39 40 262143 ?_
       refine pr_ 18 40 40 524287 ?_
       refine pr_ 19 41 40 1048575 ?_
       refine pr_ 20 42 40 2097151 ?_
       refine pr_ 21 43 40 4194303 ?_
       refine tq_ 22 44 40 8388607 HT_.out HW_.out (by kernel_rfl) hHeld ?_ rfl (by rintro w' ⟨s0, s1, s2, s3, s4, s5, s6⟩; go_simp; with_reducible rfl)
       refine one_ (i := 23) (N := some 45) (bsA 40 16777215) rfl rfl (one_of HT_.out (by kernel_rfl)) (by decide) (fun K hK => ?_)
       refine goes_ Try.func52 (by kernel_rfl) rfl #[.agg #[.int .i64 a0_5, .slice A0_6 l0_6.length c0_6]] (by rfl) rfl rfl (by (try simp only [List.map_toArray, List.map_cons, List.map_nil]); first | done | rfl | (simp only [List.length_drop, List.length_take]; rfl)) ?_
       with_reducible refine (impl_IsBits.calls k a0_5 _ _ l0_6 true _ ?side1 ?side2 A10.out).mono ?_
       (case side1 => exact kC_ HR0_6)
       (case side2 => exact HC0_6.out)
       rintro e w14 ⟨rfl, hb⟩
       refine ⟨_, rfl, ?_⟩
       replace BK0 := Qx (Qb (kB_ BK0) hb)
       replace HB := Qx (Qp hB_ hb)
       (try clear hb); (try clear hb2); (try clear hk); (try clear hi)
       refine hK.out _ _ ⟨(Qc BK0.out 0).trans rfl, (Qc BK0.out 1).trans rfl, (Qc BK0.out 2).trans rfl, (Qc BK0.out 3).trans rfl, (Qc BK0.out 4).trans rfl, (Qc BK0.out 5).trans rfl, (Qc BK0.out 6).trans rfl⟩ (fun hHeld => ?_)
       clear hK K
       refine norm_ (a' := ?_) ?_ ?_
       rotate_left
       ·show Act.put _ (some 45) _ = _
        simp only [Act.put, List.setIfInBounds_toArray, List.set_cons_zero, List.set_cons_succ, i64_w]
        rfl
       refine pr_ 24 46 40 33554431 ?_
       refine pr_ 25 47 40 67108863 ?_
       refine pr_ 26 48 40 134217727 ?_
       refine pr_ 27 49 40 268435455 ?_
       refine pr_ 28 50 40 536870911 ?_
       refine pr_ 29 51 40 1073741823 ?_
       refine pr_ 30 52 40 2147483647 ?_
       refine pr_ 32 54 40 6442450943 ?_
       refine pr_ 33 55 40 15032385535 ?_
       refine pr_ 34 56 40 32212254719 ?_
       refine pr_ 35 57 40 66571993087 ?_
       refine tq_ 31 53 40 68719476735 HT_.out HW_.out (by kernel_rfl) hHeld ?_ rfl (by rintro w' ⟨s0, s1, s2, s3, s4, s5, s6⟩; go_simp; with_reducible rfl)
       refine tq_ 36 58 40 137438953471 HT_.out HW_.out (by kernel_rfl) hHeld ?_ rfl (by rintro w' ⟨s0, s1, s2, s3, s4, s5, s6⟩; go_simp; with_reducible rfl)
       refine pr_ 37 59 40 274877906943 ?_
       refine pr_ 38 60 40 549755813887 ?_
       refine pr_ 39 61 40 1099511627775 ?_
       refine done_ (done_of HT_.out (by kernel_rfl)) ?_
       try go_wp2
       go_meet
       case rel => exact ⟨_, ((a0_3 != (wrap64 (t317 * a0_0)))), rg_, H', ⟨by first | omega | exact Nat.le_refl _⟩, ⟨kB_ BK0⟩, ⟨hB_⟩⟩
      ·replace c11 := Bool.eq_false_iff.mpr c11; subst c11
       have H1 : (impl_Sparse_numbers.j0 k t317 true a0_0 a0_1 a0_2 a0_3 l0_4 a0_5 l0_6) = some (r1, r2) := by rw [if_neg (show ¬ (false = true) by decide)] at H; exact H
       clear H; have H := H1; clear H1; have H' := Qx H; clear H
       try go_wp2
       replace BK0 := Qx (Qw BK0.out)
       replace HB := Qx (Qd HB.out)
       refine start_ (n := 40) (S := fun w' => w'.cell? ⟨gb0_, 0, none⟩ = some (.int .i64 a0_0) ∧ w'.cell? ⟨gb0_, 1, none⟩ = some (.int .i64 a0_1) ∧ w'.cell? ⟨gb0_, 2, none⟩ = some (.int .i64 a0_2) ∧ w'.cell? ⟨gb0_, 3, none⟩ = some (.int .i64 a0_3) ∧ w'.cell? ⟨gb0_, 4, none⟩ = some (.slice A0_4 l0_4.length c0_4) ∧ w'.cell? ⟨gb0_, 5, none⟩ = some (.int .i64 a0_5) ∧ w'.cell? ⟨gb0_, 6, none⟩ = some (.slice A0_6 l0_6.length c0_6)) (ds := []) #[false, false, false, false, false, false, false, false, false, false, false, false, false, false, false, false, false, false, false, false, false, false, false, false, false, false, false, false, false, false, false, false, false, false, false, false, false, false, false, false] (by kernel_rfl) rfl rfl ⟨(Qc BK0.out 0).trans rfl, (Qc BK0.out 1).trans rfl, (Qc BK0.out 2).trans rfl, (Qc BK0.out 3).trans rfl, (Qc BK0.out 4).trans rfl, (Qc BK0.out 5).trans rfl, (Qc BK0.out 6).trans rfl⟩ (fun hHeld => ?_); refine with_tabW impl_Sparse_numbers.tab2 impl_Sparse_numbers.bits2 (fun HT_ HW_ => ?_)
       generalize w5.drew = w15 at BK0 HB hHeld ⊢
       refine pr_ 0 22 40 1 ?_
       refine pr_ 1 23 40 3 ?_
       refine pr_ 2 24 40 7 ?_
       refine pr_ 3 25 40 15 ?_
       refine pr_ 4 26 40 31 ?_
       refine pr_ 5 27 40 63 ?_
       refine pr_ 6 28 40 127 ?_
       refine tq_ 7 29 40 255 HT_.out HW_.out (by kernel_rfl) hHeld ?_ rfl (by rintro w' ⟨s0, s1, s2, s3, s4, s5, s6⟩; go_simp; with_reducible rfl)
       refine pr_ 8 30 40 511 ?_
       refine pr_ 9 31 40 1023 ?_
       refine pr_ 10 32 40 2047 ?_
       refine pr_ 11 33 40 4095 ?_
       refine pr_ 12 34 40 8191 ?_
       refine pr_ 13 35 40 16383 ?_
       refine tq_ 14 36 40 32767 HT_.out HW_.out (by kernel_rfl) hHeld ?_ rfl (by rintro w' ⟨s0, s1, s2, s3, s4, s5, s6⟩; go_simp; with_reducible rfl)
       refine one_ (i := 15) (N := some 37) (bsA 40 65535) rfl rfl (one_of HT_.out (by kernel_rfl)) (by decide) (fun K hK => ?_)
       refine goes_ Try.func52 (by kernel_rfl) rfl #[.agg #[.int .i64 a0_3, .slice A0_4 l0_4.length c0_4]] (by rfl) rfl rfl (by (try simp only [List.map_toArray, List.map_cons, List.map_nil]); first | done | rfl | (simp only [List.length_drop, List.length_take]; rfl)) ?_
       with_reducible refine (impl_IsBits.calls k a0_3 _ _ l0_4 true _ ?side1 ?side2 A8.out).mono ?_
       (case side1 => exact kC_ HR0_4)
       (case side2 => exact HC0_4.out)
       rintro e w16 ⟨rfl, hb⟩
       refine ⟨_, rfl, ?_⟩
       replace BK0 := Qx (Qb (kB_ BK0) hb)
       replace HB := Qx (Qp hB_ hb)
       (try clear hb); (try clear hb2); (try clear hk); (try clear hi)
       refine hK.out _ _ ⟨(Qc BK0.out 0).trans rfl, (Qc BK0.out 1).trans rfl, (Qc BK0.out 2).trans rfl, (Qc BK0.out 3).trans rfl, (Qc BK0.out 4).trans rfl, (Qc BK0.out 5).trans rfl, (Qc BK0.out 6).trans rfl⟩ (fun hHeld => ?_)
       clear hK K
       refine norm_ (a' := ?_) ?_ ?_
       rotate_left
       ·show Act.put _ (some 37) _ = _
        simp only [Act.put, List.setIfInBounds_toArray, List.set_cons_zero, List.set_cons_succ, i64_w]
        rfl
       refine pr_ 16 38 40 131071 ?_
       refine pr_ 17 39 40 262143 ?_
       refine pr_ 18 40 40 524287 ?_
       refine pr_ 19 41 40 1048575 ?_
       refine pr_ 20 42 40 2097151 ?_
       refine pr_ 21 43 40 4194303 ?_
       refine tq_ 22 44 40 8388607 HT_.out HW_.out (by kernel_rfl) hHeld ?_ rfl (by rintro w' ⟨s0, s1, s2, s3, s4, s5, s6⟩; go_simp; with_reducible rfl)
       refine one_ (i := 23) (N := some 45) (bsA 40 16777215) rfl rfl (one_of HT_.out (by kernel_rfl)) (by decide) (fun K hK => ?_)
       refine goes_ Try.func52 (by kernel_rfl) rfl #[.agg #[.int .i64 a0_5, .slice A0_6 l0_6.length c0_6]] (by rfl) rfl rfl (by (try simp only [List.map_toArray, List.map_cons, List.map_nil]); first | done | rfl | (simp only [List.length_drop, List.length_take]; rfl)) ?_
       with_reducible refine (impl_IsBits.calls k a0_5 _ _ l0_6 false _ ?side1 ?side2 A10.out).mono ?_
       (case side1 => exact kC_ HR0_6)
       (case side2 => exact HC0_6.out)
       rintro e w17 ⟨rfl, hb⟩
       refine ⟨_, rfl, ?_⟩
       replace BK0 := Qx (Qb (kB_ BK0) hb)
       replace HB := Qx (Qp hB_ hb)
       (try clear hb); (try clear hb2); (try clear hk); (try clear hi)
       refine hK.out _ _ ⟨(Qc BK0.out 0).trans rfl, (Qc BK0.out 1).trans rfl, (Qc BK0.out 2).trans rfl, (Qc BK0.out 3).trans rfl, (Qc BK0.out 4).trans rfl, (Qc BK0.out 5).trans rfl, (Qc BK0.out 6).trans rfl⟩ (fun hHeld => ?_)
       clear hK K
       refine norm_ (a' := ?_) ?_ ?_
       rotate_left
       ·show Act.put _ (some 45) _ = _
        simp only [Act.put, List.setIfInBounds_toArray, List.set_cons_zero, List.set_cons_succ, i64_w]
        rfl
       refine pr_ 24 46 40 33554431 ?_
       refine pr_ 25 47 40 67108863 ?_
       refine pr_ 26 48 40 134217727 ?_
       refine ur_ 27 49 40 268435455 ?_
       refine ur_ 28 50 40 536870911 ?_
       refine ur_ 29 51 40 1073741823 ?_
       refine ur_ 30 52 40 2147483647 ?_
       refine ur_ 31 53 40 4294967295 ?_
       refine ur_ 32 54 40 8589934591 ?_
       refine ur_ 33 55 40 17179869183 ?_
       refine ur_ 34 56 40 34359738367 ?_
       refine ur_ 35 57 40 68719476735 ?_
       refine ur_ 36 58 40 137438953471 ?_
       refine ur_ 37 59 40 274877906943 ?_
       refine ur_ 38 60 40 549755813887 ?_
       refine pr_ 39 61 40 1099511627775 ?_
       refine done_ (done_of HT_.out (by kernel_rfl)) ?_
       try go_wp2
       go_meet
       case rel => exact ⟨_, (true), rg_, H', ⟨by first | omega | exact Nat.le_refl _⟩, ⟨kB_ BK0⟩, ⟨hB_⟩⟩
     ·replace c9 := Bool.eq_false_iff.mpr c9; subst c9
      have H1 : (impl_Sparse_numbers.j0 k t317 true a0_0 a0_1 a0_2 a0_3 l0_4 a0_5 l0_6) = some (r1, r2) := by rw [if_neg (show ¬ (false = true) by decide)] at H; exact H
      clear H; have H := H1; clear H1; have H' := Qx H; clear H
      try go_wp2
      replace BK0 := Qx (Qw BK0.out)
      replace HB := Qx (Qd HB.out)
      refine start_ (n := 40) (S := fun w' => w'.cell? ⟨gb0_, 0, none⟩ = some (.int .i64 a0_0) ∧ w'.cell? ⟨gb0_, 1, none⟩ = some (.int .i64 a0_1) ∧ w'.cell? ⟨gb0_, 2, none⟩ = some (.int .i64 a0_2) ∧ w'.cell? ⟨gb0_, 3, none⟩ = some (.int .i64 a0_3) ∧ w'.cell? ⟨gb0_, 4, none⟩ = some (.slice A0_4 l0_4.length c0_4) ∧ w'.cell? ⟨gb0_, 5, none⟩ = some (.int .i64 a0_5) ∧ w'.cell? ⟨gb0_, 6, none⟩ = some (.slice A0_6 l0_6.length c0_6)) (ds := []) #[false, false, false, false, false, false, false, false, false, false, false, false, false, false, false, false, false, false, false, false, false, false, false, false, false, false, false, false, false, false, false, false, false, false, false, false, false, false, false, false] (by kernel_rfl) rfl rfl ⟨(Qc BK0.out 0).trans rfl, (Qc BK0.out 1).trans rfl, (Qc BK0.out 2).trans rfl, (Qc BK0.out 3).trans rfl, (Qc BK0.out 4).trans rfl, (Qc BK0.out 5).trans rfl, (Qc BK0.out 6).trans rfl⟩ (fun hHeld => ?_); refine with_tabW impl_Sparse_numbers.tab2 impl_Sparse_numbers.bits2 (fun HT_ HW_ => ?_)
      generalize w5.drew = w18 at BK0 HB hHeld ⊢
      refine pr_ 0 22 40 1 ?_
      refine pr_ 1 23 40 3 ?_
      refine pr_ 2 24 40 7 ?_
      refine pr_ 3 25 40 15 ?_
      refine pr_ 4 26 40 31 ?_
      refine pr_ 5 27 40 63 ?_
      refine pr_ 6 28 40 127 ?_
      refine tq_ 7 29 40 255 HT_.out HW_.out (by kernel_rfl) hHeld ?_ rfl (by rintro w' ⟨s0, s1, s2, s3, s4, s5, s6⟩; go_simp; with_reducible rfl)
      refine pr_ 8 30 40 511 ?_
      refine pr_ 9 31 40 1023 ?_
      refine pr_ 10 32 40 2047 ?_
      refine pr_ 11 33 40 4095 ?_
      refine pr_ 12 34 40 8191 ?_
      refine pr_ 13 35 40 16383 ?_
      refine tq_ 14 36 40 32767 HT_.out HW_.out (by kernel_rfl) hHeld ?_ rfl (by rintro w' ⟨s0, s1, s2, s3, s4, s5, s6⟩; go_simp; with_reducible rfl)
      refine one_ (i := 15) (N := some 37) (bsA 40 65535) rfl rfl (one_of HT_.out (by kernel_rfl)) (by decide) (fun K hK => ?_)
      refine goes_ Try.func52 (by kernel_rfl) rfl #[.agg #[.int .i64 a0_3, .slice A0_4 l0_4.length c0_4]] (by rfl) rfl rfl (by (try simp only [List.map_toArray, List.map_cons, List.map_nil]); first | done | rfl | (simp only [List.length_drop, List.length_take]; rfl)) ?_
      with_reducible refine (impl_IsBits.calls k a0_3 _ _ l0_4 false _ ?side1 ?side2 A8.out).mono ?_
      (case side1 => exact kC_ HR0_4)
      (case side2 => exact HC0_4.out)
      rintro e w19 ⟨rfl, hb⟩
      refine ⟨_, rfl, ?_⟩
      replace BK0 := Qx (Qb (kB_ BK0) hb)
      replace HB := Qx (Qp hB_ hb)
      (try clear hb); (try clear hb2); (try clear hk); (try clear hi)
      refine hK.out _ _ ⟨(Qc BK0.out 0).trans rfl, (Qc BK0.out 1).trans rfl, (Qc BK0.out 2).trans rfl, (Qc BK0.out 3).trans rfl, (Qc BK0.out 4).trans rfl, (Qc BK0.out 5).trans rfl, (Qc BK0.out 6).trans rfl⟩ (fun hHeld => ?_)
      clear hK K
      refine norm_ (a' := ?_) ?_ ?_
      rotate_left
      ·show Act.put _ (some 37) _ = _
       simp only [Act.put, List.setIfInBounds_toArray, List.set_cons_zero, List.set_cons_succ, i64_w]
       rfl
      refine pr_ 16 38 40 131071 ?_
      refine pr_ 17 39 40 262143 ?_
      refine pr_ 18 40 40 524287 ?_
      refine ur_ 19 41 40 1048575 ?_
      refine ur_ 20 42 40 2097151 ?_
      refine ur_ 21 43 40 4194303 ?_
      refine ur_ 22 44 40 8388607 ?_
      refine ur_ 23 45 40 16777215 ?_
      refine ur_ 24 46 40 33554431 ?_
      refine pr_ 25 47 40 67108863 ?_
      refine pr_ 26 48 40 134217727 ?_
      refine ur_ 27 49 40 268435455 ?_
      refine ur_ 28 50 40 536870911 ?_
      refine ur_ 29 51 40 1073741823 ?_
      refine ur_ 30 52 40 2147483647 ?_
      refine ur_ 31 53 40 4294967295 ?_
      refine ur_ 32 54 40 8589934591 ?_
      refine ur_ 33 55 40 17179869183 ?_
      refine ur_ 34 56 40 34359738367 ?_
      refine ur_ 35 57 40 68719476735 ?_
      refine ur_ 36 58 40 137438953471 ?_
      refine ur_ 37 59 40 274877906943 ?_
      refine ur_ 38 60 40 549755813887 ?_
      refine pr_ 39 61 40 1099511627775 ?_
      refine done_ (done_of HT_.out (by kernel_rfl)) ?_
      try go_wp2
      go_meet
      case rel => exact ⟨_, (true), rg_, H', ⟨by first | omega | exact Nat.le_refl _⟩, ⟨kB_ BK0⟩, ⟨hB_⟩⟩
    ·rw [if_neg c7] at H
     have c7b0 : (t317 == a0_2) = false := beq_eq_false_iff_ne.mpr c7
     have c7b1 : (t317 != a0_2) = true := bne_iff_ne.mpr c7
     (first | rw [c7b0] | (simp only [i64_w, i32_w]; rw [c7b0]) | skip)
     have H' := Qx H; clear H
     try go_wp2
     replace BK0 := Qx (Qw BK0.out)
     replace HB := Qx (Qd HB.out)
     refine start_ (n := 40) (S := fun w' => w'.cell? ⟨gb0_, 0, none⟩ = some (.int .i64 a0_0) ∧ w'.cell? ⟨gb0_, 1, none⟩ = some (.int .i64 a0_1) ∧ w'.cell? ⟨gb0_, 2, none⟩ = some (.int .i64 a0_2) ∧ w'.cell? ⟨gb0_, 3, none⟩ = some (.int .i64 a0_3) ∧ w'.cell? ⟨gb0_, 4, none⟩ = some (.slice A0_4 l0_4.length c0_4) ∧ w'.cell? ⟨gb0_, 5, none⟩ = some (.int .i64 a0_5) ∧ w'.cell? ⟨gb0_, 6, none⟩ = some (.slice A0_6 l0_6.length c0_6)) (ds := []) #[false, false, false, false, false, false, false, false, false, false, false, false, false, false, false, false, false, false, false, false, false, false, false, false, false, false, false, false, false, false, false, false, false, false, false, false, false, false, false, false] (by kernel_rfl) rfl rfl ⟨(Qc BK0.out 0).trans rfl, (Qc BK0.out 1).trans rfl, (Qc BK0.out 2).trans rfl, (Qc BK0.out 3).trans rfl, (Qc BK0.out 4).trans rfl, (Qc BK0.out 5).trans rfl, (Qc BK0.out 6).trans rfl⟩ (fun hHeld => ?_); refine with_tabW impl_Sparse_numbers.tab2 impl_Sparse_numbers.bits2 (fun HT_ HW_ => ?_)
     generalize w5.drew = w20 at BK0 HB hHeld ⊢
     refine pr_ 0 22 40 1 ?_
     refine pr_ 1 23 40 3 ?_
     refine pr_ 2 24 40 7 ?_
     refine pr_ 3 25 40 15 ?_
     refine pr_ 4 26 40 31 ?_
     refine pr_ 5 27 40 63 ?_
     refine pr_ 6 28 40 127 ?_
     refine tq_ 7 29 40 255 HT_.out HW_.out (by kernel_rfl) hHeld ?_ rfl (by rintro w' ⟨s0, s1, s2, s3, s4, s5, s6⟩; go_simp; with_reducible rfl)
     refine pr_ 8 30 40 511 ?_
     refine pr_ 9 31 40 1023 ?_
     refine pr_ 10 32 40 2047 ?_
     refine ur_ 11 33 40 4095 ?_
     refine ur_ 12 34 40 8191 ?_
     refine ur_ 13 35 40 16383 ?_
     refine ur_ 14 36 40 32767 ?_
     refine ur_ 15 37 40 65535 ?_
     refine ur_ 16 38 40 131071 ?_
     refine pr_ 17 39 40 262143 ?_
     refine pr_ 18 40 40 524287 ?_
     refine ur_ 19 41 40 1048575 ?_
     refine ur_ 20 42 40 2097151 ?_
     refine ur_ 21 43 40 4194303 ?_
     refine ur_ 22 44 40 8388607 ?_
     refine ur_ 23 45 40 16777215 ?_
     refine ur_ 24 46 40 33554431 ?_
     refine pr_ 25 47 40 67108863 ?_
     refine pr_ 26 48 40 134217727 ?_
     refine ur_ 27 49 40 268435455 ?_
     refine ur_ 28 50 40 536870911 ?_
     refine ur_ 29 51 40 1073741823 ?_
     refine ur_ 30 52 40 2147483647 ?_
     refine ur_ 31 53 40 4294967295 ?_
     refine ur_ 32 54 40 8589934591 ?_
     refine ur_ 33 55 40 17179869183 ?_
     refine ur_ 34 56 40 34359738367 ?_
     refine ur_ 35 57 40 68719476735 ?_
     refine ur_ 36 58 40 137438953471 ?_
     refine ur_ 37 59 40 274877906943 ?_
     refine ur_ 38 60 40 549755813887 ?_
     refine pr_ 39 61 40 1099511627775 ?_
     refine done_ (done_of HT_.out (by kernel_rfl)) ?_
     try go_wp2
     go_meet
     case rel => exact ⟨_, (true), rg_, H', ⟨by first | omega | exact Nat.le_refl _⟩, ⟨kB_ BK0⟩, ⟨hB_⟩⟩
   ·replace c6 := Bool.eq_false_iff.mpr c6; subst c6
    have H1 : (impl_Sparse_numbers.j0 k t317 true a0_0 a0_1 a0_2 a0_3 l0_4 a0_5 l0_6) = some (r1, r2) := by rw [if_neg (show ¬ (false = true) by decide)] at H; exact H
    clear H; have H := H1; clear H1; have H' := Qx H; clear H
    try go_wp2
    replace BK0 := Qx (Qw BK0.out)
    replace HB := Qx (Qd HB.out)
    refine start_ (n := 40) (S := fun w' => True) (ds := []) #[false, false, false, false, false, false, false, false, false, false, false, false, false, false, false, false, false, false, false, false, false, false, false, false, false, false, false, false, false, false, false, false, false, false, false, false, false, false, false, false] (by kernel_rfl) rfl rfl trivial (fun hHeld => ?_); refine with_tabW impl_Sparse_numbers.tab2 impl_Sparse_numbers.bits2 (fun HT_ HW_ => ?_)
    generalize w5.drew = w21 at BK0 HB hHeld ⊢
    refine pr_ 0 22 40 1 ?_
    refine pr_ 1 23 40 3 ?_
    refine pr_ 2 24 40 7 ?_
    refine ur_ 3 25 40 15 ?_
    refine ur_ 4 26 40 31 ?_
    refine ur_ 5 27 40 63 ?_
    refine ur_ 6 28 40 127 ?_
    refine ur_ 7 29 40 255 ?_
    refine ur_ 8 30 40 511 ?_
    refine pr_ 9 31 40 1023 ?_
    refine pr_ 10 32 40 2047 ?_
    refine ur_ 11 33 40 4095 ?_
    refine ur_ 12 34 40 8191 ?_
    refine ur_ 13 35 40 16383 ?_
    refine ur_ 14 36 40 32767 ?_
    refine ur_ 15 37 40 65535 ?_
    refine ur_ 16 38 40 131071 ?_
    refine pr_ 17 39 40 262143 ?_
    refine pr_ 18 40 40 524287 ?_
    refine ur_ 19 41 40 1048575 ?_
    refine ur_ 20 42 40 2097151 ?_
    refine ur_ 21 43 40 4194303 ?_
    refine ur_ 22 44 40 8388607 ?_
    refine ur_ 23 45 40 16777215 ?_
    refine ur_ 24 46 40 33554431 ?_
    refine pr_ 25 47 40 67108863 ?_
    refine pr_ 26 48 40 134217727 ?_
    refine ur_ 27 49 40 268435455 ?_
    refine ur_ 28 50 40 536870911 ?_
    refine ur_ 29 51 40 1073741823 ?_
    refine ur_ 30 52 40 2147483647 ?_
    refine ur_ 31 53 40 4294967295 ?_
    refine ur_ 32 54 40 8589934591 ?_
    refine ur_ 33 55 40 17179869183 ?_
    refine ur_ 34 56 40 34359738367 ?_
    refine ur_ 35 57 40 68719476735 ?_
    refine ur_ 36 58 40 137438953471 ?_
    refine ur_ 37 59 40 274877906943 ?_
    refine ur_ 38 60 40 549755813887 ?_
    refine pr_ 39 61 40 1099511627775 ?_
    refine done_ (done_of HT_.out (by kernel_rfl)) ?_
    try go_wp2
    go_meet
    case rel => exact ⟨_, (true), rg_, H', ⟨by first | omega | exact Nat.le_refl _⟩, ⟨kB_ BK0⟩, ⟨hB_⟩⟩
  case rest =>
   clear HC3
   try clear p2
   try clear c6
   try clear c7
   try clear c7b0
   try clear c7b1
   obtain ⟨kq, x61_2, rfl, HA, HJ2, BK0, HB⟩ := hcut
   cases kq with
   | zero => exact absurd HA.out (by simp [impl_Sparse_numbers.j0])
   | succ kj2 =>
    have H := HA.out; clear HA; simp only [impl_Sparse_numbers.j0] at H
    by_cases c22 : x61_2 = true
    ·subst c22
     have H1 : (some (([] : List Int), false)) = some (r1, r2) := by rw [if_pos rfl] at H; exact H
     clear H; have H := H1; clear H1; simp only [Option.some.injEq, Prod.mk.injEq] at H; obtain ⟨rfl, rfl⟩ := H
     go_wp2
     go_ret2
     exact ⟨_, rf_, by first | exact Kd.R_nil _ _ _ _ _ | exact Kd.N_nil _ _ _ _ _ | exact Kd.V_nil _ _ _ _ _ | exact Kd.Q_nil _ _ _ _ _ | exact Kd.S_nil _ _ _ _ _, hB_⟩
    ·replace c22 := Bool.eq_false_iff.mpr c22; subst c22
     have H1 : (impl_Sparse_numbers.l0 kj2 t317 (([] : List Int)) a0_5 0 a0_0 a0_1 a0_2 a0_3 l0_4 a0_5 l0_6) = some (r1, r2) := by rw [if_neg (show ¬ (false = true) by decide)] at H; exact H
     clear H; have H := H1; clear H1
     obtain ⟨y321, hy321⟩ : ∃ y_ : List Int, y_ = (([] : List Int)) := ⟨_, rfl⟩
     replace H : (impl_Sparse_numbers.l0 kj2 t317 y321 a0_5 0 a0_0 a0_1 a0_2 a0_3 l0_4 a0_5 l0_6) = some (r1, r2) := by first | (rw [hy321]; with_reducible exact H) | (have H2_ := (Option.bind_some _ _).symm.trans H; rw [hy321]; with_reducible exact H2_) | (have H2_ := (Option.bind_some _ _).symm.trans H; with_reducible exact H2_) | with_reducible exact H | (rw [hy321]; exact H) | exact H
     have Ny321 := Qx hy321; clear hy321; have H' := Qx H; clear H
     go_wp2_with (first | ((with_reducible refine gate_dst (N := 62) rfl ?_); refine Kd.R_lit (Kd.int .i64) _ 3 ?hg (N := 62) ?hd (xs := ([] : List Int)) (inner := []) (ok := fun _ => True) (okp := fun _ => True) ?hr ?hp (fun _ hk => hk) trivial (Below.refl _ _) (Nat.le_refl _) (by simp) ?_; (case hd => rfl); (case hg => rfl); (case hr => first | (go_simp; done) | (go_simp; rfl)); (case hp => exact (Reps.none _ _)); intro v322 w23 ho24 hb hg_ hnew_; clear hg_ hnew_; (first | rw [← Ny321.out] at ho24 | (simp only [Int.reduceToNat] at ho24; rw [← Ny321.out] at ho24)); have HO323 := Qx (Kd.R_lower ho24 (Qz hB_)); replace BK0 := Qx (Qb (kB_ BK0) hb); replace HB := Qx (Qp hB_ hb); clear hb ho24; obtain ⟨hcz25_0, hcz25_1, hcz25_2, hcz25_3, hcz25_4, hcz25_5, hcz25_6, hfz25_0, hfz25_1, hfz25_2, hfz25_3, hfz25_4, hfz25_5, hfz25_6⟩ := cellsQ7_g1e (w := w23) BK0.out))
     go_loopg [6, 68] kj2 (fun kq v6 v68 w' => ∃ (x6_2 : List Int) (x68_2 : Int), v68 = .int .i64 x68_2 ∧ Aside0 (impl_Sparse_numbers.l0 kq t317 x6_2 a0_5 x68_2 a0_0 a0_1 a0_2 a0_3 l0_4 a0_5 l0_6 = some (r1, r2)) ∧ Aside0 (kq ≤ kj2) ∧ Aside0 (Kd.R (Kd.int .i64) 3 w' w.heap.size (fun _ => True) v6 x6_2) ∧ Aside0 (w'.heap[gb0_]? = some (.cells #[.int .i64 a0_0, .int .i64 a0_1, .int .i64 a0_2, .int .i64 a0_3, (.slice A0_4 l0_4.length c0_4), .int .i64 a0_5, (.slice A0_6 l0_6.length c0_6)] 30 (0, 0))) ∧ Aside0 (Below w.heap.size w w'))
     case atStart => exact ⟨(y321), (0), rg_, H', ⟨Nat.le_refl _⟩, ⟨kR_ HO323⟩, ⟨kB_ BK0⟩, ⟨hB_⟩⟩
     case round =>
      clear H'
      try clear c2
      try clear p2
      try clear c6
      try clear c7
      try clear c7b0
      try clear c7b1
      try clear c22
      try clear hcz25_0
      try clear hcz25_1
      try clear hcz25_2
      try clear hcz25_3
      try clear hcz25_4
      try clear hcz25_5
      try clear hcz25_6
      try clear hfz25_0
      try clear hfz25_1
      try clear hfz25_2
      try clear hfz25_3
      try clear hfz25_4
      try clear hfz25_5
      try clear hfz25_6
      try clear p2
      obtain ⟨x6_2, x68_2, rfl, HA, HK2, HO_6, BK0, HB⟩ := hrel
      cases gk with
      | zero => exact absurd HA.out (by simp [impl_Sparse_numbers.l0])
      | succ k2 =>
       have H := HA.out; clear HA; simp only [impl_Sparse_numbers.l0] at H
       by_cases c26 : x68_2 < a0_5
       ·rw [if_pos c26] at H
        have c26b0 : decide (x68_2 < a0_5) = true := decide_eq_true c26
        clear c26; replace H := Option.bind_eq_some_iff.mp H; obtain ⟨t324, A270, H⟩ := H
        have A27 := Qx A270; clear A270
        by_cases c28 : t324 = true
        ·subst c28
         have H1 : (if (x6_2.length : Int) < a0_0 then (if 0 ≤ t317 then ((impl_Bits_field_in_30_3.f k2 a0_0 a0_1 a0_2 a0_3 l0_4 a0_5 l0_6 (wrap64 ((x6_2.length : Int) * t317)) t317).bind fun t325 => (if x6_2.length < 17592186044416 then (impl_Sparse_numbers.l0 k2 t317 (x6_2 ++ [Go.bits .or .i64 (shl .i64 (wrap64 (x68_2 - (x6_2.length : Int))) t317) t325]) a0_5 (wrap64 (x68_2 + 1)) a0_0 a0_1 a0_2 a0_3 l0_4 a0_5 l0_6) else (none))) else (none)) else (impl_Sparse_numbers.l0 k2 t317 x6_2 a0_5 (wrap64 (x68_2 + 1)) a0_0 a0_1 a0_2 a0_3 l0_4 a0_5 l0_6)) = some (r1, r2) := by rw [if_pos rfl] at H; exact H
         clear H; have H := H1; clear H1
         by_cases c29 : (x6_2.length : Int) < a0_0
         ·rw [if_pos c29] at H
          have c29b0 : decide ((x6_2.length : Int) < a0_0) = true := decide_eq_true c29
          clear c29
          by_cases c30 : 0 ≤ t317
          ·rw [if_pos c30] at H; have c30b0 := eq_true c30
           have c30b1 : decide (0 ≤ t317) = true := decide_eq_true c30
           clear c30
           obtain ⟨ji31, hji31⟩ : ∃ j_ : Int, (shl .i64 (wrap64 (x68_2 - (x6_2.length : Int))) t317) = j_ := ⟨_, rfl⟩
           replace H : ((impl_Bits_field_in_30_3.f k2 a0_0 a0_1 a0_2 a0_3 l0_4 a0_5 l0_6 (wrap64 ((x6_2.length : Int) * t317)) t317).bind fun t325 => (if x6_2.length < 17592186044416 then (impl_Sparse_numbers.l0 k2 t317 (x6_2 ++ [Go.bits .or .i64 (ji31) t325]) a0_5 (wrap64 (x68_2 + 1)) a0_0 a0_1 a0_2 a0_3 l0_4 a0_5 l0_6) else (none))) = some (r1, r2) := by first | (rw [hji31] at H; exact H) | (simp only [hji31] at H ⊢; exact H)
           (try rw [hji31] at A27)
           have hji31_ : (IntKind.i64.wrap ((wrap64 (x68_2 - (x6_2.length : Int))) * 2 ^ min t317.toNat 64)) = ji31 := hji31
           have hji31z : t317 ≤ 64 → (IntKind.i64.wrap ((wrap64 (x68_2 - (x6_2.length : Int))) * 2 ^ t317.toNat)) = ji31 := shl_small hji31
           have hji31y : (wrap64 ((wrap64 (x68_2 - (x6_2.length : Int))) * 2 ^ min t317.toNat 64)) = ji31 := (i64_w _).symm.trans hji31_
           have hji31x : t317 ≤ 64 → (wrap64 ((wrap64 (x68_2 - (x6_2.length : Int))) * 2 ^ t317.toNat)) = ji31 := fun h_ => (i64_w _).symm.trans (hji31z h_)
           replace H := Option.bind_eq_some_iff.mp H; obtain ⟨t325, A320, H⟩ := H
           have A32 := Qx A320; clear A320
           by_cases c33 : x6_2.length < 17592186044416
           ·rw [if_pos c33] at H; have LMc33 := Qx c33; clear c33
            obtain ⟨y326, hy326⟩ : ∃ y_ : List Int, y_ = (x6_2 ++ [Go.bits .or .i64 (ji31) t325]) := ⟨_, rfl⟩
            replace H : (impl_Sparse_numbers.l0 k2 t317 y326 a0_5 (wrap64 (x68_2 + 1)) a0_0 a0_1 a0_2 a0_3 l0_4 a0_5 l0_6) = some (r1, r2) := by first | (rw [hy326]; with_reducible exact H) | (have H2_ := (Option.bind_some _ _).symm.trans H; rw [hy326]; with_reducible exact H2_) | (have H2_ := (Option.bind_some _ _).symm.trans H; with_reducible exact H2_) | with_reducible exact H | (rw [hy326]; exact H) | exact H
            have Ny326 := Qx hy326; clear hy326; have H' := Qx H; clear H; obtain ⟨Ao34, co34, eo34⟩ := Kd.R_slice HO_6.out; subst eo34
            try go_wp2_with (first | ((with_reducible refine gate_callee (f := 53) rfl ?_); refine gl_ 77 Try.func53 #[.pointer (some ⟨gb0_, 5, none⟩), .int .i64 x68_2] ?_; (with_reducible refine (impl_Bits_at_in_30_5.calls gb0_ a0_0 a0_1 a0_2 a0_3 A0_4 c0_4 l0_4 a0_5 A0_6 c0_6 l0_6 x68_2 true _ ?side1 ?side2 ?side3 ?side4 ?side5 A27.out).mono ?_); (case side1 => exact kC_ HR0_4); (case side2 => exact HC0_4.out); (case side3 => exact kC_ HR0_6); (case side4 => exact HC0_6.out); (case side5 => exact (kB_ BK0)); rintro e w' ⟨rfl, ⟨nd, rfl⟩⟩; refine ⟨_, rfl, ?_⟩; obtain ⟨hcz35_0, hcz35_1, hcz35_2, hcz35_3, hcz35_4, hcz35_5, hcz35_6, hfz35_0, hfz35_1, hfz35_2, hfz35_3, hfz35_4, hfz35_5, hfz35_6⟩ := cellsQ7_g1e (w := wr) BK0.out))
            (try (rw [drewN_self wr]; generalize hq_ : World.drewN wr _ = wr; have n0_ : Aside0 (Kd.R (Kd.int .i64) 3 wr w.heap.size (fun k_ => True) (.slice Ao34 x6_2.length co34) x6_2) := ⟨by rw [← hq_]; exact (kR_ HO_6)⟩; have n1_ : Aside0 (wr.heap[gb0_]? = some (.cells #[.int .i64 a0_0, .int .i64 a0_1, .int .i64 a0_2, .int .i64 a0_3, .slice A0_4 l0_4.length c0_4, .int .i64 a0_5, .slice A0_6 l0_6.length c0_6] 30 (0, 0))) := ⟨by rw [← hq_]; exact (kB_ BK0)⟩; have n2_ : Aside0 (Below w.heap.size w wr) := ⟨by rw [← hq_]; exact hB_⟩; clear HO_6 BK0 HB hq_; have HO_6 := n0_; have BK0 := n1_; have HB := n2_; clear n0_ n1_ n2_))
            replace HO_6 := Qx (Qrd HO_6.out)
            replace BK0 := Qx (Qw BK0.out)
            replace HB := Qx (Qd HB.out)
            refine start_ (n := 18) (S := fun w' => True) (ds := []) #[false, false, false, false, false, false, false, false, false, false, false, false, false, false, false, false, false, false] (by kernel_rfl) rfl rfl trivial (fun hHeld => ?_); refine with_tabW impl_Sparse_numbers.tab10 impl_Sparse_numbers.bits10 (fun HT_ HW_ => ?_)
            generalize wr.drew = w36 at HO_6 BK0 HB hHeld ⊢
            refine pr_ 0 86 18 1 ?_
            refine pr_ 1 87 18 3 ?_
            refine pr_ 2 88 18 7 ?_
            refine pr_ 3 89 18 15 ?_
            refine pr_ 4 90 18 31 ?_
            refine pr_ 5 91 18 63 ?_
            refine pr_ 6 92 18 127 ?_
            refine pr_ 7 93 18 255 ?_
            refine pr_ 8 94 18 511 ?_
            refine pr_ 9 95 18 1023 ?_
            refine pr_ 10 96 18 2047 ?_
            refine pr_ 11 97 18 4095 ?_
            refine pr_ 12 98 18 8191 ?_
            refine one_ (i := 13) (N := some 99) (bsA 18 16383) rfl rfl (one_of HT_.out (by kernel_rfl)) (by decide) (fun K hK => ?_)
            refine goes_ Try.func54 (by kernel_rfl) rfl #[.pointer (some ⟨gb0_, 3, none⟩), .int .i64 (wrap64 ((x6_2.length : Int) * t317)), .int .i64 t317] (by rfl) rfl rfl (by (try simp only [List.map_toArray, List.map_cons, List.map_nil]); first | done | rfl | (simp only [List.length_drop, List.length_take]; rfl)) ?_
            with_reducible refine (impl_Bits_field_in_30_3.calls k2 gb0_ a0_0 a0_1 a0_2 a0_3 A0_4 c0_4 l0_4 a0_5 A0_6 c0_6 l0_6 (wrap64 ((x6_2.length : Int) * t317)) t317 t325 _ ?side1 ?side2 ?side3 ?side4 ?side5 A32.out).mono ?_
            (case side1 => exact kC_ HR0_4)
            (case side2 => exact HC0_4.out)
            (case side3 => exact kC_ HR0_6)
            (case side4 => exact HC0_6.out)
            (case side5 => exact (kB_ BK0))
            rintro e w' ⟨rfl, ⟨nd, rfl⟩⟩
            refine ⟨_, rfl, ?_⟩
            refine hK.out _ _ trivial (fun hHeld => ?_)
            clear hK K
            refine norm_ (a' := ?_) ?_ ?_
            rotate_left
            ·show Act.put _ (some 99) _ = _
             simp only [Act.put, List.setIfInBounds_toArray, List.set_cons_zero, List.set_cons_succ, i64_w]
             rfl
            refine pr_ 14 100 18 32767 ?_
            refine one_ (i := 15) (N := some 101) (bsA 18 65535) rfl rfl (one_of HT_.out (by kernel_rfl)) (by decide) (fun K hK => ?_)
            refine value_ (w1 := ?_) (v := ?_) (by rfl) rfl ?_ ?_
            rotate_left 2
            ·go_simp
             constructor
             ·rfl
             ·rfl
            refine hK.out _ _ trivial (fun hHeld => ?_)
            clear hK K
            refine norm_ (a' := ?_) ?_ ?_
            rotate_left
            ·show Act.put _ (some 101) _ = _
             simp only [Act.put, List.setIfInBounds_toArray, List.set_cons_zero, List.set_cons_succ, i64_w]
             rfl
            refine one_ (i := 16) (N := some 102) (bsA 18 131071) rfl rfl (one_of HT_.out (by kernel_rfl)) (by decide) (fun K hK => ?_)
            refine Kd.R_append_step (Kd.int .i64) (w0 := w) w.heap.size (by rfl) (.tmp 86) (.tmp 101) 22 3 (.int .i64 0) 8 rfl Try.underlying22 info3 rfl (by decide) (by omega) (.slice Ao34 x6_2.length co34) x6_2 (Go.bits .or .i64 (ji31) t325) [.int .i64 (Go.bits .or .i64 (ji31) t325)] (fun _ => True) (fun _ => False) rfl rfl ?aP (fun _ hk => hk.elim) ?aF ?aO ?aB ?aS ?aL ?_
            (case aP => exact rfl)
            (case aB => exact hB_)
            (case aF => exact (fun _ _ => trivial))
            (case aO => exact (kR_ HO_6))
            (case aS => exact (Qz hB_))
            (case aL => have := LMc33.out; omega)
            intro v327 w37 ho hb hg hat
            rw [← Ny326.out] at ho
            have n0_ := Qx (blk_grown (kB_ BK0) hg (Kd.R_ne HO_6.out BK0.out (by decide)))
            have n1_ := Qx (hb)
            have n2_ := Qx (ho)
            clear BK0 HB HO_6; have BK0 := n0_; have HB := n1_; have HO328 := n2_; clear n0_ n1_ n2_ ho hb hg hat
            refine hK.out _ _ trivial (fun hHeld => ?_)
            clear hK K
            refine norm_ (a' := ?_) ?_ ?_
            rotate_left
            ·show Act.put _ (some 102) _ = _
             simp only [Act.put, List.setIfInBounds_toArray, List.set_cons_zero, List.set_cons_succ, i64_w]
             rfl
            refine pr_ 17 6 18 262143 ?_
            refine done_ (done_of HT_.out (by kernel_rfl)) ?_
            try go_wp2
            go_roundg k2
            case measure => have := HJ2.out; have := HK2.out; omega
            case rel => exact ⟨(y326), (wrap64 (x68_2 + 1)), rg_, H', ⟨by have := HJ2.out; have := HK2.out; omega⟩, ⟨kR_ HO328⟩, ⟨kB_ BK0⟩, ⟨hB_⟩⟩
           ·rw [if_neg c33] at H
            exact absurd H (by simp)
          ·rw [if_neg c30] at H
           exact absurd H (by simp)
         ·rw [if_neg c29] at H
          have c29b0 : decide ((x6_2.length : Int) < a0_0) = false := decide_eq_false c29
          clear c29; have H' := Qx H; clear H; obtain ⟨Ao38, co38, eo38⟩ := Kd.R_slice HO_6.out; subst eo38
          go_wp2_with (first | ((with_reducible refine gate_callee (f := 53) rfl ?_); refine gl_ 77 Try.func53 #[.pointer (some ⟨gb0_, 5, none⟩), .int .i64 x68_2] ?_; (with_reducible refine (impl_Bits_at_in_30_5.calls gb0_ a0_0 a0_1 a0_2 a0_3 A0_4 c0_4 l0_4 a0_5 A0_6 c0_6 l0_6 x68_2 true _ ?side1 ?side2 ?side3 ?side4 ?side5 A27.out).mono ?_); (case side1 => exact kC_ HR0_4); (case side2 => exact HC0_4.out); (case side3 => exact kC_ HR0_6); (case side4 => exact HC0_6.out); (case side5 => exact (kB_ BK0)); rintro e w' ⟨rfl, ⟨nd, rfl⟩⟩; refine ⟨_, rfl, ?_⟩; obtain ⟨hcz39_0, hcz39_1, hcz39_2, hcz39_3, hcz39_4, hcz39_5, hcz39_6, hfz39_0, hfz39_1, hfz39_2, hfz39_3, hfz39_4, hfz39_5, hfz39_6⟩ := cellsQ7_g1e (w := wr) BK0.out))
          go_roundg k2
          case measure => have := HJ2.out; have := HK2.out; omega
          case rel => exact ⟨(x6_2), (wrap64 (x68_2 + 1)), rg_, H', ⟨by have := HJ2.out; have := HK2.out; omega⟩, ⟨kR_ HO_6⟩, ⟨kB_ BK0⟩, ⟨hB_⟩⟩
        ·replace c28 := Bool.eq_false_iff.mpr c28; subst c28
         have H1 : (impl_Sparse_numbers.l0 k2 t317 x6_2 a0_5 (wrap64 (x68_2 + 1)) a0_0 a0_1 a0_2 a0_3 l0_4 a0_5 l0_6) = some (r1, r2) := by rw [if_neg (show ¬ (false = true) by decide)] at H; exact H
         clear H; have H := H1; clear H1; have H' := Qx H; clear H; obtain ⟨Ao40, co40, eo40⟩ := Kd.R_slice HO_6.out; subst eo40
         go_wp2_with (first | ((with_reducible refine gate_callee (f := 53) rfl ?_); refine gl_ 77 Try.func53 #[.pointer (some ⟨gb0_, 5, none⟩), .int .i64 x68_2] ?_; (with_reducible refine (impl_Bits_at_in_30_5.calls gb0_ a0_0 a0_1 a0_2 a0_3 A0_4 c0_4 l0_4 a0_5 A0_6 c0_6 l0_6 x68_2 false _ ?side1 ?side2 ?side3 ?side4 ?side5 A27.out).mono ?_); (case side1 => exact kC_ HR0_4); (case side2 => exact HC0_4.out); (case side3 => exact kC_ HR0_6); (case side4 => exact HC0_6.out); (case side5 => exact (kB_ BK0)); rintro e w' ⟨rfl, ⟨nd, rfl⟩⟩; refine ⟨_, rfl, ?_⟩))
         go_roundg k2
         case measure => have := HJ2.out; have := HK2.out; omega
         case rel => exact ⟨(x6_2), (wrap64 (x68_2 + 1)), rg_, H', ⟨by have := HJ2.out; have := HK2.out; omega⟩, ⟨kR_ HO_6⟩, ⟨kB_ BK0⟩, ⟨hB_⟩⟩
       ·rw [if_neg c26] at H
        have c26b0 : decide (x68_2 < a0_5) = false := decide_eq_false c26
        clear c26; have HC41 := Qx H; clear H
        go_upto_region 12 with (fail)
        go_cut [119] (fun v119 wc => ∃ (kq : Nat) (x119_40 : Bool), v119 = .bool x119_40 ∧ Aside0 (impl_Sparse_numbers.j2 kq x6_2 x119_40 a0_0 a0_1 a0_2 a0_3 l0_4 a0_5 l0_6 = some (r1, r2)) ∧ Aside0 (kq ≤ k2) ∧ Aside0 (Kd.R (Kd.int .i64) 3 wc w.heap.size (fun _ => True) u6 x6_2) ∧ Aside0 (wc.heap[gb0_]? = some (.cells #[.int .i64 a0_0, .int .i64 a0_1, .int .i64 a0_2, .int .i64 a0_3, (.slice A0_4 l0_4.length c0_4), .int .i64 a0_5, (.slice A0_6 l0_6.length c0_6)] 30 (0, 0))) ∧ Aside0 (Below w.heap.size w wc))
        case first =>
         have H := HC41.out; clear HC41
         by_cases c42 : (x6_2.length : Int) = a0_0
         ·rw [if_pos c42] at H
          have c42b0 : ((x6_2.length : Int) == a0_0) = true := beq_iff_eq.mpr c42
          have c42b1 : ((x6_2.length : Int) != a0_0) = false := bne_eq_false_iff_eq.mpr c42
          clear c42
          (first | rw [c42b0] | (simp only [i64_w, i32_w]; rw [c42b0]) | skip)
          replace H := Option.bind_eq_some_iff.mp H; obtain ⟨t329, A430, H⟩ := H
          have A43 := Qx A430; clear A430; have H' := Qx H; clear H; obtain ⟨Ao44, co44, eo44⟩ := Kd.R_slice HO_6.out; subst eo44
          obtain ⟨hcz45_0, hcz45_1, hcz45_2, hcz45_3, hcz45_4, hcz45_5, hcz45_6, hfz45_0, hfz45_1, hfz45_2, hfz45_3, hfz45_4, hfz45_5, hfz45_6⟩ := cellsQ7_g1e (w := wr) BK0.out
          go_wp2_with (first | (go_at_call 55; (with_reducible refine (impl_sortedOk.calls k2 _ _ x6_2 a0_1 t329 _ ?side1 ?side2 A43.out).mono ?_); (case side1 => exact kD_ HO_6); (case side2 => exact (Kd.R_reads' HO_6.out).2.1); rintro e w' ⟨rfl, ⟨nd, rfl⟩⟩))
          go_meet
          case rel => exact ⟨_, (!t329), rg_, H', ⟨by have := HJ2.out; have := HK2.out; first | omega | exact Nat.le_refl _⟩, ⟨kR_ HO_6⟩, ⟨kB_ BK0⟩, ⟨hB_⟩⟩
         ·rw [if_neg c42] at H
          have c42b0 : ((x6_2.length : Int) == a0_0) = false := beq_eq_false_iff_ne.mpr c42
          have c42b1 : ((x6_2.length : Int) != a0_0) = true := bne_iff_ne.mpr c42
          (first | rw [c42b0] | (simp only [i64_w, i32_w]; rw [c42b0]) | skip)
          have H' := Qx H; clear H; obtain ⟨Ao46, co46, eo46⟩ := Kd.R_slice HO_6.out; subst eo46
          obtain ⟨hcz47_0, hcz47_1, hcz47_2, hcz47_3, hcz47_4, hcz47_5, hcz47_6, hfz47_0, hfz47_1, hfz47_2, hfz47_3, hfz47_4, hfz47_5, hfz47_6⟩ := cellsQ7_g1e (w := wr) BK0.out
          go_wp2
          go_meet
          case rel => exact ⟨_, (true), rg_, H', ⟨by have := HJ2.out; have := HK2.out; first | omega | exact Nat.le_refl _⟩, ⟨kR_ HO_6⟩, ⟨kB_ BK0⟩, ⟨hB_⟩⟩
        case rest =>
         clear HC41
         try clear c2
         try clear p2
         try clear c3
         try clear c4
         try clear c5
         try clear c6
         try clear p6
         try clear c7
         try clear c7b0
         try clear c7b1
         try clear c22
         try clear c26
         try clear c26b0
         try clear c28
         try clear c29
         try clear c29b0
         try clear c30
         try clear c30b0
         try clear c30b1
         try clear c33
         try clear c42
         try clear c42b0
         try clear c42b1
         try clear hcz25_0
         try clear hcz25_1
         try clear hcz25_2
         try clear hcz25_3
         try clear hcz25_4
         try clear hcz25_5
         try clear hcz25_6
         try clear hcz35_0
         try clear hcz35_1
         try clear hcz35_2
         try clear hcz35_3
         try clear hcz35_4
         try clear hcz35_5
         try clear hcz35_6
         try clear hcz39_0
         try clear hcz39_1
         try clear hcz39_2
         try clear hcz39_3
         try clear hcz39_4
         try clear hcz39_5
         try clear hcz39_6
         try clear hcz45_0
         try clear hcz45_1
         try clear hcz45_2
         try clear hcz45_3
         try clear hcz45_4
         try clear hcz45_5
         try clear hcz45_6
         try clear hcz47_0
         try clear hcz47_1
         try clear hcz47_2
         try clear hcz47_3
         try clear hcz47_4
         try clear hcz47_5
         try clear hcz47_6
         try clear hfz25_0
         try clear hfz25_1
         try clear hfz25_2
         try clear hfz25_3
         try clear hfz25_4
         try clear hfz25_5
         try clear hfz25_6
         try clear hfz35_0
         try clear hfz35_1
         try clear hfz35_2
         try clear hfz35_3
         try clear hfz35_4
         try clear hfz35_5
         try clear hfz35_6
         try clear hfz39_0
         try clear hfz39_1
         try clear hfz39_2
         try clear hfz39_3
         try clear hfz39_4
         try clear hfz39_5
         try clear hfz39_6
         try clear hfz45_0
         try clear hfz45_1
         try clear hfz45_2
         try clear hfz45_3
         try clear hfz45_4
         try clear hfz45_5
         try clear hfz45_6
         try clear hfz47_0
         try clear hfz47_1
         try clear hfz47_2
         try clear hfz47_3
         try clear hfz47_4
         try clear hfz47_5
         try clear hfz47_6
         try clear p2
         obtain ⟨kq, x119_40, rfl, HA, HJ40, HO_6, BK0, HB⟩ := hcut
         cases kq with
         | zero => exact absurd HA.out (by simp [impl_Sparse_numbers.j2])
         | succ kj40 =>
          have H := HA.out; clear HA; simp only [impl_Sparse_numbers.j2] at H
          by_cases c48 : x119_40 = true
          ·subst c48
           have H1 : (some (([] : List Int), false)) = some (r1, r2) := by rw [if_pos rfl] at H; exact H
           clear H; have H := H1; clear H1; simp only [Option.some.injEq, Prod.mk.injEq] at H; obtain ⟨rfl, rfl⟩ := H
           go_wp2
           go_ret2
           exact ⟨_, rf_, by first | exact Kd.R_nil _ _ _ _ _ | exact Kd.N_nil _ _ _ _ _ | exact Kd.V_nil _ _ _ _ _ | exact Kd.Q_nil _ _ _ _ _ | exact Kd.S_nil _ _ _ _ _, hB_⟩
          ·replace c48 := Bool.eq_false_iff.mpr c48; subst c48
           have H1 : ((impl_sparse.f kj40 x6_2 a0_1).bind fun bt330 => ((impl_sameBits.f kj40 bt330.2.2.2.1 bt330.2.2.2.2.1 a0_3 l0_4).bind fun t342 => (if t342 = true then ((impl_sameBits.f kj40 bt330.2.2.2.2.2.1 bt330.2.2.2.2.2.2 a0_5 l0_6).bind fun t343 => (some (x6_2, t343))) else (some (x6_2, false))))) = some (r1, r2) := by rw [if_neg (show ¬ (false = true) by decide)] at H; exact H
           clear H; have H := H1; clear H1; replace H := Option.bind_eq_some_iff.mp H; obtain ⟨⟨t330, t331, t332, t333, t334, t337, t338⟩, A490, H⟩ := H
           have A49 := Qx A490; clear A490; replace H := Option.bind_eq_some_iff.mp H; obtain ⟨t342, A500, H⟩ := H
           have A50 := Qx A500; clear A500
           by_cases c51 : t342 = true
           ·subst c51
            have H1 : ((impl_sameBits.f kj40 t337 t338 a0_5 l0_6).bind fun t343 => (some (x6_2, t343))) = some (r1, r2) := by rw [if_pos rfl] at H; exact H
            clear H; have H := H1; clear H1; replace H := Option.bind_eq_some_iff.mp H; obtain ⟨t343, A520, H⟩ := H
            have A52 := Qx A520; clear A520; simp only [Option.some.injEq, Prod.mk.injEq] at H; obtain ⟨rfl, rfl⟩ := H
            obtain ⟨hcz53_0, hcz53_1, hcz53_2, hcz53_3, hcz53_4, hcz53_5, hcz53_6, hfz53_0, hfz53_1, hfz53_2, hfz53_3, hfz53_4, hfz53_5, hfz53_6⟩ := cellsQ7_g1e (w := wc) BK0.out
            obtain ⟨Ao54, co54, eo54⟩ := Kd.R_slice HO_6.out; subst eo54
            try go_wp2_with (first | ((with_reducible refine gate_callee (f := 21) rfl ?_); refine gl_ 125 Try.func21 #[.slice Ao54 x6_2.length co54, .int .i64 a0_1] ?_; (with_reducible refine (impl_sparse.calls kj40 _ _ x6_2 a0_1 t330 t331 t332 t333 t334 t337 t338 _ ?side1 ?side2 A49.out).mono ?_); (case side1 => exact kD_ HO_6); (case side2 => exact (Kd.R_reads' HO_6.out).2.1); rintro e w55 ⟨v335, v339, rfl, ho0, ho1, hb⟩; refine ⟨_, rfl, ?_⟩; have HO336 := Qx (Kd.R_lower (Kd.R_new' ho0 (Kd.R_lt (kR_ HO_6))) (Qz hB_)); have HO340 := Qx (Kd.R_lower (Kd.R_new' ho1 (Kd.R_lt (kR_ HO_6))) (Qz hB_)); replace HO_6 := Qx (Qrm (Kd.R_told (Kd.R_told (Kd.R_old (kR_ HO_6) hb) (Kd.R_base ho0)) (Kd.R_base ho1)) (fun _ h_ => h_.1)); replace BK0 := Qx (Qb (kB_ BK0) hb); replace HB := Qx (Qp hB_ hb); (try clear hb); (try clear hb2); (try clear hk); (try clear hi); (try clear ho0); (try clear ho1)) | ((with_reducible refine gate_dst (N := 9) rfl ?_); refine bx_ 9 #[.int .i64 0, .int .i64 0, .int .i64 0, .int .i64 0, .slice none 0 0, .int .i64 0, .slice none 0 0] 30 ?_; intro gb341 hg w56 hbox hb; replace HO_6 := Qx (Qrb (kR_ HO_6) hb); replace HO336 := Qx (Qrb (kR_ HO336) hb); replace HO340 := Qx (Qrb (kR_ HO340) hb); have BK341 := Qx (hbox); have GW341 := Qx ((ge_ hg)); have GE341 := Qx ((ge_ hg)); replace HB := Qx (Qp hB_ hb); have NB0_341 := Qx ((ne_ hg BK0)); have NB341_0 := Qx ((nf_ hg BK0)); replace BK0 := Qx (Qb (kB_ BK0) hb); clear hb hbox hg; have hnb57 := NB341_0.out; have hnc57 := NB0_341.out; obtain ⟨hcz58_0, hcz58_1, hcz58_2, hcz58_3, hcz58_4, hcz58_5, hcz58_6, hfz58_0, hfz58_1, hfz58_2, hfz58_3, hfz58_4, hfz58_5, hfz58_6⟩ := cellsQ7_g1e (w := w56) BK341.out; obtain ⟨Ao59, co59, eo59⟩ := Kd.R_slice HO336.out; subst eo59; obtain ⟨Ao60, co60, eo60⟩ := Kd.R_slice HO340.out; subst eo60))
            have n0_ : Aside0 (Kd.R (Kd.int .i64) 3 (((((((w56.setCell ⟨gb341, 0, none⟩ (.int .i64 t330)).setCell ⟨gb341, 1, none⟩ (.int .i64 t331)).setCell ⟨gb341, 2, none⟩ (.int .i64 t332)).setCell ⟨gb341, 3, none⟩ (.int .i64 t333)).setCell ⟨gb341, 4, none⟩ (.slice Ao59 t334.length co59)).setCell ⟨gb341, 5, none⟩ (.int .i64 t337)).setCell ⟨gb341, 6, none⟩ (.slice Ao60 t338.length co60)) w.heap.size (fun k_ => some k_ ≠ (.slice Ao59 t334.length co59 : Value).ownBlock ∧ some k_ ≠ (.slice Ao60 t338.length co60 : Value).ownBlock) (.slice Ao54 x6_2.length co54) x6_2) := ⟨by (with_reducible repeat (first | apply Qra | apply Qrn | apply Qrd)); exact Qrm (farsQ7_g1e (Kd.R_types HO_6.out BK341.out (by decide)) (fun _ hk => hk.2) (.int .i64 t330) (.int .i64 t331) (.int .i64 t332) (.int .i64 t333) (.slice Ao59 t334.length co59) (.int .i64 t337) (.slice Ao60 t338.length co60)) (fun _ hk => ⟨hk.1.1.2, hk.1.2⟩)⟩
            have n1_ : Aside0 (Kd.R (Kd.int .i64) 3 (((((((w56.setCell ⟨gb341, 0, none⟩ (.int .i64 t330)).setCell ⟨gb341, 1, none⟩ (.int .i64 t331)).setCell ⟨gb341, 2, none⟩ (.int .i64 t332)).setCell ⟨gb341, 3, none⟩ (.int .i64 t333)).setCell ⟨gb341, 4, none⟩ (.slice Ao59 t334.length co59)).setCell ⟨gb341, 5, none⟩ (.int .i64 t337)).setCell ⟨gb341, 6, none⟩ (.slice Ao60 t338.length co60)) w.heap.size (fun k_ => some k_ ≠ (.slice Ao54 x6_2.length co54 : Value).ownBlock ∧ some k_ ≠ (.slice Ao60 t338.length co60 : Value).ownBlock) (.slice Ao59 t334.length co59) t334) := ⟨by (with_reducible repeat (first | apply Qra | apply Qrn | apply Qrd)); exact Qrm (farsQ7_g1e (Kd.R_types HO336.out BK341.out (by decide)) (fun _ hk => hk.2) (.int .i64 t330) (.int .i64 t331) (.int .i64 t332) (.int .i64 t333) (.slice Ao59 t334.length co59) (.int .i64 t337) (.slice Ao60 t338.length co60)) (fun _ hk => ⟨hk.1.2, hk.1.1⟩)⟩
            have n2_ : Aside0 (Kd.R (Kd.int .i64) 3 (((((((w56.setCell ⟨gb341, 0, none⟩ (.int .i64 t330)).setCell ⟨gb341, 1, none⟩ (.int .i64 t331)).setCell ⟨gb341, 2, none⟩ (.int .i64 t332)).setCell ⟨gb341, 3, none⟩ (.int .i64 t333)).setCell ⟨gb341, 4, none⟩ (.slice Ao59 t334.length co59)).setCell ⟨gb341, 5, none⟩ (.int .i64 t337)).setCell ⟨gb341, 6, none⟩ (.slice Ao60 t338.length co60)) w.heap.size (fun k_ => some k_ ≠ (.slice Ao54 x6_2.length co54 : Value).ownBlock ∧ some k_ ≠ (.slice Ao59 t334.length co59 : Value).ownBlock) (.slice Ao60 t338.length co60) t338) := ⟨by (with_reducible repeat (first | apply Qra | apply Qrn | apply Qrd)); exact Qrm (farsQ7_g1e (Kd.R_types HO340.out BK341.out (by decide)) (fun _ hk => hk.2) (.int .i64 t330) (.int .i64 t331) (.int .i64 t332) (.int .i64 t333) (.slice Ao59 t334.length co59) (.int .i64 t337) (.slice Ao60 t338.length co60)) (fun _ hk => ⟨hk.1.2, hk.1.1⟩)⟩
            have n3_ : Aside0 ((((((((w56.setCell ⟨gb341, 0, none⟩ (.int .i64 t330)).setCell ⟨gb341, 1, none⟩ (.int .i64 t331)).setCell ⟨gb341, 2, none⟩ (.int .i64 t332)).setCell ⟨gb341, 3, none⟩ (.int .i64 t333)).setCell ⟨gb341, 4, none⟩ (.slice Ao59 t334.length co59)).setCell ⟨gb341, 5, none⟩ (.int .i64 t337)).setCell ⟨gb341, 6, none⟩ (.slice Ao60 t338.length co60)).heap[gb0_]? = some (.cells #[.int .i64 a0_0, .int .i64 a0_1, .int .i64 a0_2, .int .i64 a0_3, .slice A0_4 l0_4.length c0_4, .int .i64 a0_5, .slice A0_6 l0_6.length c0_6] 30 (0, 0))) := ⟨by (with_reducible repeat (first | refine Qm ?_ _ | refine Qw ?_ | refine Qk ?_ _)); refine Qr ?_ NB0_341.out _; (with_reducible repeat (first | refine Qm ?_ _ | refine Qw ?_ | refine Qk ?_ _)); refine Qr ?_ NB0_341.out _; (with_reducible repeat (first | refine Qm ?_ _ | refine Qw ?_ | refine Qk ?_ _)); refine Qr ?_ NB0_341.out _; (with_reducible repeat (first | refine Qm ?_ _ | refine Qw ?_ | refine Qk ?_ _)); refine Qr ?_ NB0_341.out _; (with_reducible repeat (first | refine Qm ?_ _ | refine Qw ?_ | refine Qk ?_ _)); refine Qr ?_ NB0_341.out _; (with_reducible repeat (first | refine Qm ?_ _ | refine Qw ?_ | refine Qk ?_ _)); refine Qr ?_ NB0_341.out _; (with_reducible repeat (first | refine Qm ?_ _ | refine Qw ?_ | refine Qk ?_ _)); refine Qr ?_ NB0_341.out _; (with_reducible repeat (first | refine Qm ?_ _ | refine Qw ?_ | refine Qk ?_ _)); exact BK0.out⟩
            have n4_ : Aside0 ((((((((w56.setCell ⟨gb341, 0, none⟩ (.int .i64 t330)).setCell ⟨gb341, 1, none⟩ (.int .i64 t331)).setCell ⟨gb341, 2, none⟩ (.int .i64 t332)).setCell ⟨gb341, 3, none⟩ (.int .i64 t333)).setCell ⟨gb341, 4, none⟩ (.slice Ao59 t334.length co59)).setCell ⟨gb341, 5, none⟩ (.int .i64 t337)).setCell ⟨gb341, 6, none⟩ (.slice Ao60 t338.length co60)).heap[gb341]? = some (.cells #[.int .i64 t330, .int .i64 t331, .int .i64 t332, .int .i64 t333, .slice Ao59 t334.length co59, .int .i64 t337, .slice Ao60 t338.length co60] 30 (0, 0))) := ⟨by (with_reducible repeat (first | refine Qm ?_ _ | refine Qw ?_ | refine Qk ?_ _)); refine Qu (cs := #[.int .i64 t330, .int .i64 t331, .int .i64 t332, .int .i64 t333, .slice Ao59 t334.length co59, .int .i64 t337, .slice none 0 0]) ?_ 6 _ rfl; (with_reducible repeat (first | refine Qm ?_ _ | refine Qw ?_ | refine Qk ?_ _)); refine Qu (cs := #[.int .i64 t330, .int .i64 t331, .int .i64 t332, .int .i64 t333, .slice Ao59 t334.length co59, .int .i64 0, .slice none 0 0]) ?_ 5 _ rfl; (with_reducible repeat (first | refine Qm ?_ _ | refine Qw ?_ | refine Qk ?_ _)); refine Qu (cs := #[.int .i64 t330, .int .i64 t331, .int .i64 t332, .int .i64 t333, .slice none 0 0, .int .i64 0, .slice none 0 0]) ?_ 4 _ rfl; (with_reducible repeat (first | refine Qm ?_ _ | refine Qw ?_ | refine Qk ?_ _)); refine Qu (cs := #[.int .i64 t330, .int .i64 t331, .int .i64 t332, .int .i64 0, .slice none 0 0, .int .i64 0, .slice none 0 0]) ?_ 3 _ rfl; (with_reducible repeat (first | refine Qm ?_ _ | refine Qw ?_ | refine Qk ?_ _)); refine Qu (cs := #[.int .i64 t330, .int .i64 t331, .int .i64 0, .int .i64 0, .slice none 0 0, .int .i64 0, .slice none 0 0]) ?_ 2 _ rfl; (with_reducible repeat (first | refine Qm ?_ _ | refine Qw ?_ | refine Qk ?_ _)); refine Qu (cs := #[.int .i64 t330, .int .i64 0, .int .i64 0, .int .i64 0, .slice none 0 0, .int .i64 0, .slice none 0 0]) ?_ 1 _ rfl; (with_reducible repeat (first | refine Qm ?_ _ | refine Qw ?_ | refine Qk ?_ _)); refine Qu (cs := #[.int .i64 0, .int .i64 0, .int .i64 0, .int .i64 0, .slice none 0 0, .int .i64 0, .slice none 0 0]) ?_ 0 _ rfl; (with_reducible repeat (first | refine Qm ?_ _ | refine Qw ?_ | refine Qk ?_ _)); exact BK341.out⟩
            have n5_ : Aside0 (Below w.heap.size w (((((((w56.setCell ⟨gb341, 0, none⟩ (.int .i64 t330)).setCell ⟨gb341, 1, none⟩ (.int .i64 t331)).setCell ⟨gb341, 2, none⟩ (.int .i64 t332)).setCell ⟨gb341, 3, none⟩ (.int .i64 t333)).setCell ⟨gb341, 4, none⟩ (.slice Ao59 t334.length co59)).setCell ⟨gb341, 5, none⟩ (.int .i64 t337)).setCell ⟨gb341, 6, none⟩ (.slice Ao60 t338.length co60))) := ⟨hB_⟩
            (try clear HO_6); (try clear HO336); (try clear HO340); (try clear BK0); (try clear BK341); (try clear HB)
            generalize (((((((w56.setCell ⟨gb341, 0, none⟩ (.int .i64 t330)).setCell ⟨gb341, 1, none⟩ (.int .i64 t331)).setCell ⟨gb341, 2, none⟩ (.int .i64 t332)).setCell ⟨gb341, 3, none⟩ (.int .i64 t333)).setCell ⟨gb341, 4, none⟩ (.slice Ao59 t334.length co59)).setCell ⟨gb341, 5, none⟩ (.int .i64 t337)).setCell ⟨gb341, 6, none⟩ (.slice Ao60 t338.length co60)) = w61 at n0_ n1_ n2_ n3_ n4_ n5_ ⊢
            have HO_6 := n0_; have HO336 := n1_; have HO340 := n2_; have BK0 := n3_; have BK341 := n4_; have HB := n5_; clear n0_ n1_ n2_ n3_ n4_ n5_
            replace HO_6 := Qx (Qrd HO_6.out)
            replace HO336 := Qx (Qrd HO336.out)
            replace HO340 := Qx (Qrd HO340.out)
            replace BK0 := Qx (Qw BK0.out)
            replace BK341 := Qx (Qw BK341.out)
            replace HB := Qx (Qd HB.out)
            refine start_ (n := 19) (S := fun w' => w'.cell? ⟨gb341, 0, none⟩ = some (.int .i64 t330) ∧ w'.cell? ⟨gb341, 1, none⟩ = some (.int .i64 t331) ∧ w'.cell? ⟨gb341, 2, none⟩ = some (.int .i64 t332) ∧ w'.cell? ⟨gb341, 3, none⟩ = some (.int .i64 t333) ∧ w'.cell? ⟨gb341, 4, none⟩ = some (.slice Ao59 t334.length co59) ∧ w'.cell? ⟨gb341, 5, none⟩ = some (.int .i64 t337) ∧ w'.cell? ⟨gb341, 6, none⟩ = some (.slice Ao60 t338.length co60) ∧ w'.cell? ⟨gb0_, 0, none⟩ = some (.int .i64 a0_0) ∧ w'.cell? ⟨gb0_, 1, none⟩ = some (.int .i64 a0_1) ∧ w'.cell? ⟨gb0_, 2, none⟩ = some (.int .i64 a0_2) ∧ w'.cell? ⟨gb0_, 3, none⟩ = some (.int .i64 a0_3) ∧ w'.cell? ⟨gb0_, 4, none⟩ = some (.slice A0_4 l0_4.length c0_4) ∧ w'.cell? ⟨gb0_, 5, none⟩ = some (.int .i64 a0_5) ∧ w'.cell? ⟨gb0_, 6, none⟩ = some (.slice A0_6 l0_6.length c0_6)) (ds := []) #[false, false, false, false, false, false, false, false, false, false, false, false, false, false, false, false, false, false, false] (by kernel_rfl) rfl rfl ⟨(Qc BK341.out 0).trans rfl, (Qc BK341.out 1).trans rfl, (Qc BK341.out 2).trans rfl, (Qc BK341.out 3).trans rfl, (Qc BK341.out 4).trans rfl, (Qc BK341.out 5).trans rfl, (Qc BK341.out 6).trans rfl, (Qc BK0.out 0).trans rfl, (Qc BK0.out 1).trans rfl, (Qc BK0.out 2).trans rfl, (Qc BK0.out 3).trans rfl, (Qc BK0.out 4).trans rfl, (Qc BK0.out 5).trans rfl, (Qc BK0.out 6).trans rfl⟩ (fun hHeld => ?_); refine with_tabW impl_Sparse_numbers.tab15 impl_Sparse_numbers.bits15 (fun HT_ HW_ => ?_)
            generalize w61.drew = w62 at HO_6 HO336 HO340 BK0 BK341 HB hHeld ⊢
            refine pr_ 0 126 19 1 ?_
            refine pr_ 1 127 19 3 ?_
            refine pr_ 3 129 19 11 ?_
            refine pr_ 4 130 19 27 ?_
            refine pr_ 5 131 19 59 ?_
            refine tq_ 2 128 19 63 HT_.out HW_.out (by kernel_rfl) hHeld ?_ rfl (by rintro w' ⟨s0, s1, s2, s3, s4, s5, s6, s7, s8, s9, s10, s11, s12, s13⟩; go_simp; with_reducible rfl)
            refine tq_ 6 132 19 127 HT_.out HW_.out (by kernel_rfl) hHeld ?_ rfl (by rintro w' ⟨s0, s1, s2, s3, s4, s5, s6, s7, s8, s9, s10, s11, s12, s13⟩; go_simp; with_reducible rfl)
            refine one_ (i := 7) (N := some 133) (bsA 19 255) rfl rfl (one_of HT_.out (by kernel_rfl)) (by decide) (fun K hK => ?_)
            refine goes_ Try.func56 (by kernel_rfl) rfl #[.agg #[.int .i64 t333, .slice Ao59 t334.length co59], .agg #[.int .i64 a0_3, .slice A0_4 l0_4.length c0_4]] (by rfl) rfl rfl (by (try simp only [List.map_toArray, List.map_cons, List.map_nil]); first | done | rfl | (simp only [List.length_drop, List.length_take]; rfl)) ?_
            with_reducible refine (impl_sameBits.calls kj40 t333 _ _ t334 a0_3 _ _ l0_4 true _ ?side1 ?side2 ?side3 ?side4 A50.out).mono ?_
            (case side1 => exact kD_ HO336)
            (case side2 => exact (Kd.R_reads' HO336.out).2.1)
            (case side3 => exact kC_ HR0_4)
            (case side4 => exact HC0_4.out)
            rintro e w63 ⟨rfl, hb⟩
            refine ⟨_, rfl, ?_⟩
            replace HO_6 := Qx (Qrb (kR_ HO_6) hb)
            replace HO336 := Qx (Qrb (kR_ HO336) hb)
            replace HO340 := Qx (Qrb (kR_ HO340) hb)
            replace BK0 := Qx (Qb (kB_ BK0) hb)
            replace BK341 := Qx (Qb (kB_ BK341) hb)
            replace HB := Qx (Qp hB_ hb)
            (try clear hb); (try clear hb2); (try clear hk); (try clear hi)
            refine hK.out _ _ ⟨(Qc BK341.out 0).trans rfl, (Qc BK341.out 1).trans rfl, (Qc BK341.out 2).trans rfl, (Qc BK341.out 3).trans rfl, (Qc BK341.out 4).trans rfl, (Qc BK341.out 5).trans rfl, (Qc BK341.out 6).trans rfl, (Qc BK0.out 0).trans rfl, (Qc BK0.out 1).trans rfl, (Qc BK0.out 2).trans rfl, (Qc BK0.out 3).trans rfl, (Qc BK0.out 4).trans rfl, (Qc BK0.out 5).trans rfl, (Qc BK0.out 6).trans rfl⟩ (fun hHeld => ?_)
            clear hK K
            refine norm_ (a' := ?_) ?_ ?_
            rotate_left
            ·show Act.put _ (some 133) _ = _
             simp only [Act.put, List.setIfInBounds_toArray, List.set_cons_zero, List.set_cons_succ, i64_w]
             rfl
            refine pr_ 8 134 19 511 ?_
            refine pr_ 9 135 19 1023 ?_
            refine pr_ 11 137 19 3071 ?_
            refine pr_ 12 138 19 7167 ?_
            refine pr_ 13 139 19 15359 ?_
            refine tq_ 10 136 19 16383 HT_.out HW_.out (by kernel_rfl) hHeld ?_ rfl (by rintro w' ⟨s0, s1, s2, s3, s4, s5, s6, s7, s8, s9, s10, s11, s12, s13⟩; go_simp; with_reducible rfl)
            refine tq_ 14 140 19 32767 HT_.out HW_.out (by kernel_rfl) hHeld ?_ rfl (by rintro w' ⟨s0, s1, s2, s3, s4, s5, s6, s7, s8, s9, s10, s11, s12, s13⟩; go_simp; with_reducible rfl)
            refine one_ (i := 15) (N := some 141) (bsA 19 65535) rfl rfl (one_of HT_.out (by kernel_rfl)) (by decide) (fun K hK => ?_)
            refine goes_ Try.func56 (by kernel_rfl) rfl #[.agg #[.int .i64 t337, .slice Ao60 t338.length co60], .agg #[.int .i64 a0_5, .slice A0_6 l0_6.length c0_6]] (by rfl) rfl rfl (by (try simp only [List.map_toArray, List.map_cons, List.map_nil]); first | done | rfl | (simp only [List.length_drop, List.length_take]; rfl)) ?_
            with_reducible refine (impl_sameBits.calls kj40 t337 _ _ t338 a0_5 _ _ l0_6 t343 _ ?side1 ?side2 ?side3 ?side4 A52.out).mono ?_
            (case side1 => exact kD_ HO340)
            (case side2 => exact (Kd.R_reads' HO340.out).2.1)
            (case side3 => exact kC_ HR0_6)
            (case side4 => exact HC0_6.out)
            rintro e w64 ⟨rfl, hb⟩
            refine ⟨_, rfl, ?_⟩
            replace HO_6 := Qx (Qrb (kR_ HO_6) hb)
            replace HO336 := Qx (Qrb (kR_ HO336) hb)
            replace HO340 := Qx (Qrb (kR_ HO340) hb)
            replace BK0 := Qx (Qb (kB_ BK0) hb)
            replace BK341 := Qx (Qb (kB_ BK341) hb)
            replace HB := Qx (Qp hB_ hb)
            (try clear hb); (try clear hb2); (try clear hk); (try clear hi)
            refine hK.out _ _ ⟨(Qc BK341.out 0).trans rfl, (Qc BK341.out 1).trans rfl, (Qc BK341.out 2).trans rfl, (Qc BK341.out 3).trans rfl, (Qc BK341.out 4).trans rfl, (Qc BK341.out 5).trans rfl, (Qc BK341.out 6).trans rfl, (Qc BK0.out 0).trans rfl, (Qc BK0.out 1).trans rfl, (Qc BK0.out 2).trans rfl, (Qc BK0.out 3).trans rfl, (Qc BK0.out 4).trans rfl, (Qc BK0.out 5).trans rfl, (Qc BK0.out 6).trans rfl⟩ (fun hHeld => ?_)
            clear hK K
            refine norm_ (a' := ?_) ?_ ?_
            rotate_left
            ·show Act.put _ (some 141) _ = _
             simp only [Act.put, List.setIfInBounds_toArray, List.set_cons_zero, List.set_cons_succ, i64_w]
             rfl
            refine pr_ 16 142 19 131071 ?_
            refine pr_ 17 2 19 262143 ?_
            refine pr_ 18 3 19 524287 ?_
            refine done_ (done_of HT_.out (by kernel_rfl)) ?_
            try go_wp2
            go_ret2
            exact ⟨_, rf_, by (with_reducible repeat (first | apply Qra | apply Qrn | apply Qrd)); exact Qrm HO_6.out (fun _ hk => trivial), hB_⟩
           ·replace c51 := Bool.eq_false_iff.mpr c51; subst c51
            have H1 : (some (x6_2, false)) = some (r1, r2) := by rw [if_neg (show ¬ (false = true) by decide)] at H; exact H
            clear H; have H := H1; clear H1; simp only [Option.some.injEq, Prod.mk.injEq] at H; obtain ⟨rfl, rfl⟩ := H
            obtain ⟨hcz65_0, hcz65_1, hcz65_2, hcz65_3, hcz65_4, hcz65_5, hcz65_6, hfz65_0, hfz65_1, hfz65_2, hfz65_3, hfz65_4, hfz65_5, hfz65_6⟩ := cellsQ7_g1e (w := wc) BK0.out
            obtain ⟨Ao66, co66, eo66⟩ := Kd.R_slice HO_6.out; subst eo66
            try go_wp2_with (first | ((with_reducible refine gate_callee (f := 21) rfl ?_); refine gl_ 125 Try.func21 #[.slice Ao66 x6_2.length co66, .int .i64 a0_1] ?_; (with_reducible refine (impl_sparse.calls kj40 _ _ x6_2 a0_1 t330 t331 t332 t333 t334 t337 t338 _ ?side1 ?side2 A49.out).mono ?_); (case side1 => exact kD_ HO_6); (case side2 => exact (Kd.R_reads' HO_6.out).2.1); rintro e w67 ⟨v335, v339, rfl, ho0, ho1, hb⟩; refine ⟨_, rfl, ?_⟩; have HO336 := Qx (Kd.R_lower (Kd.R_new' ho0 (Kd.R_lt (kR_ HO_6))) (Qz hB_)); have HO340 := Qx (Kd.R_lower (Kd.R_new' ho1 (Kd.R_lt (kR_ HO_6))) (Qz hB_)); replace HO_6 := Qx (Qrm (Kd.R_told (Kd.R_told (Kd.R_old (kR_ HO_6) hb) (Kd.R_base ho0)) (Kd.R_base ho1)) (fun _ h_ => h_.1)); replace BK0 := Qx (Qb (kB_ BK0) hb); replace HB := Qx (Qp hB_ hb); (try clear hb); (try clear hb2); (try clear hk); (try clear hi); (try clear ho0); (try clear ho1)) | ((with_reducible refine gate_dst (N := 9) rfl ?_); refine bx_ 9 #[.int .i64 0, .int .i64 0, .int .i64 0, .int .i64 0, .slice none 0 0, .int .i64 0, .slice none 0 0] 30 ?_; intro gb341 hg w68 hbox hb; replace HO_6 := Qx (Qrb (kR_ HO_6) hb); replace HO336 := Qx (Qrb (kR_ HO336) hb); replace HO340 := Qx (Qrb (kR_ HO340) hb); have BK341 := Qx (hbox); have GW341 := Qx ((ge_ hg)); have GE341 := Qx ((ge_ hg)); replace HB := Qx (Qp hB_ hb); have NB0_341 := Qx ((ne_ hg BK0)); have NB341_0 := Qx ((nf_ hg BK0)); replace BK0 := Qx (Qb (kB_ BK0) hb); clear hb hbox hg; have hnb69 := NB341_0.out; have hnc69 := NB0_341.out; obtain ⟨hcz70_0, hcz70_1, hcz70_2, hcz70_3, hcz70_4, hcz70_5, hcz70_6, hfz70_0, hfz70_1, hfz70_2, hfz70_3, hfz70_4, hfz70_5, hfz70_6⟩ := cellsQ7_g1e (w := w68) BK341.out; obtain ⟨Ao71, co71, eo71⟩ := Kd.R_slice HO336.out; subst eo71; obtain ⟨Ao72, co72, eo72⟩ := Kd.R_slice HO340.out; subst eo72))
            have n0_ : Aside0 (Kd.R (Kd.int .i64) 3 (((((((w68.setCell ⟨gb341, 0, none⟩ (.int .i64 t330)).setCell ⟨gb341, 1, none⟩ (.int .i64 t331)).setCell ⟨gb341, 2, none⟩ (.int .i64 t332)).setCell ⟨gb341, 3, none⟩ (.int .i64 t333)).setCell ⟨gb341, 4, none⟩ (.slice Ao71 t334.length co71)).setCell ⟨gb341, 5, none⟩ (.int .i64 t337)).setCell ⟨gb341, 6, none⟩ (.slice Ao72 t338.length co72)) w.heap.size (fun k_ => some k_ ≠ (.slice Ao71 t334.length co71 : Value).ownBlock ∧ some k_ ≠ (.slice Ao72 t338.length co72 : Value).ownBlock) (.slice Ao66 x6_2.length co66) x6_2) := ⟨by (with_reducible repeat (first | apply Qra | apply Qrn | apply Qrd)); exact Qrm (farsQ7_g1e (Kd.R_types HO_6.out BK341.out (by decide)) (fun _ hk => hk.2) (.int .i64 t330) (.int .i64 t331) (.int .i64 t332) (.int .i64 t333) (.slice Ao71 t334.length co71) (.int .i64 t337) (.slice Ao72 t338.length co72)) (fun _ hk => ⟨hk.1.1.2, hk.1.2⟩)⟩
            have n1_ : Aside0 (Kd.R (Kd.int .i64) 3 (((((((w68.setCell ⟨gb341, 0, none⟩ (.int .i64 t330)).setCell ⟨gb341, 1, none⟩ (.int .i64 t331)).setCell ⟨gb341, 2, none⟩ (.int .i64 t332)).setCell ⟨gb341, 3, none⟩ (.int .i64 t333)).setCell ⟨gb341, 4, none⟩ (.slice Ao71 t334.length co71)).setCell ⟨gb341, 5, none⟩ (.int .i64 t337)).setCell ⟨gb341, 6, none⟩ (.slice Ao72 t338.length co72)) w.heap.size (fun k_ => some k_ ≠ (.slice Ao66 x6_2.length co66 : Value).ownBlock ∧ some k_ ≠ (.slice Ao72 t338.length co72 : Value).ownBlock) (.slice Ao71 t334.length co71) t334) := ⟨by (with_reducible repeat (first | apply Qra | apply Qrn | apply Qrd)); exact Qrm (farsQ7_g1e (Kd.R_types HO336.out BK341.out (by decide)) (fun _ hk => hk.2) (.int .i64 t330) (.int .i64 t331) (.int .i64 t332) (.int .i64 t333) (.slice Ao71 t334.length co71) (.int .i64 t337) (.slice Ao72 t338.length co72)) (fun _ hk => ⟨hk.1.2, hk.1.1⟩)⟩
            have n2_ : Aside0 (Kd.R (Kd.int .i64) 3 (((((((w68.setCell ⟨gb341, 0, none⟩ (.int .i64 t330)).setCell ⟨gb341, 1, none⟩ (.int .i64 t331)).setCell ⟨gb341, 2, none⟩ (.int .i64 t332)).setCell ⟨gb341, 3, none⟩ (.int .i64 t333)).setCell ⟨gb341, 4, none⟩ (.slice Ao71 t334.length co71)).setCell ⟨gb341, 5, none⟩ (.int .i64 t337)).setCell ⟨gb341, 6, none⟩ (.slice Ao72 t338.length co72)) w.heap.size (fun k_ => some k_ ≠ (.slice Ao66 x6_2.length co66 : Value).ownBlock ∧ some k_ ≠ (.slice Ao71 t334.length co71 : Value).ownBlock) (.slice Ao72 t338.length co72) t338) := ⟨by (with_reducible repeat (first | apply Qra | apply Qrn | apply Qrd)); exact Qrm (farsQ7_g1e (Kd.R_types HO340.out BK341.out (by decide)) (fun _ hk => hk.2) (.int .i64 t330) (.int .i64 t331) (.int .i64 t332) (.int .i64 t333) (.slice Ao71 t334.length co71) (.int .i64 t337) (.slice Ao72 t338.length co72)) (fun _ hk => ⟨hk.1.2, hk.1.1⟩)⟩
            have n3_ : Aside0 ((((((((w68.setCell ⟨gb341, 0, none⟩ (.int .i64 t330)).setCell ⟨gb341, 1, none⟩ (.int .i64 t331)).setCell ⟨gb341, 2, none⟩ (.int .i64 t332)).setCell ⟨gb341, 3, none⟩ (.int .i64 t333)).setCell ⟨gb341, 4, none⟩ (.slice Ao71 t334.length co71)).setCell ⟨gb341, 5, none⟩ (.int .i64 t337)).setCell ⟨gb341, 6, none⟩ (.slice Ao72 t338.length co72)).heap[gb0_]? = some (.cells #[.int .i64 a0_0, .int .i64 a0_1, .int .i64 a0_2, .int .i64 a0_3, .slice A0_4 l0_4.length c0_4, .int .i64 a0_5, .slice A0_6 l0_6.length c0_6] 30 (0, 0))) := ⟨by (with_reducible repeat (first | refine Qm ?_ _ | refine Qw ?_ | refine Qk ?_ _)); refine Qr ?_ NB0_341.out _; (with_reducible repeat (first | refine Qm ?_ _ | refine Qw ?_ | refine Qk ?_ _)); refine Qr ?_ NB0_341.out _; (with_reducible repeat (first | refine Qm ?_ _ | refine Qw ?_ | refine Qk ?_ _)); refine Qr ?_ NB0_341.out _; (with_reducible repeat (first | refine Qm ?_ _ | refine Qw ?_ | refine Qk ?_ _)); refine Qr ?_ NB0_341.out _; (with_reducible repeat (first | refine Qm ?_ _ | refine Qw ?_ | refine Qk ?_ _)); refine Qr ?_ NB0_341.out _; (with_reducible repeat (first | refine Qm ?_ _ | refine Qw ?_ | refine Qk ?_ _)); refine Qr ?_ NB0_341.out _; (with_reducible repeat (first | refine Qm ?_ _ | refine Qw ?_ | refine Qk ?_ _)); refine Qr ?_ NB0_341.out _; (with_reducible repeat (first | refine Qm ?_ _ | refine Qw ?_ | refine Qk ?_ _)); exact BK0.out⟩
            have n4_ : Aside0 ((((((((w68.setCell ⟨gb341, 0, none⟩ (.int .i64 t330)).setCell ⟨gb341, 1, none⟩ (.int .i64 t331)).setCell ⟨gb341, 2, none⟩ (.int .i64 t332)).setCell ⟨gb341, 3, none⟩ (.int .i64 t333)).setCell ⟨gb341, 4, none⟩ (.slice Ao71 t334.length co71)).setCell ⟨gb341, 5, none⟩ (.int .i64 t337)).setCell ⟨gb341, 6, none⟩ (.slice Ao72 t338.length co72)).heap[gb341]? = some (.cells #[.int .i64 t330, .int .i64 t331, .int .i64 t332, .int .i64 t333, .slice Ao71 t334.length co71, .int .i64 t337, .slice Ao72 t338.length co72] 30 (0, 0))) := ⟨by (with_reducible repeat (first | refine Qm ?_ _ | refine Qw ?_ | refine Qk ?_ _)); refine Qu (cs := #[.int .i64 t330, .int .i64 t331, .int .i64 t332, .int .i64 t333, .slice Ao71 t334.length co71, .int .i64 t337, .slice none 0 0]) ?_ 6 _ rfl; (with_reducible repeat (first | refine Qm ?_ _ | refine Qw ?_ | refine Qk ?_ _)); refine Qu (cs := #[.int .i64 t330, .int .i64 t331, .int .i64 t332, .int .i64 t333, .slice Ao71 t334.length co71, .int .i64 0, .slice none 0 0]) ?_ 5 _ rfl; (with_reducible repeat (first | refine Qm ?_ _ | refine Qw ?_ | refine Qk ?_ _)); refine Qu (cs := #[.int .i64 t330, .int .i64 t331, .int .i64 t332, .int .i64 t333, .slice none 0 0, .int .i64 0, .slice none 0 0]) ?_ 4 _ rfl; (with_reducible repeat (first | refine Qm ?_ _ | refine Qw ?_ | refine Qk ?_ _)); refine Qu (cs := #[.int .i64 t330, .int .i64 t331, .int .i64 t332, .int .i64 0, .slice none 0 0, .int .i64 0, .slice none 0 0]) ?_ 3 _ rfl; (with_reducible repeat (first | refine Qm ?_ _ | refine Qw ?_ | refine Qk ?_ _)); refine Qu (cs := #[.int .i64 t330, .int .i64 t331, .int .i64 0, .int .i64 0, .slice none 0 0, .int .i64 0, .slice none 0 0]) ?_ 2 _ rfl; (with_reducible repeat (first | refine Qm ?_ _ | refine Qw ?_ | refine Qk ?_ _)); refine Qu (cs := #[.int .i64 t330, .int .i64 0, .int .i64 0, .int .i64 0, .slice none 0 0, .int .i64 0, .slice none 0 0]) ?_ 1 _ rfl; (with_reducible repeat (first | refine Qm ?_ _ | refine Qw ?_ | refine Qk ?_ _)); refine Qu (cs := #[.int .i64 0, .int .i64 0, .int .i64 0, .int .i64 0, .slice none 0 0, .int .i64 0, .slice none 0 0]) ?_ 0 _ rfl; (with_reducible repeat (first | refine Qm ?_ _ | refine Qw ?_ | refine Qk ?_ _)); exact BK341.out⟩
            have n5_ : Aside0 (Below w.heap.size w (((((((w68.setCell ⟨gb341, 0, none⟩ (.int .i64 t330)).setCell ⟨gb341, 1, none⟩ (.int .i64 t331)).setCell ⟨gb341, 2, none⟩ (.int .i64 t332)).setCell ⟨gb341, 3, none⟩ (.int .i64 t333)).setCell ⟨gb341, 4, none⟩ (.slice Ao71 t334.length co71)).setCell ⟨gb341, 5, none⟩ (.int .i64 t337)).setCell ⟨gb341, 6, none⟩ (.slice Ao72 t338.length co72))) := ⟨hB_⟩
            (try clear HO_6); (try clear HO336); (try clear HO340); (try clear BK0); (try clear BK341); (try clear HB)
            generalize (((((((w68.setCell ⟨gb341, 0, none⟩ (.int .i64 t330)).setCell ⟨gb341, 1, none⟩ (.int .i64 t331)).setCell ⟨gb341, 2, none⟩ (.int .i64 t332)).setCell ⟨gb341, 3, none⟩ (.int .i64 t333)).setCell ⟨gb341, 4, none⟩ (.slice Ao71 t334.length co71)).setCell ⟨gb341, 5, none⟩ (.int .i64 t337)).setCell ⟨gb341, 6, none⟩ (.slice Ao72 t338.length co72)) = w73 at n0_ n1_ n2_ n3_ n4_ n5_ ⊢
            have HO_6 := n0_; have HO336 := n1_; have HO340 := n2_; have BK0 := n3_; have BK341 := n4_; have HB := n5_; clear n0_ n1_ n2_ n3_ n4_ n5_
            have n0_ := Qx (Qrd HO_6.out)
            have n1_ := Qx (Qrd HO336.out)
            have n2_ := Qx (Qw BK0.out)
            have n3_ := Qx (Qw BK341.out)
            have n4_ := Qx (Qd HB.out)
            clear HO_6 HO336 BK0 BK341 HB HO340; have HO_6 := n0_; have HO336 := n1_; have BK0 := n2_; have BK341 := n3_; have HB := n4_; clear n0_ n1_ n2_ n3_ n4_
            refine start_ (n := 19) (S := fun w' => w'.cell? ⟨gb341, 0, none⟩ = some (.int .i64 t330) ∧ w'.cell? ⟨gb341, 1, none⟩ = some (.int .i64 t331) ∧ w'.cell? ⟨gb341, 2, none⟩ = some (.int .i64 t332) ∧ w'.cell? ⟨gb341, 3, none⟩ = some (.int .i64 t333) ∧ w'.cell? ⟨gb341, 4, none⟩ = some (.slice Ao71 t334.length co71) ∧ w'.cell? ⟨gb341, 5, none⟩ = some (.int .i64 t337) ∧ w'.cell? ⟨gb341, 6, none⟩ = some (.slice Ao72 t338.length co72) ∧ w'.cell? ⟨gb0_, 0, none⟩ = some (.int .i64 a0_0) ∧ w'.cell? ⟨gb0_, 1, none⟩ = some (.int .i64 a0_1) ∧ w'.cell? ⟨gb0_, 2, none⟩ = some (.int .i64 a0_2) ∧ w'.cell? ⟨gb0_, 3, none⟩ = some (.int .i64 a0_3) ∧ w'.cell? ⟨gb0_, 4, none⟩ = some (.slice A0_4 l0_4.length c0_4) ∧ w'.cell? ⟨gb0_, 5, none⟩ = some (.int .i64 a0_5) ∧ w'.cell? ⟨gb0_, 6, none⟩ = some (.slice A0_6 l0_6.length c0_6)) (ds := []) #[false, false, false, false, false, false, false, false, false, false, false, false, false, false, false, false, false, false, false] (by kernel_rfl) rfl rfl ⟨(Qc BK341.out 0).trans rfl, (Qc BK341.out 1).trans rfl, (Qc BK341.out 2).trans rfl, (Qc BK341.out 3).trans rfl, (Qc BK341.out 4).trans rfl, (Qc BK341.out 5).trans rfl, (Qc BK341.out 6).trans rfl, (Qc BK0.out 0).trans rfl, (Qc BK0.out 1).trans rfl, (Qc BK0.out 2).trans rfl, (Qc BK0.out 3).trans rfl, (Qc BK0.out 4).trans rfl, (Qc BK0.out 5).trans rfl, (Qc BK0.out 6).trans rfl⟩ (fun hHeld => ?_); refine with_tabW impl_Sparse_numbers.tab15 impl_Sparse_numbers.bits15 (fun HT_ HW_ => ?_)
            generalize w73.drew = w74 at HO_6 HO336 BK0 BK341 HB hHeld ⊢
            refine pr_ 0 126 19 1 ?_
            refine pr_ 1 127 19 3 ?_
            refine pr_ 3 129 19 11 ?_
            refine pr_ 4 130 19 27 ?_
            refine pr_ 5 131 19 59 ?_
            refine tq_ 2 128 19 63 HT_.out HW_.out (by kernel_rfl) hHeld ?_ rfl (by rintro w' ⟨s0, s1, s2, s3, s4, s5, s6, s7, s8, s9, s10, s11, s12, s13⟩; go_simp; with_reducible rfl)
            refine tq_ 6 132 19 127 HT_.out HW_.out (by kernel_rfl) hHeld ?_ rfl (by rintro w' ⟨s0, s1, s2, s3, s4, s5, s6, s7, s8, s9, s10, s11, s12, s13⟩; go_simp; with_reducible rfl)
            refine one_ (i := 7) (N := some 133) (bsA 19 255) rfl rfl (one_of HT_.out (by kernel_rfl)) (by decide) (fun K hK => ?_)
            refine goes_ Try.func56 (by kernel_rfl) rfl #[.agg #[.int .i64 t333, .slice Ao71 t334.length co71], .agg #[.int .i64 a0_3, .slice A0_4 l0_4.length c0_4]] (by rfl) rfl rfl (by (try simp only [List.map_toArray, List.map_cons, List.map_nil]); first | done | rfl | (simp only [List.length_drop, List.length_take]; rfl)) ?_
            with_reducible refine (impl_sameBits.calls kj40 t333 _ _ t334 a0_3 _ _ l0_4 false _ ?side1 ?side2 ?side3 ?side4 A50.out).mono ?_
            (case side1 => exact kD_ HO336)
            (case side2 => exact (Kd.R_reads' HO336.out).2.1)
            (case side3 => exact kC_ HR0_4)
            (case side4 => exact HC0_4.out)
            rintro e w75 ⟨rfl, hb⟩
            refine ⟨_, rfl, ?_⟩
            replace HO_6 := Qx (Qrb (kR_ HO_6) hb)
            replace HO336 := Qx (Qrb (kR_ HO336) hb)
            replace BK0 := Qx (Qb (kB_ BK0) hb)
            replace BK341 := Qx (Qb (kB_ BK341) hb)
            replace HB := Qx (Qp hB_ hb)
            (try clear hb); (try clear hb2); (try clear hk); (try clear hi)
            refine hK.out _ _ ⟨(Qc BK341.out 0).trans rfl, (Qc BK341.out 1).trans rfl, (Qc BK341.out 2).trans rfl, (Qc BK341.out 3).trans rfl, (Qc BK341.out 4).trans rfl, (Qc BK341.out 5).trans rfl, (Qc BK341.out 6).trans rfl, (Qc BK0.out 0).trans rfl, (Qc BK0.out 1).trans rfl, (Qc BK0.out 2).trans rfl, (Qc BK0.out 3).trans rfl, (Qc BK0.out 4).trans rfl, (Qc BK0.out 5).trans rfl, (Qc BK0.out 6).trans rfl⟩ (fun hHeld => ?_)
            clear hK K
            refine norm_ (a' := ?_) ?_ ?_
            rotate_left
            ·show Act.put _ (some 133) _ = _
             simp only [Act.put, List.setIfInBounds_toArray, List.set_cons_zero, List.set_cons_succ, i64_w]
             rfl
            refine pr_ 8 134 19 511 ?_
            refine ur_ 9 135 19 1023 ?_
            refine ur_ 10 136 19 2047 ?_
            refine ur_ 11 137 19 4095 ?_
            refine ur_ 12 138 19 8191 ?_
            refine ur_ 13 139 19 16383 ?_
            refine ur_ 14 140 19 32767 ?_
            refine ur_ 15 141 19 65535 ?_
            refine pr_ 16 142 19 131071 ?_
            refine pr_ 17 2 19 262143 ?_
            refine pr_ 18 3 19 524287 ?_
            refine done_ (done_of HT_.out (by kernel_rfl)) ?_
            try go_wp2
            go_ret2
            exact ⟨_, rf_, by (with_reducible repeat (first | apply Qra | apply Qrn | apply Qrd)); exact Qrm HO_6.out (fun _ hk => trivial), hB_⟩
/-! ### impl_twoLists: function 18 -/
def impl_twoLists.f (k : Nat) (a0_0 : Int) (a0_1 : Int) (a0_2 : Int) (a0_3 : Int) (l0_4 : List Int) (a0_5 : Int) (l0_6 : List Int) (a1_0 : Int) (a1_1 : Int) (a1_2 : Int) (a1_3 : Int) (l1_4 : List Int) (a1_5 : Int) (l1_6 : List Int) : Option (List Int × List Int × Bool) := (impl_Sparse_numbers.f k a0_0 a0_1 a0_2 a0_3 l0_4 a0_5 l0_6).bind fun bt346 => ((impl_Sparse_numbers.f k a1_0 a1_1 a1_2 a1_3 l1_4 a1_5 l1_6).bind fun bt350 => (if bt346.2 = true then (some (bt346.1, bt350.1, bt350.2)) else (some (bt346.1, bt350.1, false))))
theorem impl_twoLists.mono : ∀ a0 a1 a2 a3 a4 a5 a6 a7 a8 a9 a10 a11 a12 a13 k, LeO (impl_twoLists.f k a0 a1 a2 a3 a4 a5 a6 a7 a8 a9 a10 a11 a12 a13) (impl_twoLists.f (k + 1) a0 a1 a2 a3 a4 a5 a6 a7 a8 a9 a10 a11 a12 a13) := by
  intro a0 a1 a2 a3 a4 a5 a6 a7 a8 a9 a10 a11 a12 a13 k
  unfold impl_twoLists.f
  repeat' first
      | (with_reducible exact impl_Sparse_numbers.mono _ _ _ _ _ _ _ _)
      | (with_reducible exact LeO.refl _)
      | (with_reducible exact LeO.none _)
      | (with_reducible refine LeO.ite ?_ ?_)
      | (with_reducible refine LeO.bind ?_ (fun _ => ?_))
      | exact impl_Sparse_numbers.mono _ _ _ _ _ _ _ _
      | exact LeO.none _
      | refine LeO.ite ?_ ?_
      | refine LeO.bind ?_ (fun _ => ?_)
noncomputable def impl_twoLists.F (a0_0 : Int) (a0_1 : Int) (a0_2 : Int) (a0_3 : Int) (l0_4 : List Int) (a0_5 : Int) (l0_6 : List Int) (a1_0 : Int) (a1_1 : Int) (a1_2 : Int) (a1_3 : Int) (l1_4 : List Int) (a1_5 : Int) (l1_6 : List Int) : Option (List Int × List Int × Bool) := lim fun k => impl_twoLists.f k a0_0 a0_1 a0_2 a0_3 l0_4 a0_5 l0_6 a1_0 a1_1 a1_2 a1_3 l1_4 a1_5 l1_6
theorem impl_twoLists.F_sup (a0_0 : Int) (a0_1 : Int) (a0_2 : Int) (a0_3 : Int) (l0_4 : List Int) (a0_5 : Int) (l0_6 : List Int) (a1_0 : Int) (a1_1 : Int) (a1_2 : Int) (a1_3 : Int) (l1_4 : List Int) (a1_5 : Int) (l1_6 : List Int) : Sup (fun k => impl_twoLists.f k a0_0 a0_1 a0_2 a0_3 l0_4 a0_5 l0_6 a1_0 a1_1 a1_2 a1_3 l1_4 a1_5 l1_6) (impl_twoLists.F a0_0 a0_1 a0_2 a0_3 l0_4 a0_5 l0_6 a1_0 a1_1 a1_2 a1_3 l1_4 a1_5 l1_6) := Sup.of_mono fun k => impl_twoLists.mono a0_0 a0_1 a0_2 a0_3 l0_4 a0_5 l0_6 a1_0 a1_1 a1_2 a1_3 l1_4 a1_5 l1_6 k
theorem impl_twoLists.F_eq (a0_0 : Int) (a0_1 : Int) (a0_2 : Int) (a0_3 : Int) (l0_4 : List Int) (a0_5 : Int) (l0_6 : List Int) (a1_0 : Int) (a1_1 : Int) (a1_2 : Int) (a1_3 : Int) (l1_4 : List Int) (a1_5 : Int) (l1_6 : List Int) : impl_twoLists.F a0_0 a0_1 a0_2 a0_3 l0_4 a0_5 l0_6 a1_0 a1_1 a1_2 a1_3 l1_4 a1_5 l1_6 = (impl_Sparse_numbers.F a0_0 a0_1 a0_2 a0_3 l0_4 a0_5 l0_6).bind fun bt346 => ((impl_Sparse_numbers.F a1_0 a1_1 a1_2 a1_3 l1_4 a1_5 l1_6).bind fun bt350 => (if bt346.2 = true then (some (bt346.1, bt350.1, bt350.2)) else (some (bt346.1, bt350.1, false)))) := by
  refine Sup.unique (impl_twoLists.F_sup a0_0 a0_1 a0_2 a0_3 l0_4 a0_5 l0_6 a1_0 a1_1 a1_2 a1_3 l1_4 a1_5 l1_6) (Sup.congr (g' := fun k => (impl_Sparse_numbers.f k a0_0 a0_1 a0_2 a0_3 l0_4 a0_5 l0_6).bind fun bt346 => ((impl_Sparse_numbers.f k a1_0 a1_1 a1_2 a1_3 l1_4 a1_5 l1_6).bind fun bt350 => (if bt346.2 = true then (some (bt346.1, bt350.1, bt350.2)) else (some (bt346.1, bt350.1, false))))) (fun k => by first | rfl | simp only [impl_twoLists.f]) ?_)
  repeat' first
    | (with_reducible exact impl_Sparse_numbers.F_sup _ _ _ _ _ _ _)
    | (with_reducible refine Sup.ite ?_ ?_)
    | (with_reducible refine Sup.bind ?_ (fun _ => ?_))
    | (with_reducible exact Sup.const _)
    | exact impl_Sparse_numbers.F_sup _ _ _ _ _ _ _
    | exact Sup.const _
set_option maxHeartbeats 8000000 in
set_option maxRecDepth 100000 in
theorem impl_twoLists.calls (k : Nat) (a0_0 : Int) (a0_1 : Int) (a0_2 : Int) (a0_3 : Int) (A0_4 : Option Addr) (c0_4 : Nat) (l0_4 : List Int) (a0_5 : Int) (A0_6 : Option Addr) (c0_6 : Nat) (l0_6 : List Int) (a1_0 : Int) (a1_1 : Int) (a1_2 : Int) (a1_3 : Int) (A1_4 : Option Addr) (c1_4 : Nat) (l1_4 : List Int) (a1_5 : Int) (A1_6 : Option Addr) (c1_6 : Nat) (l1_6 : List Int) (r1 : List Int) (r2 : List Int) (r3 : Bool) (w : World) (hr0_4 : Kd.C (Kd.int .i64) w A0_4 l0_4.length l0_4) (hc0_4 : l0_4.length ≤ c0_4) (hr0_6 : Kd.C (Kd.int .i64) w A0_6 l0_6.length l0_6) (hc0_6 : l0_6.length ≤ c0_6) (hr1_4 : Kd.C (Kd.int .i64) w A1_4 l1_4.length l1_4) (hc1_4 : l1_4.length ≤ c1_4) (hr1_6 : Kd.C (Kd.int .i64) w A1_6 l1_6.length l1_6) (hc1_6 : l1_6.length ≤ c1_6) (h : impl_twoLists.f k a0_0 a0_1 a0_2 a0_3 l0_4 a0_5 l0_6 a1_0 a1_1 a1_2 a1_3 l1_4 a1_5 l1_6 = some (r1, r2, r3)) :
    Calls Try.prog 18 #[.agg #[.int .i64 a0_0, .int .i64 a0_1, .int .i64 a0_2, .int .i64 a0_3, .slice A0_4 l0_4.length c0_4, .int .i64 a0_5, .slice A0_6 l0_6.length c0_6], .agg #[.int .i64 a1_0, .int .i64 a1_1, .int .i64 a1_2, .int .i64 a1_3, .slice A1_4 l1_4.length c1_4, .int .i64 a1_5, .slice A1_6 l1_6.length c1_6]] w fun e w' => ∃ v0_ v1_ : Value, e = .returned (.tuple #[v0_, v1_, .bool r3]) ∧ Kd.R (Kd.int .i64) 3 w' w.heap.size (fun k_ => some k_ ≠ (v1_ : Value).ownBlock) v0_ r1 ∧ Kd.R (Kd.int .i64) 3 w' w.heap.size (fun k_ => some k_ ≠ (v0_ : Value).ownBlock) v1_ r2 ∧ Below w.heap.size w w' := by
  have hu30 := Try.underlying30; have HR0_4 := Qx hr0_4; have HC0_4 := Qx hc0_4; clear hr0_4 hc0_4; have HR0_6 := Qx hr0_6; have HC0_6 := Qx hc0_6; clear hr0_6 hc0_6; have HR1_4 := Qx hr1_4; have HC1_4 := Qx hc1_4; clear hr1_4 hc1_4; have HR1_6 := Qx hr1_6; have HC1_6 := Qx hc1_6; clear hr1_6 hc1_6
  have HB := Qx (Below.refl w.heap.size w)
  have H : ((impl_Sparse_numbers.f k a0_0 a0_1 a0_2 a0_3 l0_4 a0_5 l0_6).bind fun bt346 => ((impl_Sparse_numbers.f k a1_0 a1_1 a1_2 a1_3 l1_4 a1_5 l1_6).bind fun bt350 => (if bt346.2 = true then (some (bt346.1, bt350.1, bt350.2)) else (some (bt346.1, bt350.1, false))))) = some (r1, r2, r3) := h
  clear h; replace H := Option.bind_eq_some_iff.mp H; obtain ⟨⟨t346, t349⟩, A30, H⟩ := H
  have A3 := Qx A30; clear A30; replace H := Option.bind_eq_some_iff.mp H; obtain ⟨⟨t350, t353⟩, A40, H⟩ := H
  have A4 := Qx A40; clear A40
  by_cases c5 : t349 = true
  ·subst c5
   have H1 : (some (t346, t350, t353)) = some (r1, r2, r3) := by rw [if_pos rfl] at H; exact H
   clear H; have H := H1; clear H1; simp only [Option.some.injEq, Prod.mk.injEq] at H; obtain ⟨rfl, rfl, rfl⟩ := H
   go_enter Try.func18, Try.ntmps18
   go_wp2_with (first | ((with_reducible refine gate_dst (N := 2) rfl ?_); refine bx_ 2 #[.int .i64 a0_0, .int .i64 a0_1, .int .i64 a0_2, .int .i64 a0_3, .slice A0_4 l0_4.length c0_4, .int .i64 a0_5, .slice A0_6 l0_6.length c0_6] 30 ?_; intro gb344 hg w6 hbox hb; have BK344 := Qx (hbox); have GW344 := Qx ((ge_ hg)); have GE344 := Qx ((ge_ hg)); replace HB := Qx (Qp hB_ hb); clear hb hbox hg) | ((with_reducible refine gate_dst (N := 3) rfl ?_); refine bx_ 3 #[.int .i64 a1_0, .int .i64 a1_1, .int .i64 a1_2, .int .i64 a1_3, .slice A1_4 l1_4.length c1_4, .int .i64 a1_5, .slice A1_6 l1_6.length c1_6] 30 ?_; intro gb345 hg w7 hbox hb; have BK345 := Qx (hbox); have GW345 := Qx ((ge_ hg)); have GE345 := Qx ((ge_ hg)); replace HB := Qx (Qp hB_ hb); have NB344_345 := Qx ((ne_ hg BK344)); have NB345_344 := Qx ((nf_ hg BK344)); replace BK344 := Qx (Qb (kB_ BK344) hb); clear hb hbox hg) | ((with_reducible refine gate_callee (f := 37) rfl ?_); refine gl_ 12 Try.func37 #[.pointer (some ⟨gb344, 0, none⟩)] ?_; (with_reducible refine (impl_Sparse_numbers.calls k gb344 a0_0 a0_1 a0_2 a0_3 A0_4 c0_4 l0_4 a0_5 A0_6 c0_6 l0_6 t346 true _ ?side1 ?side2 ?side3 ?side4 ?side5 A3.out).mono ?_); (case side1 => exact kC_ HR0_4); (case side2 => exact HC0_4.out); (case side3 => exact kC_ HR0_6); (case side4 => exact HC0_6.out); (case side5 => exact (kB_ BK344)); rintro e w8 ⟨v347, rfl, ho0, hb⟩; refine ⟨_, rfl, ?_⟩; have n0_ := Qx (Kd.R_lower ho0 (Qz hB_)); have n1_ := Qx (Qb (kB_ BK345) hb); have n2_ := Qx (Qp hB_ hb); clear BK345 HB BK344; have HO348 := n0_; have BK345 := n1_; have HB := n2_; clear n0_ n1_ n2_; (try clear hb); (try clear hb2); (try clear hk); (try clear hi); (try clear ho0)) | ((with_reducible refine gate_callee (f := 37) rfl ?_); refine gl_ 16 Try.func37 #[.pointer (some ⟨gb345, 0, none⟩)] ?_; (with_reducible refine (impl_Sparse_numbers.calls k gb345 a1_0 a1_1 a1_2 a1_3 A1_4 c1_4 l1_4 a1_5 A1_6 c1_6 l1_6 t350 t353 _ ?side1 ?side2 ?side3 ?side4 ?side5 A4.out).mono ?_); (case side1 => exact kC_ HR1_4); (case side2 => exact HC1_4.out); (case side3 => exact kC_ HR1_6); (case side4 => exact HC1_6.out); (case side5 => exact (kB_ BK345)); rintro e w9 ⟨v351, rfl, ho0, hb⟩; refine ⟨_, rfl, ?_⟩; have n0_ := Qx (Kd.R_elder' (kR_ HO348) (Kd.R_base ho0) hb); have n1_ := Qx (Kd.R_lower (Kd.R_new' ho0 (Kd.R_lt (kR_ HO348))) (Qz hB_)); have n2_ := Qx (Qp hB_ hb); clear HO348 HB BK345; have HO348 := n0_; have HO352 := n1_; have HB := n2_; clear n0_ n1_ n2_; (try clear hb); (try clear hb2); (try clear hk); (try clear hi); (try clear ho0)))
   go_ret3
   exact ⟨_, _, rf_, by (with_reducible repeat (first | apply Qra | apply Qrn | apply Qrd)); exact Qrm HO348.out (fun _ hk => hk.2), by (with_reducible repeat (first | apply Qra | apply Qrn | apply Qrd)); exact Qrm HO352.out (fun _ hk => hk.2), hB_⟩
  ·replace c5 := Bool.eq_false_iff.mpr c5; subst c5
   have H1 : (some (t346, t350, false)) = some (r1, r2, r3) := by rw [if_neg (show ¬ (false = true) by decide)] at H; exact H
   clear H; have H := H1; clear H1; simp only [Option.some.injEq, Prod.mk.injEq] at H; obtain ⟨rfl, rfl, rfl⟩ := H
   go_enter Try.func18, Try.ntmps18
   go_wp2_with (first | ((with_reducible refine gate_dst (N := 2) rfl ?_); refine bx_ 2 #[.int .i64 a0_0, .int .i64 a0_1, .int .i64 a0_2, .int .i64 a0_3, .slice A0_4 l0_4.length c0_4, .int .i64 a0_5, .slice A0_6 l0_6.length c0_6] 30 ?_; intro gb344 hg w10 hbox hb; have BK344 := Qx (hbox); have GW344 := Qx ((ge_ hg)); have GE344 := Qx ((ge_ hg)); replace HB := Qx (Qp hB_ hb); clear hb hbox hg) | ((with_reducible refine gate_dst (N := 3) rfl ?_); refine bx_ 3 #[.int .i64 a1_0, .int .i64 a1_1, .int .i64 a1_2, .int .i64 a1_3, .slice A1_4 l1_4.length c1_4, .int .i64 a1_5, .slice A1_6 l1_6.length c1_6] 30 ?_; intro gb345 hg w11 hbox hb; have BK345 := Qx (hbox); have GW345 := Qx ((ge_ hg)); have GE345 := Qx ((ge_ hg)); replace HB := Qx (Qp hB_ hb); have NB344_345 := Qx ((ne_ hg BK344)); have NB345_344 := Qx ((nf_ hg BK344)); replace BK344 := Qx (Qb (kB_ BK344) hb); clear hb hbox hg) | ((with_reducible refine gate_callee (f := 37) rfl ?_); refine gl_ 12 Try.func37 #[.pointer (some ⟨gb344, 0, none⟩)] ?_; (with_reducible refine (impl_Sparse_numbers.calls k gb344 a0_0 a0_1 a0_2 a0_3 A0_4 c0_4 l0_4 a0_5 A0_6 c0_6 l0_6 t346 false _ ?side1 ?side2 ?side3 ?side4 ?side5 A3.out).mono ?_); (case side1 => exact kC_ HR0_4); (case side2 => exact HC0_4.out); (case side3 => exact kC_ HR0_6); (case side4 => exact HC0_6.out); (case side5 => exact (kB_ BK344)); rintro e w12 ⟨v347, rfl, ho0, hb⟩; refine ⟨_, rfl, ?_⟩; have n0_ := Qx (Kd.R_lower ho0 (Qz hB_)); have n1_ := Qx (Qb (kB_ BK345) hb); have n2_ := Qx (Qp hB_ hb); clear BK345 HB BK344; have HO348 := n0_; have BK345 := n1_; have HB := n2_; clear n0_ n1_ n2_; (try clear hb); (try clear hb2); (try clear hk); (try clear hi); (try clear ho0)) | ((with_reducible refine gate_callee (f := 37) rfl ?_); refine gl_ 16 Try.func37 #[.pointer (some ⟨gb345, 0, none⟩)] ?_; (with_reducible refine (impl_Sparse_numbers.calls k gb345 a1_0 a1_1 a1_2 a1_3 A1_4 c1_4 l1_4 a1_5 A1_6 c1_6 l1_6 t350 t353 _ ?side1 ?side2 ?side3 ?side4 ?side5 A4.out).mono ?_); (case side1 => exact kC_ HR1_4); (case side2 => exact HC1_4.out); (case side3 => exact kC_ HR1_6); (case side4 => exact HC1_6.out); (case side5 => exact (kB_ BK345)); rintro e w13 ⟨v351, rfl, ho0, hb⟩; refine ⟨_, rfl, ?_⟩; have n0_ := Qx (Kd.R_elder' (kR_ HO348) (Kd.R_base ho0) hb); have n1_ := Qx (Kd.R_lower (Kd.R_new' ho0 (Kd.R_lt (kR_ HO348))) (Qz hB_)); have n2_ := Qx (Qp hB_ hb); clear HO348 HB BK345; have HO348 := n0_; have HO352 := n1_; have HB := n2_; clear n0_ n1_ n2_; (try clear hb); (try clear hb2); (try clear hk); (try clear hi); (try clear ho0)))
   go_ret3
   exact ⟨_, _, rf_, by (with_reducible repeat (first | apply Qra | apply Qrn | apply Qrd)); exact Qrm HO348.out (fun _ hk => hk.2), by (with_reducible repeat (first | apply Qra | apply Qrn | apply Qrd)); exact Qrm HO352.out (fun _ hk => hk.2), hB_⟩
/-! ### slices_Grow_int_int__nil: function 38, of a nil slice -/
def slices_Grow_int_int__nil.f (a0 : Int) : Option (List Int) := if 0 ≤ a0 then (if a0 < 17592186044416 then (some []) else (none)) else (none)
set_option maxHeartbeats 8000000 in
set_option maxRecDepth 100000 in
theorem slices_Grow_int_int__nil.calls (a0 : Int) (r : List Int) (w : World) (h : slices_Grow_int_int__nil.f a0 = some r) :
    Calls Try.prog 38 #[.slice none 0 0, .int .i64 a0] w fun e w' => ∃ v0_ : Value, e = .returned (v0_) ∧ Kd.R ((Kd.int .i64)) 3 w' w.heap.size (fun _ => True) v0_ r ∧ Below w.heap.size w w' := by
  unfold slices_Grow_int_int__nil.f at h
  by_cases c1 : 0 ≤ a0
  ·rw [if_pos c1] at h
   by_cases c2 : a0 < 17592186044416
   ·rw [if_pos c2] at h; obtain rfl := Option.some.inj h; clear h
    have hw : wrap64 a0 = a0 := by unfold wrap64; omega
    have c1b : decide (a0 < 0) = false := decide_eq_false (by omega)
    have HL := Qx c2; have HW := Qx hw; have HP := Qx c1; clear c2 c1
    rcases Int.lt_or_eq_of_le HP.out with c3 | rfl
    ·have c3b : decide (0 < a0) = true := decide_eq_true c3
     have c3c : decide (a0 > 0) = true := decide_eq_true c3
     clear c3
     go_enter Try.func38, Try.ntmps38
     obtain ⟨i0, hi0, _, hsz, _⟩ := info_parts info3; have HI := Qx hi0; clear hi0 hsz
     go_wp2_with (first | ((with_reducible refine gate_builtin (b := .append) (xs := #[.tmp 20, .tmp 21]) rfl ?_); at_builtin; refine Kd.R_append_zeros ((Kd.int .i64)) (w0 := w) w.heap.size rfl (.tmp 20) (.tmp 21) 22 3 3 ((.int .i64 0)) 8 rfl Try.underlying22 Try.underlying3 info3 rfl (by decide) (by omega) (.slice none 0 0) [] 0 (wrap64 a0) (fun _ => True) rfl rfl rfl ?aF ?aO ?a0 ?aB ?aS ?aL ?_; (case a0 => rw [HW.out]; exact HP.out); (case aF => exact fun _ _ => trivial); (case aO => exact Kd.R_nil _ _ _ _ _); (case aB => exact Below.refl _ _); (case aS => exact Nat.le_refl _); (case aL => have := HL.out; rw [HW.out]; simp only [List.length_nil]; omega); intro v22 w2 ho hb hg hat; obtain ⟨A22, c22, hv⟩ := Kd.R_slice ho; generalize hz : ([] ++ List.replicate (wrap64 a0).toNat 0 : List Int) = zs at ho hv; subst hv; have hcut := cut_to (P := Try.prog) 22 3 .i64 Try.underlying22 HI.out A22 zs.length c22 (0 : Int) (by omega) (by omega) (Kd.R_reads' ho).2.1; have hr := Kd.R_take (m := (0 : Int).toNat) ho (by omega); have HR := Qx hr; have HB := Qx hb; clear ho hb hg hat hr hz))
     go_ret
     exact ⟨_, rfl, HR.out, HB.out⟩
    ·go_enter Try.func38, Try.ntmps38
     go_wp2
     go_ret
     exact ⟨_, rfl, Kd.R_nil _ _ _ _ _, Below.refl _ _⟩
   ·rw [if_neg c2] at h
    exact absurd h (by simp)
  ·rw [if_neg c1] at h
   exact absurd h (by simp)
/-! ### slices_Concat_int_int: function 19 -/
mutual
def slices_Concat_int_int.l0 : Nat → List (List Int) → Int → List (List Int) → Int → Int → Option (List Int)
  | 0, _, _, _, _, _ => none
  | k + 1, x0, x3, x9, x10, x11 => if x11 < x10 then (if 0 ≤ x11 then (if x11 < (x9.length : Int) then (if (wrap64 (x3 + ((rd_L2 x9 x11).length : Int))) < 0 then (none) else (slices_Concat_int_int.l0 k x0 (wrap64 (x3 + ((rd_L2 x9 x11).length : Int))) x9 x10 (wrap64 (x11 + 1)))) else (none)) else (none)) else ((slices_Grow_int_int__nil.f x3).bind fun t355 => (slices_Concat_int_int.l1 k t355 x0 (x0.length : Int) 0))
def slices_Concat_int_int.l1 : Nat → List Int → List (List Int) → Int → Int → Option (List Int)
  | 0, _, _, _, _ => none
  | k + 1, x6, x25, x26, x27 => if x27 < x26 then (if 0 ≤ x27 then (if x27 < (x25.length : Int) then (if x6.length + (rd_L2 x25 x27).length < 17592186044416 then (slices_Concat_int_int.l1 k (x6 ++ (rd_L2 x25 x27)) x25 x26 (wrap64 (x27 + 1))) else (none)) else (none)) else (none)) else (some x6)
end
def slices_Concat_int_int.f (k : Nat) (l0 : List (List Int)) : Option (List Int) := slices_Concat_int_int.l0 k l0 0 l0 (l0.length : Int) 0
theorem slices_Concat_int_int.mono_l : ∀ k, (∀ y0 y1 y2 y3 y4, LeO (slices_Concat_int_int.l0 k y0 y1 y2 y3 y4) (slices_Concat_int_int.l0 (k + 1) y0 y1 y2 y3 y4)) ∧ (∀ y0 y1 y2 y3, LeO (slices_Concat_int_int.l1 k y0 y1 y2 y3) (slices_Concat_int_int.l1 (k + 1) y0 y1 y2 y3))
  | 0 => ⟨fun _ _ _ _ _ r h => by simp [slices_Concat_int_int.l0] at h, fun _ _ _ _ r h => by simp [slices_Concat_int_int.l1] at h⟩
  | k + 1 => by
    obtain ⟨ih0, ih1⟩ := slices_Concat_int_int.mono_l k
    refine ⟨?_, ?_⟩
    · intro y0 y1 y2 y3 y4
      unfold slices_Concat_int_int.l0
      repeat' first
      | (with_reducible exact ih0 _ _ _ _ _)
      | (with_reducible exact ih1 _ _ _ _)
      | (with_reducible exact LeO.refl _)
      | (with_reducible exact LeO.none _)
      | (with_reducible refine LeO.ite ?_ ?_)
      | (with_reducible refine LeO.bind ?_ (fun _ => ?_))
      | exact ih0 _ _ _ _ _
      | exact ih1 _ _ _ _
      | exact LeO.none _
      | refine LeO.ite ?_ ?_
      | refine LeO.bind ?_ (fun _ => ?_)
    · intro y0 y1 y2 y3
      unfold slices_Concat_int_int.l1
      repeat' first
      | (with_reducible exact ih0 _ _ _ _ _)
      | (with_reducible exact ih1 _ _ _ _)
      | (with_reducible exact LeO.refl _)
      | (with_reducible exact LeO.none _)
      | (with_reducible refine LeO.ite ?_ ?_)
      | (with_reducible refine LeO.bind ?_ (fun _ => ?_))
      | exact ih0 _ _ _ _ _
      | exact ih1 _ _ _ _
      | exact LeO.none _
      | refine LeO.ite ?_ ?_
      | refine LeO.bind ?_ (fun _ => ?_)
theorem slices_Concat_int_int.mono : ∀ a0 k, LeO (slices_Concat_int_int.f k a0) (slices_Concat_int_int.f (k + 1) a0) := by
  intro a0 k
  obtain ⟨ih0, ih1⟩ := slices_Concat_int_int.mono_l k
  unfold slices_Concat_int_int.f
  repeat' first
      | (with_reducible exact ih0 _ _ _ _ _)
      | (with_reducible exact ih1 _ _ _ _)
      | (with_reducible exact LeO.refl _)
      | (with_reducible exact LeO.none _)
      | (with_reducible refine LeO.ite ?_ ?_)
      | (with_reducible refine LeO.bind ?_ (fun _ => ?_))
      | exact ih0 _ _ _ _ _
      | exact ih1 _ _ _ _
      | exact LeO.none _
      | refine LeO.ite ?_ ?_
      | refine LeO.bind ?_ (fun _ => ?_)
noncomputable def slices_Concat_int_int.L0 (y0 : List (List Int)) (y1 : Int) (y2 : List (List Int)) (y3 : Int) (y4 : Int) : Option (List Int) := lim fun k => slices_Concat_int_int.l0 k y0 y1 y2 y3 y4
theorem slices_Concat_int_int.L0_sup (y0 : List (List Int)) (y1 : Int) (y2 : List (List Int)) (y3 : Int) (y4 : Int) : Sup (fun k => slices_Concat_int_int.l0 k y0 y1 y2 y3 y4) (slices_Concat_int_int.L0 y0 y1 y2 y3 y4) := Sup.of_mono fun k => (slices_Concat_int_int.mono_l k).1 y0 y1 y2 y3 y4
noncomputable def slices_Concat_int_int.L1 (y0 : List Int) (y1 : List (List Int)) (y2 : Int) (y3 : Int) : Option (List Int) := lim fun k => slices_Concat_int_int.l1 k y0 y1 y2 y3
theorem slices_Concat_int_int.L1_sup (y0 : List Int) (y1 : List (List Int)) (y2 : Int) (y3 : Int) : Sup (fun k => slices_Concat_int_int.l1 k y0 y1 y2 y3) (slices_Concat_int_int.L1 y0 y1 y2 y3) := Sup.of_mono fun k => (slices_Concat_int_int.mono_l k).2 y0 y1 y2 y3
noncomputable def slices_Concat_int_int.F (l0 : List (List Int)) : Option (List Int) := lim fun k => slices_Concat_int_int.f k l0
theorem slices_Concat_int_int.F_sup (l0 : List (List Int)) : Sup (fun k => slices_Concat_int_int.f k l0) (slices_Concat_int_int.F l0) := Sup.of_mono fun k => slices_Concat_int_int.mono l0 k
theorem slices_Concat_int_int.L0_eq (x0 : List (List Int)) (x3 : Int) (x9 : List (List Int)) (x10 : Int) (x11 : Int) : slices_Concat_int_int.L0 x0 x3 x9 x10 x11 = if x11 < x10 then (if 0 ≤ x11 then (if x11 < (x9.length : Int) then (if (wrap64 (x3 + ((rd_L2 x9 x11).length : Int))) < 0 then (none) else (slices_Concat_int_int.L0 x0 (wrap64 (x3 + ((rd_L2 x9 x11).length : Int))) x9 x10 (wrap64 (x11 + 1)))) else (none)) else (none)) else ((slices_Grow_int_int__nil.f x3).bind fun t355 => (slices_Concat_int_int.L1 t355 x0 (x0.length : Int) 0)) := by
  refine Sup.unique (slices_Concat_int_int.L0_sup x0 x3 x9 x10 x11) (Sup.shift (fun k => (slices_Concat_int_int.mono_l k).1 x0 x3 x9 x10 x11) (Sup.congr (g' := fun k => if x11 < x10 then (if 0 ≤ x11 then (if x11 < (x9.length : Int) then (if (wrap64 (x3 + ((rd_L2 x9 x11).length : Int))) < 0 then (none) else (slices_Concat_int_int.l0 k x0 (wrap64 (x3 + ((rd_L2 x9 x11).length : Int))) x9 x10 (wrap64 (x11 + 1)))) else (none)) else (none)) else ((slices_Grow_int_int__nil.f x3).bind fun t355 => (slices_Concat_int_int.l1 k t355 x0 (x0.length : Int) 0))) (fun k => by first | rfl | simp only [slices_Concat_int_int.l0]) ?_))
  repeat' first
    | (with_reducible exact slices_Concat_int_int.L0_sup _ _ _ _ _)
    | (with_reducible exact slices_Concat_int_int.L1_sup _ _ _ _)
    | (with_reducible refine Sup.ite ?_ ?_)
    | (with_reducible refine Sup.bind ?_ (fun _ => ?_))
    | (with_reducible exact Sup.const _)
    | exact slices_Concat_int_int.L0_sup _ _ _ _ _
    | exact slices_Concat_int_int.L1_sup _ _ _ _
    | exact Sup.const _
theorem slices_Concat_int_int.L1_eq (x6 : List Int) (x25 : List (List Int)) (x26 : Int) (x27 : Int) : slices_Concat_int_int.L1 x6 x25 x26 x27 = if x27 < x26 then (if 0 ≤ x27 then (if x27 < (x25.length : Int) then (if x6.length + (rd_L2 x25 x27).length < 17592186044416 then (slices_Concat_int_int.L1 (x6 ++ (rd_L2 x25 x27)) x25 x26 (wrap64 (x27 + 1))) else (none)) else (none)) else (none)) else (some x6) := by
  refine Sup.unique (slices_Concat_int_int.L1_sup x6 x25 x26 x27) (Sup.shift (fun k => (slices_Concat_int_int.mono_l k).2 x6 x25 x26 x27) (Sup.congr (g' := fun k => if x27 < x26 then (if 0 ≤ x27 then (if x27 < (x25.length : Int) then (if x6.length + (rd_L2 x25 x27).length < 17592186044416 then (slices_Concat_int_int.l1 k (x6 ++ (rd_L2 x25 x27)) x25 x26 (wrap64 (x27 + 1))) else (none)) else (none)) else (none)) else (some x6)) (fun k => by first | rfl | simp only [slices_Concat_int_int.l1]) ?_))
  repeat' first
    | (with_reducible exact slices_Concat_int_int.L0_sup _ _ _ _ _)
    | (with_reducible exact slices_Concat_int_int.L1_sup _ _ _ _)
    | (with_reducible refine Sup.ite ?_ ?_)
    | (with_reducible refine Sup.bind ?_ (fun _ => ?_))
    | (with_reducible exact Sup.const _)
    | exact slices_Concat_int_int.L0_sup _ _ _ _ _
    | exact slices_Concat_int_int.L1_sup _ _ _ _
    | exact Sup.const _
theorem slices_Concat_int_int.F_eq (l0 : List (List Int)) : slices_Concat_int_int.F l0 = slices_Concat_int_int.L0 l0 0 l0 (l0.length : Int) 0 := by
  refine Sup.unique (slices_Concat_int_int.F_sup l0) (Sup.congr (g' := fun k => slices_Concat_int_int.l0 k l0 0 l0 (l0.length : Int) 0) (fun k => by first | rfl | simp only [slices_Concat_int_int.f]) ?_)
  repeat' first
    | (with_reducible exact slices_Concat_int_int.L0_sup _ _ _ _ _)
    | (with_reducible exact slices_Concat_int_int.L1_sup _ _ _ _)
    | (with_reducible refine Sup.ite ?_ ?_)
    | (with_reducible refine Sup.bind ?_ (fun _ => ?_))
    | (with_reducible exact Sup.const _)
    | exact slices_Concat_int_int.L0_sup _ _ _ _ _
    | exact slices_Concat_int_int.L1_sup _ _ _ _
    | exact Sup.const _
set_option maxHeartbeats 8000000 in
set_option maxRecDepth 100000 in
theorem slices_Concat_int_int.calls (k : Nat) (A0 : Option Addr) (c0 : Nat) (l0 : List (List Int)) (r : List Int) (w : World) (hr0 : Kd.C (Kd.slice 3 (Kd.int .i64)) w A0 l0.length l0) (hc0 : l0.length ≤ c0) (h : slices_Concat_int_int.f k l0 = some r) :
    Calls Try.prog 19 #[.slice A0 l0.length c0] w fun e w' => ∃ v0_ : Value, e = .returned (v0_) ∧ Kd.R (Kd.int .i64) 3 w' w.heap.size (fun _ => True) v0_ r ∧ Below w.heap.size w w' := by
  have hu22 := Try.underlying22; have HR0 := Qx hr0; have HC0 := Qx hc0; clear hr0 hc0
  have HB := Qx (Below.refl w.heap.size w)
  have H : (slices_Concat_int_int.l0 k l0 0 l0 (l0.length : Int) 0) = some r := h
  clear h; have H' := Qx H; clear H
  go_enter Try.func19, Try.ntmps19
  go_wp2
  go_loopg [3, 11] k (fun kq v3 v11 w' => ∃ (x3_1 : Int) (x11_1 : Int), v3 = .int .i64 x3_1 ∧ v11 = .int .i64 x11_1 ∧ Aside0 (slices_Concat_int_int.l0 kq l0 x3_1 l0 (l0.length : Int) x11_1 = some r) ∧ Aside0 (kq ≤ k) ∧ Aside0 (Below w.heap.size w w'))
  case atStart => exact ⟨(0), (0), rg_, rg_, H', ⟨Nat.le_refl _⟩, ⟨hB_⟩⟩
  case round =>
   clear H'
   try clear c1
   obtain ⟨x3_1, x11_1, rfl, rfl, HA, HK1, HB⟩ := hrel
   cases gk with
   | zero => exact absurd HA.out (by simp [slices_Concat_int_int.l0])
   | succ k1 =>
    have H := HA.out; clear HA; simp only [slices_Concat_int_int.l0] at H
    by_cases c2 : x11_1 < (l0.length : Int)
    ·rw [if_pos c2] at H
     have c2b0 : decide (x11_1 < (l0.length : Int)) = true := decide_eq_true c2
     clear c2
     by_cases c3 : 0 ≤ x11_1
     ·rw [if_pos c3] at H
      have c3b0 : decide (0 ≤ x11_1) = true := decide_eq_true c3
      clear c3
      by_cases c4 : x11_1 < (l0.length : Int)
      ·rw [if_pos c4] at H
       have c4b0 : decide (x11_1 < (l0.length : Int)) = true := decide_eq_true c4
       clear c4
       by_cases c5 : (wrap64 (x3_1 + ((rd_L2 l0 x11_1).length : Int))) < 0
       ·rw [if_pos c5] at H
        exact absurd H (by simp)
       ·rw [if_neg c5] at H
        have c5b0 : decide ((wrap64 (x3_1 + ((rd_L2 l0 x11_1).length : Int))) < 0) = false := decide_eq_false c5
        clear c5; have H' := Qx H; clear H
        have p354 : 0 ≤ (x11_1 : Int) := of_decide_eq_true as_
        have q354 : x11_1 < (l0.length : Int) := of_decide_eq_true as_
        obtain ⟨ad354, A354_0, c354_0, e354, hx354_0, hl354_0, hi354_0⟩ := at_L2 HR0.out x11_1 p354 q354
        cases e354
        replace hx354_0 := (HB.out.cell (World.block_lt_of_cell? w _ hx354_0)).trans hx354_0
        have HR354_0 := Qx hi354_0; have HC354_0 := Qx hl354_0; clear hi354_0 hl354_0; replace p354 := eq_true p354; replace q354 := eq_true q354
        go_wp2
        go_roundg k1
        case measure => have := HK1.out; omega
        case rel => exact ⟨(wrap64 (x3_1 + ((rd_L2 l0 x11_1).length : Int))), (wrap64 (x11_1 + 1)), rg_, rg_, H', ⟨by have := HK1.out; omega⟩, ⟨hB_⟩⟩
      ·rw [if_neg c4] at H
       exact absurd H (by simp)
     ·rw [if_neg c3] at H
      exact absurd H (by simp)
    ·rw [if_neg c2] at H
     have c2b0 : decide (x11_1 < (l0.length : Int)) = false := decide_eq_false c2
     clear c2; replace H := Option.bind_eq_some_iff.mp H; obtain ⟨t355, A60, H⟩ := H
     have A6 := Qx A60; clear A60; have H' := Qx H; clear H
     go_wp2_with (first | ((with_reducible refine gate_callee (f := 38) rfl ?_); refine gl_ 24 Try.func38 #[.slice none 0 0, .int .i64 x3_1] ?_; (with_reducible refine (slices_Grow_int_int__nil.calls x3_1 t355 _ A6.out).mono ?_); rintro e w7 ⟨v356, rfl, ho0, hb⟩; refine ⟨_, rfl, ?_⟩; have HO357 := Qx (Kd.R_lower ho0 (Qz hB_)); replace HB := Qx (Qp hB_ hb); (try clear hb); (try clear hb2); (try clear hk); (try clear hi); (try clear ho0)))
     go_loopg [6, 27] k1 (fun kq v6 v27 w' => ∃ (x6_2 : List Int) (x27_2 : Int), v27 = .int .i64 x27_2 ∧ Aside0 (slices_Concat_int_int.l1 kq x6_2 l0 (l0.length : Int) x27_2 = some r) ∧ Aside0 (kq ≤ k1) ∧ Aside0 (Kd.R (Kd.int .i64) 3 w' w.heap.size (fun _ => True) v6 x6_2) ∧ Aside0 (Below w.heap.size w w'))
     case atStart => exact ⟨(t355), (0), rg_, H', ⟨Nat.le_refl _⟩, ⟨kR_ HO357⟩, ⟨hB_⟩⟩
     case round =>
      clear H'
      try clear c1
      try clear c2
      try clear c2b0
      try clear p2
      try clear c3
      try clear c3b0
      try clear p3
      try clear q3
      try clear hx3
      try clear c4
      try clear c4b0
      try clear c5
      try clear c5b0
      try clear p6
      try clear hx354_0
      try clear p354
      try clear q354
      obtain ⟨x6_2, x27_2, rfl, HA, HK2, HO_6, HB⟩ := hrel
      cases gk with
      | zero => exact absurd HA.out (by simp [slices_Concat_int_int.l1])
      | succ k2 =>
       have H := HA.out; clear HA; simp only [slices_Concat_int_int.l1] at H
       by_cases c8 : x27_2 < (l0.length : Int)
       ·rw [if_pos c8] at H
        have c8b0 : decide (x27_2 < (l0.length : Int)) = true := decide_eq_true c8
        clear c8
        by_cases c9 : 0 ≤ x27_2
        ·rw [if_pos c9] at H
         have c9b0 : decide (0 ≤ x27_2) = true := decide_eq_true c9
         clear c9
         by_cases c10 : x27_2 < (l0.length : Int)
         ·rw [if_pos c10] at H
          have c10b0 : decide (x27_2 < (l0.length : Int)) = true := decide_eq_true c10
          clear c10
          by_cases c11 : x6_2.length + (rd_L2 l0 x27_2).length < 17592186044416
          ·rw [if_pos c11] at H; have LMc11 := Qx c11; clear c11
           obtain ⟨y359, hy359⟩ : ∃ y_ : List Int, y_ = (x6_2 ++ (rd_L2 l0 x27_2)) := ⟨_, rfl⟩
           replace H : (slices_Concat_int_int.l1 k2 y359 l0 (l0.length : Int) (wrap64 (x27_2 + 1))) = some r := by first | (rw [hy359]; with_reducible exact H) | (have H2_ := (Option.bind_some _ _).symm.trans H; rw [hy359]; with_reducible exact H2_) | (have H2_ := (Option.bind_some _ _).symm.trans H; with_reducible exact H2_) | with_reducible exact H | (rw [hy359]; exact H) | exact H
           have Ny359 := Qx hy359; clear hy359; have H' := Qx H; clear H
           have p358 : 0 ≤ (x27_2 : Int) := of_decide_eq_true as_
           have q358 : x27_2 < (l0.length : Int) := of_decide_eq_true as_
           obtain ⟨ad358, A358_0, c358_0, e358, hx358_0, hl358_0, hi358_0⟩ := at_L2 HR0.out x27_2 p358 q358
           cases e358
           replace hx358_0 := (HB.out.cell (World.block_lt_of_cell? w _ hx358_0)).trans hx358_0
           have HR358_0 := Qx hi358_0; have HC358_0 := Qx hl358_0; clear hi358_0 hl358_0; replace p358 := eq_true p358; replace q358 := eq_true q358
           go_wp2_with (first | ((with_reducible refine gate_builtin (b := .append) (xs := #[.tmp 31, .tmp 32]) rfl ?_); at_builtin; refine Kd.R_append_rows (Kd.int .i64) (w0 := w) w.heap.size rfl (.tmp 31) (.tmp 32) 22 3 (.int .i64 0) 8 rfl Try.underlying22 info3 rfl (by decide) (by omega) u6 x6_2 (rd_L2 l0 x27_2) _ _ _ (fun _ => True) (fun _ => False) rfl rfl ?aO ?aR (fun _ _ h => h) (fun _ h => h.elim) ?aF ?aB ?aS ?aL ?_; (case aR => repeat (first | exact (Kd.C_below HR358_0.out HB.out) | (with_reducible refine Kd.C_alloc ?_ _) | (with_reducible refine Kd.C_drewN ?_ _) | (with_reducible refine Kd.C_drew ?_))); (case aB => exact hB_); (case aF => exact (fun _ _ => trivial)); (case aO => exact (kR_ HO_6)); (case aS => exact (Qz hB_)); (case aL => have := LMc11.out; omega); intro v360 w12 ho hb hg hat; rw [← Ny359.out] at ho; have n0_ := Qx (hb); have n1_ := Qx (ho); clear HB HO_6; have HB := n0_; have HO361 := n1_; clear n0_ n1_ ho hb hg hat))
           go_roundg k2
           case measure => have := HK1.out; have := HK2.out; omega
           case rel => exact ⟨(y359), (wrap64 (x27_2 + 1)), rg_, H', ⟨by have := HK1.out; have := HK2.out; omega⟩, ⟨kR_ HO361⟩, ⟨hB_⟩⟩
          ·rw [if_neg c11] at H
           exact absurd H (by simp)
         ·rw [if_neg c10] at H
          exact absurd H (by simp)
        ·rw [if_neg c9] at H
         exact absurd H (by simp)
       ·rw [if_neg c8] at H
        have c8b0 : decide (x27_2 < (l0.length : Int)) = false := decide_eq_false c8
        clear c8; obtain rfl := Option.some.inj H
        go_wp2
        go_ret
        exact ⟨_, rf_, kR_ HO_6, hB_⟩
/-! ### slices_Sort_int_int: function 20 -/
def slices_Sort_int_int.f (l0 : List Int) : Option (List Int) := if l0.length < 4611686018427387904 then (some (l0.mergeSort fun x y => decide (x ≤ y))) else (none)
theorem slices_Sort_int_int.calls (P0_ : Nat → Prop) (u9000_ : Value) (l0 : List Int) (r : List Int) (w0 w : World) (hB : Below w0.heap.size w0 w) (ho0 : Kd.R (Kd.int .i64) 3 w w0.heap.size P0_ u9000_ l0) (h : slices_Sort_int_int.f l0 = some r) :
    Calls Try.prog 20 #[u9000_] w fun e w' => e = .returned (.tuple #[]) ∧ Kd.R (Kd.int .i64) 3 w' w0.heap.size (fun k_ => (P0_ k_ ∨ w.heap.size ≤ k_)) u9000_ r ∧ Below w0.heap.size w0 w' ∧ Kept w w' (fun k_ => P0_ k_) := by
  unfold slices_Sort_int_int.f at h
  by_cases c1 : l0.length < 4611686018427387904
  ·rw [if_pos c1] at h; obtain rfl := Option.some.inj h
   exact Kd.sort_calls sortNone sortRow hB ho0 c1
  ·rw [if_neg c1] at h
   exact absurd h (by simp)
end Go.Proofs.Ytknofkpmeobhbaa.X
