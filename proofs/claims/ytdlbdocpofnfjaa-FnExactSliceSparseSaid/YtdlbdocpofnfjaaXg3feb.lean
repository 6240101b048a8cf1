/- Written by a program of this session: what functions of the given program compute, and that their calls do so. -/
import Derived.Test.YtdlbdocpofnfjaaXx0
import Derived.Test.YtdlbdocpofnfjaaXg3fea
import Derived.Test.YtdlbdocpofnfjaaXg3ffa
namespace Go.Proofs.Ytdlbdocpofnfjaa.X
open Go.RowKit Go.Proofs.YtdlbdocpofnfjaaW.PrintWords Go.Proofs.YtdlbdocpofnfjaaW.PrintLast Go.Proofs.YtdlbdocpofnfjaaW.PrintMore
theorem cellsQ2_g3feb {w : World} {g : Nat} {t : TypeId} {a0 a1 : Value} (k : w.heap[g]? = some (.cells #[a0, a1] t (0, 0))) : w.cell? ⟨g, 0, none⟩ = some a0 ∧ w.cell? ⟨g, 1, none⟩ = some a1 ∧ w.frozen? ⟨g, 0, none⟩ = false ∧ w.frozen? ⟨g, 1, none⟩ = false := ⟨(blk_cell k 0).trans rfl, (blk_cell k 1).trans rfl, blk_frozen k 0, blk_frozen k 1⟩
theorem cellsQ7_g3feb {w : World} {g : Nat} {t : TypeId} {a0 a1 a2 a3 a4 a5 a6 : Value} (k : w.heap[g]? = some (.cells #[a0, a1, a2, a3, a4, a5, a6] t (0, 0))) : w.cell? ⟨g, 0, none⟩ = some a0 ∧ w.cell? ⟨g, 1, none⟩ = some a1 ∧ w.cell? ⟨g, 2, none⟩ = some a2 ∧ w.cell? ⟨g, 3, none⟩ = some a3 ∧ w.cell? ⟨g, 4, none⟩ = some a4 ∧ w.cell? ⟨g, 5, none⟩ = some a5 ∧ w.cell? ⟨g, 6, none⟩ = some a6 ∧ w.frozen? ⟨g, 0, none⟩ = false ∧ w.frozen? ⟨g, 1, none⟩ = false ∧ w.frozen? ⟨g, 2, none⟩ = false ∧ w.frozen? ⟨g, 3, none⟩ = false ∧ w.frozen? ⟨g, 4, none⟩ = false ∧ w.frozen? ⟨g, 5, none⟩ = false ∧ w.frozen? ⟨g, 6, none⟩ = false := ⟨(blk_cell k 0).trans rfl, (blk_cell k 1).trans rfl, (blk_cell k 2).trans rfl, (blk_cell k 3).trans rfl, (blk_cell k 4).trans rfl, (blk_cell k 5).trans rfl, (blk_cell k 6).trans rfl, blk_frozen k 0, blk_frozen k 1, blk_frozen k 2, blk_frozen k 3, blk_frozen k 4, blk_frozen k 5, blk_frozen k 6⟩
theorem farsQ7_g3feb {τ : Type} {d : Kd τ} {e : Nat} {w : World} {base g : Nat} {ok : Nat → Prop} {v : Value} {xs : List τ} (h : d.R e w base ok v xs) (hok : ∀ k, ok k → k ≠ g) (u0 u1 u2 u3 u4 u5 u6 : Value) : d.R e (((((((w.setCell ⟨g, 0, none⟩ u0).setCell ⟨g, 1, none⟩ u1).setCell ⟨g, 2, none⟩ u2).setCell ⟨g, 3, none⟩ u3).setCell ⟨g, 4, none⟩ u4).setCell ⟨g, 5, none⟩ u5).setCell ⟨g, 6, none⟩ u6) base ok v xs := Kd.R_far (p := ⟨g, 6, none⟩) (Kd.R_far (p := ⟨g, 5, none⟩) (Kd.R_far (p := ⟨g, 4, none⟩) (Kd.R_far (p := ⟨g, 3, none⟩) (Kd.R_far (p := ⟨g, 2, none⟩) (Kd.R_far (p := ⟨g, 1, none⟩) (Kd.R_far (p := ⟨g, 0, none⟩) h hok u0) hok u1) hok u2) hok u3) hok u4) hok u5) hok u6
open Go.Proofs.YtdlbdocpofnfjaaW.PrintWords renaming blk_cell → Qc, pw_below_drewN → Qn, below_drew1 → Qd, below_alloc → Qa, blk_alloc → Qk, blk_drewN → Qm, blk_drew → Qw, below_set → Qs, below_size → Qz, below_step → Qp, blk_below → Qb, blk_put → Qu, blk_far → Qr
open Go.Proofs.YtdlbdocpofnfjaaW.PrintWords.Kd renaming R_far → Qrf, R_drewN → Qrn, R_alloc → Qra, R_drew → Qrd, R_mono → Qrm, R_below → Qrb
open Go.Proofs.YtdlbdocpofnfjaaW.PrintWords.Aside0 renaming mk → Qx
attribute [local go_sem] max2_int min2_int max_two min_two max_three min_three max_four min_four   -- for this text's walks alone
set_option linter.unusedVariables false
set_option linter.unusedSimpArgs false
/-! ### spec_spGood: function 61 -/
mutual
def spec_spGood.j0 : Nat → Bool → Int → Int → Int → Int → List Int → Int → List Int → Option (Bool)
  | 0, _, _, _, _, _, _, _, _ => none
  | k + 1, x24, x331000, x331001, x331002, x331003, x331004, x331005, x331006 => if x24 = true then (some false) else ((spec_biGood.f k x331003 x331004).bind fun t334 => (if t334 = true then ((spec_biGood.f k x331005 x331006).bind fun t335 => (if t335 = true then (if x331003 = (wrap64 (x331000 * x331002)) then (if 0 ≤ x331002 then (spec_spGood.j1 k (x331005 != (wrap64 ((wrap64 (x331000 + (shr .i64 (wrap64 (x331001 - 1)) x331002))) + 1))) x331000 x331001 x331002 x331003 x331004 x331005 x331006) else (none)) else (spec_spGood.j1 k true x331000 x331001 x331002 x331003 x331004 x331005 x331006)) else (spec_spGood.j1 k true x331000 x331001 x331002 x331003 x331004 x331005 x331006))) else (spec_spGood.j1 k true x331000 x331001 x331002 x331003 x331004 x331005 x331006)))
def spec_spGood.j1 : Nat → Bool → Int → Int → Int → Int → List Int → Int → List Int → Option (Bool)
  | 0, _, _, _, _, _, _, _, _ => none
  | k + 1, x61, x331000, x331001, x331002, x331003, x331004, x331005, x331006 => if x61 = true then (some false) else ((spec_spList.f k x331000 x331001 x331002 x331003 x331004 x331005 x331006).bind fun t336 => (if (t336.length : Int) = x331000 then ((spec_spSorted.f k t336 x331001).bind fun t339 => (spec_spGood.j2 k t336 (!t339) x331000 x331001 x331002 x331003 x331004 x331005 x331006)) else (spec_spGood.j2 k t336 true x331000 x331001 x331002 x331003 x331004 x331005 x331006)))
def spec_spGood.j2 : Nat → List Int → Bool → Int → Int → Int → Int → List Int → Int → List Int → Option (Bool)
  | 0, _, _, _, _, _, _, _, _, _ => none
  | k + 1, x3, x75, x331000, x331001, x331002, x331003, x331004, x331005, x331006 => if x75 = true then (some false) else ((spec_spOf.f k x3 x331001).bind fun bt340 => ((spec_biSame.f k x331003 x331004 bt340.2.2.2.1 bt340.2.2.2.2.1).bind fun t352 => (if t352 = true then ((spec_biSame.f k x331005 x331006 bt340.2.2.2.2.2.1 bt340.2.2.2.2.2.2).bind fun t353 => (some t353)) else (some false))))
end
def spec_spGood.f (k : Nat) (a0_0 : Int) (a0_1 : Int) (a0_2 : Int) (a0_3 : Int) (l0_4 : List Int) (a0_5 : Int) (l0_6 : List Int) : Option (Bool) := (spec_l1In.f a0_0 0 60).bind fun t331 => (if t331 = true then ((spec_spLimit.f a0_1).bind fun t332 => (if t332 = true then ((spec_spWidth.f k a0_0 a0_1).bind fun t333 => (spec_spGood.j0 k (a0_2 != t333) a0_0 a0_1 a0_2 a0_3 l0_4 a0_5 l0_6)) else (spec_spGood.j0 k true a0_0 a0_1 a0_2 a0_3 l0_4 a0_5 l0_6))) else (spec_spGood.j0 k true a0_0 a0_1 a0_2 a0_3 l0_4 a0_5 l0_6))
theorem spec_spGood.mono_l : ∀ k, (∀ y0 y1 y2 y3 y4 y5 y6 y7, LeO (spec_spGood.j0 k y0 y1 y2 y3 y4 y5 y6 y7) (spec_spGood.j0 (k + 1) y0 y1 y2 y3 y4 y5 y6 y7)) ∧ (∀ y0 y1 y2 y3 y4 y5 y6 y7, LeO (spec_spGood.j1 k y0 y1 y2 y3 y4 y5 y6 y7) (spec_spGood.j1 (k + 1) y0 y1 y2 y3 y4 y5 y6 y7)) ∧ (∀ y0 y1 y2 y3 y4 y5 y6 y7 y8, LeO (spec_spGood.j2 k y0 y1 y2 y3 y4 y5 y6 y7 y8) (spec_spGood.j2 (k + 1) y0 y1 y2 y3 y4 y5 y6 y7 y8))
  | 0 => ⟨fun _ _ _ _ _ _ _ _ r h => by simp [spec_spGood.j0] at h, fun _ _ _ _ _ _ _ _ r h => by simp [spec_spGood.j1] at h, fun _ _ _ _ _ _ _ _ _ r h => by simp [spec_spGood.j2] at h⟩
  | k + 1 => by
    obtain ⟨ih0, ih1, ih2⟩ := spec_spGood.mono_l k
    refine ⟨?_, ?_, ?_⟩
    · intro y0 y1 y2 y3 y4 y5 y6 y7
      unfold spec_spGood.j0
      repeat' first
      | (with_reducible exact ih0 _ _ _ _ _ _ _ _)
      | (with_reducible exact ih1 _ _ _ _ _ _ _ _)
      | (with_reducible exact ih2 _ _ _ _ _ _ _ _ _)
      | (with_reducible exact spec_biGood.mono _ _ _)
      | (with_reducible exact spec_biSame.mono _ _ _ _ _)
      | (with_reducible exact spec_spList.mono _ _ _ _ _ _ _ _)
      | (with_reducible exact spec_spOf.mono _ _ _)
      | (with_reducible exact spec_spSorted.mono _ _ _)
      | (with_reducible exact spec_spWidth.mono _ _ _)
      | (with_reducible exact LeO.refl _)
      | (with_reducible exact LeO.none _)
      | (with_reducible refine LeO.ite ?_ ?_)
      | (with_reducible refine LeO.bind ?_ (fun _ => ?_))
      | exact ih0 _ _ _ _ _ _ _ _
      | exact ih1 _ _ _ _ _ _ _ _
      | exact ih2 _ _ _ _ _ _ _ _ _
      | exact spec_biGood.mono _ _ _
      | exact spec_biSame.mono _ _ _ _ _
      | exact spec_spList.mono _ _ _ _ _ _ _ _
      | exact spec_spOf.mono _ _ _
      | exact spec_spSorted.mono _ _ _
      | exact spec_spWidth.mono _ _ _
      | exact LeO.none _
      | refine LeO.ite ?_ ?_
      | refine LeO.bind ?_ (fun _ => ?_)
    · intro y0 y1 y2 y3 y4 y5 y6 y7
      unfold spec_spGood.j1
      repeat' first
      | (with_reducible exact ih0 _ _ _ _ _ _ _ _)
      | (with_reducible exact ih1 _ _ _ _ _ _ _ _)
      | (with_reducible exact ih2 _ _ _ _ _ _ _ _ _)
      | (with_reducible exact spec_biGood.mono _ _ _)
      | (with_reducible exact spec_biSame.mono _ _ _ _ _)
      | (with_reducible exact spec_spList.mono _ _ _ _ _ _ _ _)
      | (with_reducible exact spec_spOf.mono _ _ _)
      | (with_reducible exact spec_spSorted.mono _ _ _)
      | (with_reducible exact spec_spWidth.mono _ _ _)
      | (with_reducible exact LeO.refl _)
      | (with_reducible exact LeO.none _)
      | (with_reducible refine LeO.ite ?_ ?_)
      | (with_reducible refine LeO.bind ?_ (fun _ => ?_))
      | exact ih0 _ _ _ _ _ _ _ _
      | exact ih1 _ _ _ _ _ _ _ _
      | exact ih2 _ _ _ _ _ _ _ _ _
      | exact spec_biGood.mono _ _ _
      | exact spec_biSame.mono _ _ _ _ _
      | exact spec_spList.mono _ _ _ _ _ _ _ _
      | exact spec_spOf.mono _ _ _
      | exact spec_spSorted.mono _ _ _
      | exact spec_spWidth.mono _ _ _
      | exact LeO.none _
      | refine LeO.ite ?_ ?_
      | refine LeO.bind ?_ (fun _ => ?_)
    · intro y0 y1 y2 y3 y4 y5 y6 y7 y8
      unfold spec_spGood.j2
      repeat' first
      | (with_reducible exact ih0 _ _ _ _ _ _ _ _)
      | (with_reducible exact ih1 _ _ _ _ _ _ _ _)
      | (with_reducible exact ih2 _ _ _ _ _ _ _ _ _)
      | (with_reducible exact spec_biGood.mono _ _ _)
      | (with_reducible exact spec_biSame.mono _ _ _ _ _)
      | (with_reducible exact spec_spList.mono _ _ _ _ _ _ _ _)
      | (with_reducible exact spec_spOf.mono _ _ _)
      | (with_reducible exact spec_spSorted.mono _ _ _)
      | (with_reducible exact spec_spWidth.mono _ _ _)
      | (with_reducible exact LeO.refl _)
      | (with_reducible exact LeO.none _)
      | (with_reducible refine LeO.ite ?_ ?_)
      | (with_reducible refine LeO.bind ?_ (fun _ => ?_))
      | exact ih0 _ _ _ _ _ _ _ _
      | exact ih1 _ _ _ _ _ _ _ _
      | exact ih2 _ _ _ _ _ _ _ _ _
      | exact spec_biGood.mono _ _ _
      | exact spec_biSame.mono _ _ _ _ _
      | exact spec_spList.mono _ _ _ _ _ _ _ _
      | exact spec_spOf.mono _ _ _
      | exact spec_spSorted.mono _ _ _
      | exact spec_spWidth.mono _ _ _
      | exact LeO.none _
      | refine LeO.ite ?_ ?_
      | refine LeO.bind ?_ (fun _ => ?_)
theorem spec_spGood.mono : ∀ a0 a1 a2 a3 a4 a5 a6 k, LeO (spec_spGood.f k a0 a1 a2 a3 a4 a5 a6) (spec_spGood.f (k + 1) a0 a1 a2 a3 a4 a5 a6) := by
  intro a0 a1 a2 a3 a4 a5 a6 k
  obtain ⟨ih0, ih1, ih2⟩ := spec_spGood.mono_l k
  unfold spec_spGood.f
  repeat' first
      | (with_reducible exact ih0 _ _ _ _ _ _ _ _)
      | (with_reducible exact ih1 _ _ _ _ _ _ _ _)
      | (with_reducible exact ih2 _ _ _ _ _ _ _ _ _)
      | (with_reducible exact spec_biGood.mono _ _ _)
      | (with_reducible exact spec_biSame.mono _ _ _ _ _)
      | (with_reducible exact spec_spList.mono _ _ _ _ _ _ _ _)
      | (with_reducible exact spec_spOf.mono _ _ _)
      | (with_reducible exact spec_spSorted.mono _ _ _)
      | (with_reducible exact spec_spWidth.mono _ _ _)
      | (with_reducible exact LeO.refl _)
      | (with_reducible exact LeO.none _)
      | (with_reducible refine LeO.ite ?_ ?_)
      | (with_reducible refine LeO.bind ?_ (fun _ => ?_))
      | exact ih0 _ _ _ _ _ _ _ _
      | exact ih1 _ _ _ _ _ _ _ _
      | exact ih2 _ _ _ _ _ _ _ _ _
      | exact spec_biGood.mono _ _ _
      | exact spec_biSame.mono _ _ _ _ _
      | exact spec_spList.mono _ _ _ _ _ _ _ _
      | exact spec_spOf.mono _ _ _
      | exact spec_spSorted.mono _ _ _
      | exact spec_spWidth.mono _ _ _
      | exact LeO.none _
      | refine LeO.ite ?_ ?_
      | refine LeO.bind ?_ (fun _ => ?_)
noncomputable def spec_spGood.J0 (y0 : Bool) (y1 : Int) (y2 : Int) (y3 : Int) (y4 : Int) (y5 : List Int) (y6 : Int) (y7 : List Int) : Option (Bool) := lim fun k => spec_spGood.j0 k y0 y1 y2 y3 y4 y5 y6 y7
theorem spec_spGood.J0_sup (y0 : Bool) (y1 : Int) (y2 : Int) (y3 : Int) (y4 : Int) (y5 : List Int) (y6 : Int) (y7 : List Int) : Sup (fun k => spec_spGood.j0 k y0 y1 y2 y3 y4 y5 y6 y7) (spec_spGood.J0 y0 y1 y2 y3 y4 y5 y6 y7) := Sup.of_mono fun k => (spec_spGood.mono_l k).1 y0 y1 y2 y3 y4 y5 y6 y7
noncomputable def spec_spGood.J1 (y0 : Bool) (y1 : Int) (y2 : Int) (y3 : Int) (y4 : Int) (y5 : List Int) (y6 : Int) (y7 : List Int) : Option (Bool) := lim fun k => spec_spGood.j1 k y0 y1 y2 y3 y4 y5 y6 y7
theorem spec_spGood.J1_sup (y0 : Bool) (y1 : Int) (y2 : Int) (y3 : Int) (y4 : Int) (y5 : List Int) (y6 : Int) (y7 : List Int) : Sup (fun k => spec_spGood.j1 k y0 y1 y2 y3 y4 y5 y6 y7) (spec_spGood.J1 y0 y1 y2 y3 y4 y5 y6 y7) := Sup.of_mono fun k => (spec_spGood.mono_l k).2.1 y0 y1 y2 y3 y4 y5 y6 y7
noncomputable def spec_spGood.J2 (y0 : List Int) (y1 : Bool) (y2 : Int) (y3 : Int) (y4 : Int) (y5 : Int) (y6 : List Int) (y7 : Int) (y8 : List Int) : Option (Bool) := lim fun k => spec_spGood.j2 k y0 y1 y2 y3 y4 y5 y6 y7 y8
theorem spec_spGood.J2_sup (y0 : List Int) (y1 : Bool) (y2 : Int) (y3 : Int) (y4 : Int) (y5 : Int) (y6 : List Int) (y7 : Int) (y8 : List Int) : Sup (fun k => spec_spGood.j2 k y0 y1 y2 y3 y4 y5 y6 y7 y8) (spec_spGood.J2 y0 y1 y2 y3 y4 y5 y6 y7 y8) := Sup.of_mono fun k => (spec_spGood.mono_l k).2.2 y0 y1 y2 y3 y4 y5 y6 y7 y8
noncomputable def spec_spGood.F (a0_0 : Int) (a0_1 : Int) (a0_2 : Int) (a0_3 : Int) (l0_4 : List Int) (a0_5 : Int) (l0_6 : List Int) : Option (Bool) := lim fun k => spec_spGood.f k a0_0 a0_1 a0_2 a0_3 l0_4 a0_5 l0_6
theorem spec_spGood.F_sup (a0_0 : Int) (a0_1 : Int) (a0_2 : Int) (a0_3 : Int) (l0_4 : List Int) (a0_5 : Int) (l0_6 : List Int) : Sup (fun k => spec_spGood.f k a0_0 a0_1 a0_2 a0_3 l0_4 a0_5 l0_6) (spec_spGood.F a0_0 a0_1 a0_2 a0_3 l0_4 a0_5 l0_6) := Sup.of_mono fun k => spec_spGood.mono a0_0 a0_1 a0_2 a0_3 l0_4 a0_5 l0_6 k
theorem spec_spGood.J0_eq (x24 : Bool) (x331000 : Int) (x331001 : Int) (x331002 : Int) (x331003 : Int) (x331004 : List Int) (x331005 : Int) (x331006 : List Int) : spec_spGood.J0 x24 x331000 x331001 x331002 x331003 x331004 x331005 x331006 = if x24 = true then (some false) else ((spec_biGood.F x331003 x331004).bind fun t334 => (if t334 = true then ((spec_biGood.F x331005 x331006).bind fun t335 => (if t335 = true then (if x331003 = (wrap64 (x331000 * x331002)) then (if 0 ≤ x331002 then (spec_spGood.J1 (x331005 != (wrap64 ((wrap64 (x331000 + (shr .i64 (wrap64 (x331001 - 1)) x331002))) + 1))) x331000 x331001 x331002 x331003 x331004 x331005 x331006) else (none)) else (spec_spGood.J1 true x331000 x331001 x331002 x331003 x331004 x331005 x331006)) else (spec_spGood.J1 true x331000 x331001 x331002 x331003 x331004 x331005 x331006))) else (spec_spGood.J1 true x331000 x331001 x331002 x331003 x331004 x331005 x331006))) := by
  refine Sup.unique (spec_spGood.J0_sup x24 x331000 x331001 x331002 x331003 x331004 x331005 x331006) (Sup.shift (fun k => (spec_spGood.mono_l k).1 x24 x331000 x331001 x331002 x331003 x331004 x331005 x331006) (Sup.congr (g' := fun k => if x24 = true then (some false) else ((spec_biGood.f k x331003 x331004).bind fun t334 => (if t334 = true then ((spec_biGood.f k x331005 x331006).bind fun t335 => (if t335 = true then (if x331003 = (wrap64 (x331000 * x331002)) then (if 0 ≤ x331002 then (spec_spGood.j1 k (x331005 != (wrap64 ((wrap64 (x331000 + (shr .i64 (wrap64 (x331001 - 1)) x331002))) + 1))) x331000 x331001 x331002 x331003 x331004 x331005 x331006) else (none)) else (spec_spGood.j1 k true x331000 x331001 x331002 x331003 x331004 x331005 x331006)) else (spec_spGood.j1 k true x331000 x331001 x331002 x331003 x331004 x331005 x331006))) else (spec_spGood.j1 k true x331000 x331001 x331002 x331003 x331004 x331005 x331006)))) (fun k => by first | rfl | simp only [spec_spGood.j0]) ?_))
  repeat' first
    | (with_reducible exact spec_spGood.J0_sup _ _ _ _ _ _ _ _)
    | (with_reducible exact spec_spGood.J1_sup _ _ _ _ _ _ _ _)
    | (with_reducible exact spec_spGood.J2_sup _ _ _ _ _ _ _ _ _)
    | (with_reducible exact spec_spSorted.F_sup _ _)
    | (with_reducible exact spec_spOf.F_sup _ _)
    | (with_reducible exact spec_spList.F_sup _ _ _ _ _ _ _)
    | (with_reducible exact spec_spWidth.F_sup _ _)
    | (with_reducible exact spec_biGood.F_sup _ _)
    | (with_reducible exact spec_biSame.F_sup _ _ _ _)
    | (with_reducible refine Sup.ite ?_ ?_)
    | (with_reducible refine Sup.bind ?_ (fun _ => ?_))
    | (with_reducible exact Sup.const _)
    | exact spec_spGood.J0_sup _ _ _ _ _ _ _ _
    | exact spec_spGood.J1_sup _ _ _ _ _ _ _ _
    | exact spec_spGood.J2_sup _ _ _ _ _ _ _ _ _
    | exact spec_spSorted.F_sup _ _
    | exact spec_spOf.F_sup _ _
    | exact spec_spList.F_sup _ _ _ _ _ _ _
    | exact spec_spWidth.F_sup _ _
    | exact spec_biGood.F_sup _ _
    | exact spec_biSame.F_sup _ _ _ _
    | exact Sup.const _
theorem spec_spGood.J1_eq (x61 : Bool) (x331000 : Int) (x331001 : Int) (x331002 : Int) (x331003 : Int) (x331004 : List Int) (x331005 : Int) (x331006 : List Int) : spec_spGood.J1 x61 x331000 x331001 x331002 x331003 x331004 x331005 x331006 = if x61 = true then (some false) else ((spec_spList.F x331000 x331001 x331002 x331003 x331004 x331005 x331006).bind fun t336 => (if (t336.length : Int) = x331000 then ((spec_spSorted.F t336 x331001).bind fun t339 => (spec_spGood.J2 t336 (!t339) x331000 x331001 x331002 x331003 x331004 x331005 x331006)) else (spec_spGood.J2 t336 true x331000 x331001 x331002 x331003 x331004 x331005 x331006))) := by
  refine Sup.unique (spec_spGood.J1_sup x61 x331000 x331001 x331002 x331003 x331004 x331005 x331006) (Sup.shift (fun k => (spec_spGood.mono_l k).2.1 x61 x331000 x331001 x331002 x331003 x331004 x331005 x331006) (Sup.congr (g' := fun k => if x61 = true then (some false) else ((spec_spList.f k x331000 x331001 x331002 x331003 x331004 x331005 x331006).bind fun t336 => (if (t336.length : Int) = x331000 then ((spec_spSorted.f k t336 x331001).bind fun t339 => (spec_spGood.j2 k t336 (!t339) x331000 x331001 x331002 x331003 x331004 x331005 x331006)) else (spec_spGood.j2 k t336 true x331000 x331001 x331002 x331003 x331004 x331005 x331006)))) (fun k => by first | rfl | simp only [spec_spGood.j1]) ?_))
  repeat' first
    | (with_reducible exact spec_spGood.J0_sup _ _ _ _ _ _ _ _)
    | (with_reducible exact spec_spGood.J1_sup _ _ _ _ _ _ _ _)
    | (with_reducible exact spec_spGood.J2_sup _ _ _ _ _ _ _ _ _)
    | (with_reducible exact spec_spSorted.F_sup _ _)
    | (with_reducible exact spec_spOf.F_sup _ _)
    | (with_reducible exact spec_spList.F_sup _ _ _ _ _ _ _)
    | (with_reducible exact spec_spWidth.F_sup _ _)
    | (with_reducible exact spec_biGood.F_sup _ _)
    | (with_reducible exact spec_biSame.F_sup _ _ _ _)
    | (with_reducible refine Sup.ite ?_ ?_)
    | (with_reducible refine Sup.bind ?_ (fun _ => ?_))
    | (with_reducible exact Sup.const _)
    | exact spec_spGood.J0_sup _ _ _ _ _ _ _ _
    | exact spec_spGood.J1_sup _ _ _ _ _ _ _ _
    | exact spec_spGood.J2_sup _ _ _ _ _ _ _ _ _
    | exact spec_spSorted.F_sup _ _
    | exact spec_spOf.F_sup _ _
    | exact spec_spList.F_sup _ _ _ _ _ _ _
    | exact spec_spWidth.F_sup _ _
    | exact spec_biGood.F_sup _ _
    | exact spec_biSame.F_sup _ _ _ _
    | exact Sup.const _
theorem spec_spGood.J2_eq (x3 : List Int) (x75 : Bool) (x331000 : Int) (x331001 : Int) (x331002 : Int) (x331003 : Int) (x331004 : List Int) (x331005 : Int) (x331006 : List Int) : spec_spGood.J2 x3 x75 x331000 x331001 x331002 x331003 x331004 x331005 x331006 = if x75 = true then (some false) else ((spec_spOf.F x3 x331001).bind fun bt340 => ((spec_biSame.F x331003 x331004 bt340.2.2.2.1 bt340.2.2.2.2.1).bind fun t352 => (if t352 = true then ((spec_biSame.F x331005 x331006 bt340.2.2.2.2.2.1 bt340.2.2.2.2.2.2).bind fun t353 => (some t353)) else (some false)))) := by
  refine Sup.unique (spec_spGood.J2_sup x3 x75 x331000 x331001 x331002 x331003 x331004 x331005 x331006) (Sup.shift (fun k => (spec_spGood.mono_l k).2.2 x3 x75 x331000 x331001 x331002 x331003 x331004 x331005 x331006) (Sup.congr (g' := fun k => if x75 = true then (some false) else ((spec_spOf.f k x3 x331001).bind fun bt340 => ((spec_biSame.f k x331003 x331004 bt340.2.2.2.1 bt340.2.2.2.2.1).bind fun t352 => (if t352 = true then ((spec_biSame.f k x331005 x331006 bt340.2.2.2.2.2.1 bt340.2.2.2.2.2.2).bind fun t353 => (some t353)) else (some false))))) (fun k => by first | rfl | simp only [spec_spGood.j2]) ?_))
  repeat' first
    | (with_reducible exact spec_spGood.J0_sup _ _ _ _ _ _ _ _)
    | (with_reducible exact spec_spGood.J1_sup _ _ _ _ _ _ _ _)
    | (with_reducible exact spec_spGood.J2_sup _ _ _ _ _ _ _ _ _)
    | (with_reducible exact spec_spSorted.F_sup _ _)
    | (with_reducible exact spec_spOf.F_sup _ _)
    | (with_reducible exact spec_spList.F_sup _ _ _ _ _ _ _)
    | (with_reducible exact spec_spWidth.F_sup _ _)
    | (with_reducible exact spec_biGood.F_sup _ _)
    | (with_reducible exact spec_biSame.F_sup _ _ _ _)
    | (with_reducible refine Sup.ite ?_ ?_)
    | (with_reducible refine Sup.bind ?_ (fun _ => ?_))
    | (with_reducible exact Sup.const _)
    | exact spec_spGood.J0_sup _ _ _ _ _ _ _ _
    | exact spec_spGood.J1_sup _ _ _ _ _ _ _ _
    | exact spec_spGood.J2_sup _ _ _ _ _ _ _ _ _
    | exact spec_spSorted.F_sup _ _
    | exact spec_spOf.F_sup _ _
    | exact spec_spList.F_sup _ _ _ _ _ _ _
    | exact spec_spWidth.F_sup _ _
    | exact spec_biGood.F_sup _ _
    | exact spec_biSame.F_sup _ _ _ _
    | exact Sup.const _
theorem spec_spGood.F_eq (a0_0 : Int) (a0_1 : Int) (a0_2 : Int) (a0_3 : Int) (l0_4 : List Int) (a0_5 : Int) (l0_6 : List Int) : spec_spGood.F a0_0 a0_1 a0_2 a0_3 l0_4 a0_5 l0_6 = (spec_l1In.f a0_0 0 60).bind fun t331 => (if t331 = true then ((spec_spLimit.f a0_1).bind fun t332 => (if t332 = true then ((spec_spWidth.F a0_0 a0_1).bind fun t333 => (spec_spGood.J0 (a0_2 != t333) a0_0 a0_1 a0_2 a0_3 l0_4 a0_5 l0_6)) else (spec_spGood.J0 true a0_0 a0_1 a0_2 a0_3 l0_4 a0_5 l0_6))) else (spec_spGood.J0 true a0_0 a0_1 a0_2 a0_3 l0_4 a0_5 l0_6)) := by
  refine Sup.unique (spec_spGood.F_sup a0_0 a0_1 a0_2 a0_3 l0_4 a0_5 l0_6) (Sup.congr (g' := fun k => (spec_l1In.f a0_0 0 60).bind fun t331 => (if t331 = true then ((spec_spLimit.f a0_1).bind fun t332 => (if t332 = true then ((spec_spWidth.f k a0_0 a0_1).bind fun t333 => (spec_spGood.j0 k (a0_2 != t333) a0_0 a0_1 a0_2 a0_3 l0_4 a0_5 l0_6)) else (spec_spGood.j0 k true a0_0 a0_1 a0_2 a0_3 l0_4 a0_5 l0_6))) else (spec_spGood.j0 k true a0_0 a0_1 a0_2 a0_3 l0_4 a0_5 l0_6))) (fun k => by first | rfl | simp only [spec_spGood.f]) ?_)
  repeat' first
    | (with_reducible exact spec_spGood.J0_sup _ _ _ _ _ _ _ _)
    | (with_reducible exact spec_spGood.J1_sup _ _ _ _ _ _ _ _)
    | (with_reducible exact spec_spGood.J2_sup _ _ _ _ _ _ _ _ _)
    | (with_reducible exact spec_spSorted.F_sup _ _)
    | (with_reducible exact spec_spOf.F_sup _ _)
    | (with_reducible exact spec_spList.F_sup _ _ _ _ _ _ _)
    | (with_reducible exact spec_spWidth.F_sup _ _)
    | (with_reducible exact spec_biGood.F_sup _ _)
    | (with_reducible exact spec_biSame.F_sup _ _ _ _)
    | (with_reducible refine Sup.ite ?_ ?_)
    | (with_reducible refine Sup.bind ?_ (fun _ => ?_))
    | (with_reducible exact Sup.const _)
    | exact spec_spGood.J0_sup _ _ _ _ _ _ _ _
    | exact spec_spGood.J1_sup _ _ _ _ _ _ _ _
    | exact spec_spGood.J2_sup _ _ _ _ _ _ _ _ _
    | exact spec_spSorted.F_sup _ _
    | exact spec_spOf.F_sup _ _
    | exact spec_spList.F_sup _ _ _ _ _ _ _
    | exact spec_spWidth.F_sup _ _
    | exact spec_biGood.F_sup _ _
    | exact spec_biSame.F_sup _ _ _ _
    | exact Sup.const _
def spec_spGood.T1 : Bool × List (List Nat × List Nat) := (true, [([], []), ([0], [0]), ([1], [1]), ([2], [2]), ([3, 2], [3]), ([4], [4]), ([5, 4], [4, 5]), ([6, 4, 4], [4, 6]), ([7, 4], [4, 7]), ([4, 8], [4, 8]), ([9, 7], [9]), ([10], [10]), ([11, 10], [10, 11]), ([10], [10]), ([13, 10], [10, 13]), ([10], [10]), ([15, 10], [10, 15]), ([14, 16, 10, 10], [10, 14, 16]), ([12, 17, 10], [10, 12, 17]), ([10, 18], [10, 18])])
def spec_spGood.B1 : List Nat := [0, 1, 3, 7, 15, 31, 63, 127, 255, 511, 1023, 2047, 4095, 2047, 10239, 2047, 34815, 124927, 262143, 524287]
theorem spec_spGood.tab1 : rtab .any (opsOf Try.f61 1) = spec_spGood.T1 := by kernel_rfl
theorem spec_spGood.bits1 : waitsOk spec_spGood.T1.2 spec_spGood.B1 = true := by kernel_rfl
def spec_spGood.T3 : Bool × List (List Nat × List Nat) := (true, [([], []), ([0], [0]), ([1], [1]), ([2], [2]), ([3, 2], [3]), ([4], [4]), ([5, 4], [4, 5]), ([6, 4, 4], [4, 6]), ([7, 4], [4, 7]), ([4, 8], [4, 8]), ([9, 7], [9]), ([10], [10]), ([11, 10], [10, 11]), ([12, 10], [10, 12]), ([10], [10]), ([14, 10], [10, 14]), ([10], [10]), ([16, 10], [10, 16]), ([15, 17, 10], [10, 15, 17]), ([13, 18, 10], [10, 13, 18]), ([10, 19], [10, 19]), ([20, 10], [20]), ([21], [21]), ([22, 21], [21, 22]), ([23, 21], [21, 23]), ([21], [21]), ([25, 21], [21, 25]), ([21], [21]), ([27, 21], [21, 27]), ([28, 21], [21, 28]), ([21], [21]), ([30, 21], [21, 30]), ([29, 31, 21], [21, 29, 31]), ([26, 32, 21], [21, 26, 32]), ([33, 21], [21, 33]), ([24, 34, 21], [21, 24, 34]), ([21, 35], [21, 35])])
def spec_spGood.B3 : List Nat := [0, 1, 3, 7, 15, 31, 63, 127, 255, 511, 1023, 2047, 4095, 8191, 2047, 18431, 2047, 67583, 247807, 524287, 1048575, 2097151, 4194303, 8388607, 16777215, 4194303, 37748735, 4194303, 138412031, 406847487, 4194303, 1077936127, 4164943871, 8560574463, 17150509055, 34359738367, 68719476735]
theorem spec_spGood.tab3 : rtab .any (opsOf Try.f61 3) = spec_spGood.T3 := by kernel_rfl
theorem spec_spGood.bits3 : waitsOk spec_spGood.T3.2 spec_spGood.B3 = true := by kernel_rfl
set_option maxHeartbeats 8000000 in
set_option maxRecDepth 100000 in
theorem spec_spGood.calls (k : Nat) (a0_0 : Int) (a0_1 : Int) (a0_2 : Int) (a0_3 : Int) (A0_4 : Option Addr) (c0_4 : Nat) (l0_4 : List Int) (a0_5 : Int) (A0_6 : Option Addr) (c0_6 : Nat) (l0_6 : List Int) (r : Bool) (w : World) (hr0_4 : Kd.C (Kd.int .i64) w A0_4 l0_4.length l0_4) (hc0_4 : l0_4.length ≤ c0_4) (hr0_6 : Kd.C (Kd.int .i64) w A0_6 l0_6.length l0_6) (hc0_6 : l0_6.length ≤ c0_6) (h : spec_spGood.f k a0_0 a0_1 a0_2 a0_3 l0_4 a0_5 l0_6 = some r) :
    Calls Try.prog 61 #[.agg #[.int .i64 a0_0, .int .i64 a0_1, .int .i64 a0_2, .int .i64 a0_3, .slice A0_4 l0_4.length c0_4, .int .i64 a0_5, .slice A0_6 l0_6.length c0_6]] w fun e w' => e = .returned (.bool r) ∧ Below w.heap.size w w' := by
  have hu26 := Try.underlying26; have hu24 := Try.underlying24; have HR0_4 := Qx hr0_4; have HC0_4 := Qx hc0_4; clear hr0_4 hc0_4; have HR0_6 := Qx hr0_6; have HC0_6 := Qx hc0_6; clear hr0_6 hc0_6
  have HB := Qx (Below.refl w.heap.size w)
  have H : ((spec_l1In.f a0_0 0 60).bind fun t331 => (if t331 = true then ((spec_spLimit.f a0_1).bind fun t332 => (if t332 = true then ((spec_spWidth.f k a0_0 a0_1).bind fun t333 => (spec_spGood.j0 k (a0_2 != t333) a0_0 a0_1 a0_2 a0_3 l0_4 a0_5 l0_6)) else (spec_spGood.j0 k true a0_0 a0_1 a0_2 a0_3 l0_4 a0_5 l0_6))) else (spec_spGood.j0 k true a0_0 a0_1 a0_2 a0_3 l0_4 a0_5 l0_6))) = some r := h
  clear h; have HC2 := Qx H; clear H
  go_enter Try.func61, Try.ntmps61
  go_upto_region 1 with (first | ((with_reducible refine gate_dst (N := 1) rfl ?_); refine box_event ?hg (N := 1) ?hd (cs := #[.int .i64 a0_0, .int .i64 a0_1, .int .i64 a0_2, .int .i64 a0_3, .slice A0_4 l0_4.length c0_4, .int .i64 a0_5, .slice A0_6 l0_6.length c0_6]) (t := 26) ?hr ?_; (case hd => rfl); (case hg => rfl); (case hr => first | (go_simp; done) | (go_simp; rfl)); intro gb330 hg w3 hbox hb; have n0_ := Qx (Qp (by repeat (first | (with_reducible first | exact HB.out | apply Qa | apply Qn | apply Qd) | exact HB.out)) hb); have n1_ := Qx (hbox); have n2_ := Qx ((by rw [hg]; exact (Qz (by repeat (first | (with_reducible first | exact HB.out | apply Qa | apply Qn | apply Qd) | exact HB.out))) : w.heap.size ≤ gb330)); have n3_ := n2_; clear HB; have HB := n0_; have BK330 := n1_; have GW330 := n2_; have GE330 := n3_; clear n0_ n1_ n2_ n3_ hb hbox hg))
  (try simp only [Act.put, List.setIfInBounds_toArray, List.set_cons_zero, List.set_cons_succ])
  go_cut [24] (fun v24 wc => ∃ (kq : Nat) (x24_1 : Bool), v24 = .bool x24_1 ∧ Aside0 (spec_spGood.j0 kq x24_1 a0_0 a0_1 a0_2 a0_3 l0_4 a0_5 l0_6 = some r) ∧ Aside0 (kq ≤ k) ∧ Aside0 (wc.heap[gb330]? = some (.cells #[.int .i64 a0_0, .int .i64 a0_1, .int .i64 a0_2, .int .i64 a0_3, (.slice A0_4 l0_4.length c0_4), .int .i64 a0_5, (.slice A0_6 l0_6.length c0_6)] 26 (0, 0))) ∧ Aside0 (Below w.heap.size w wc))
  case first =>
   have H := HC2.out; clear HC2; replace H := Option.bind_eq_some_iff.mp H; obtain ⟨t331, A40, H⟩ := H
   have A4 := Qx A40; clear A40
   by_cases c5 : t331 = true
   ·subst c5
    have H1 : ((spec_spLimit.f a0_1).bind fun t332 => (if t332 = true then ((spec_spWidth.f k a0_0 a0_1).bind fun t333 => (spec_spGood.j0 k (a0_2 != t333) a0_0 a0_1 a0_2 a0_3 l0_4 a0_5 l0_6)) else (spec_spGood.j0 k true a0_0 a0_1 a0_2 a0_3 l0_4 a0_5 l0_6))) = some r := by rw [if_pos rfl] at H; exact H
    clear H; have H := H1; clear H1; replace H := Option.bind_eq_some_iff.mp H; obtain ⟨t332, A60, H⟩ := H
    have A6 := Qx A60; clear A60
    by_cases c7 : t332 = true
    ·subst c7
     have H1 : ((spec_spWidth.f k a0_0 a0_1).bind fun t333 => (spec_spGood.j0 k (a0_2 != t333) a0_0 a0_1 a0_2 a0_3 l0_4 a0_5 l0_6)) = some r := by rw [if_pos rfl] at H; exact H
     clear H; have H := H1; clear H1; replace H := Option.bind_eq_some_iff.mp H; obtain ⟨t333, A80, H⟩ := H
     have A8 := Qx A80; clear A80; have H' := Qx H; clear H
     try go_wp2
     have n0_ := Qx (Qw BK330.out)
     have n1_ := Qx (Qd HB.out)
     clear BK330 HB; have BK330 := n0_; have HB := n1_; clear n0_ n1_
     refine start_ (n := 20) (S := fun w' => w'.cell? ⟨gb330, 0, none⟩ = some (.int .i64 a0_0) ∧ w'.cell? ⟨gb330, 1, none⟩ = some (.int .i64 a0_1) ∧ w'.cell? ⟨gb330, 2, none⟩ = some (.int .i64 a0_2) ∧ w'.cell? ⟨gb330, 3, none⟩ = some (.int .i64 a0_3) ∧ w'.cell? ⟨gb330, 4, none⟩ = some (.slice A0_4 l0_4.length c0_4) ∧ w'.cell? ⟨gb330, 5, none⟩ = some (.int .i64 a0_5) ∧ w'.cell? ⟨gb330, 6, none⟩ = some (.slice A0_6 l0_6.length c0_6)) (ds := []) #[false, false, false, false, false, false, false, false, false, false, false, false, false, false, false, false, false, false, false, false] (by kernel_rfl) rfl rfl ⟨(Qc BK330.out 0).trans rfl, (Qc BK330.out 1).trans rfl, (Qc BK330.out 2).trans rfl, (Qc BK330.out 3).trans rfl, (Qc BK330.out 4).trans rfl, (Qc BK330.out 5).trans rfl, (Qc BK330.out 6).trans rfl⟩ (fun hHeld => ?_); refine with_tabW spec_spGood.tab1 spec_spGood.bits1 (fun HT_ HW_ => ?_)
     generalize w3.drew = w9 at BK330 HB hHeld ⊢
     refine pq_ 0 5 20 1 HT_.out (by kernel_rfl) ?_
     refine tq_ 1 6 20 3 HT_.out HW_.out (by kernel_rfl) hHeld ?_ rfl (by rintro w' ⟨s0, s1, s2, s3, s4, s5, s6⟩; go_simp; with_reducible rfl)
     refine one_ (i := 2) (N := some 7) (bsA 20 7) rfl rfl (one_of HT_.out (by kernel_rfl)) (by decide) (fun K hK => ?_)
     refine goes_ Try.func64 (by kernel_rfl) rfl #[.int .i64 a0_0, .int .i64 0, .int .i64 60] (by rfl) rfl rfl (by (try simp only [List.map_toArray, List.map_cons, List.map_nil]); first | done | rfl | (simp only [List.length_drop, List.length_take]; rfl)) ?_
     with_reducible refine (spec_l1In.calls a0_0 0 60 true _ A4.out).mono ?_
     rintro e w' ⟨rfl, ⟨nd, rfl⟩⟩
     refine ⟨_, rfl, ?_⟩
     refine hK.out _ _ ⟨(Qc BK330.out 0).trans rfl, (Qc BK330.out 1).trans rfl, (Qc BK330.out 2).trans rfl, (Qc BK330.out 3).trans rfl, (Qc BK330.out 4).trans rfl, (Qc BK330.out 5).trans rfl, (Qc BK330.out 6).trans rfl⟩ (fun hHeld => ?_)
     clear hK K
     refine norm_ (a' := ?_) ?_ ?_
     rotate_left
     ·show Act.put _ (some 7) _ = _
      simp only [Act.put, List.setIfInBounds_toArray, List.set_cons_zero, List.set_cons_succ, i64_w]
      rfl
     refine pq_ 3 8 20 15 HT_.out (by kernel_rfl) ?_
     refine pq_ 4 9 20 31 HT_.out (by kernel_rfl) ?_
     refine pq_ 5 10 20 63 HT_.out (by kernel_rfl) ?_
     refine tq_ 6 11 20 127 HT_.out HW_.out (by kernel_rfl) hHeld ?_ rfl (by rintro w' ⟨s0, s1, s2, s3, s4, s5, s6⟩; go_simp; with_reducible rfl)
     refine one_ (i := 7) (N := some 12) (bsA 20 255) rfl rfl (one_of HT_.out (by kernel_rfl)) (by decide) (fun K hK => ?_)
     refine goes_ Try.func85 (by kernel_rfl) rfl #[.int .i64 a0_1] (by rfl) rfl rfl (by (try simp only [List.map_toArray, List.map_cons, List.map_nil]); first | done | rfl | (simp only [List.length_drop, List.length_take]; rfl)) ?_
     with_reducible refine (spec_spLimit.calls a0_1 true _ A6.out).mono ?_
     rintro e w' ⟨rfl, ⟨nd, rfl⟩⟩
     refine ⟨_, rfl, ?_⟩
     refine hK.out _ _ ⟨(Qc BK330.out 0).trans rfl, (Qc BK330.out 1).trans rfl, (Qc BK330.out 2).trans rfl, (Qc BK330.out 3).trans rfl, (Qc BK330.out 4).trans rfl, (Qc BK330.out 5).trans rfl, (Qc BK330.out 6).trans rfl⟩ (fun hHeld => ?_)
     clear hK K
     refine norm_ (a' := ?_) ?_ ?_
     rotate_left
     ·show Act.put _ (some 12) _ = _
      simp only [Act.put, List.setIfInBounds_toArray, List.set_cons_zero, List.set_cons_succ, i64_w]
      rfl
     refine pq_ 8 13 20 511 HT_.out (by kernel_rfl) ?_
     refine pq_ 9 14 20 1023 HT_.out (by kernel_rfl) ?_
     refine pq_ 10 15 20 2047 HT_.out (by kernel_rfl) ?_
     refine pq_ 11 16 20 4095 HT_.out (by kernel_rfl) ?_
     refine pq_ 13 18 20 12287 HT_.out (by kernel_rfl) ?_
     refine pq_ 15 20 20 45055 HT_.out (by kernel_rfl) ?_
     refine tq_ 12 17 20 49151 HT_.out HW_.out (by kernel_rfl) hHeld ?_ rfl (by rintro w' ⟨s0, s1, s2, s3, s4, s5, s6⟩; go_simp; with_reducible rfl)
     refine tq_ 14 19 20 65535 HT_.out HW_.out (by kernel_rfl) hHeld ?_ rfl (by rintro w' ⟨s0, s1, s2, s3, s4, s5, s6⟩; go_simp; with_reducible rfl)
     refine tq_ 16 21 20 131071 HT_.out HW_.out (by kernel_rfl) hHeld ?_ rfl (by rintro w' ⟨s0, s1, s2, s3, s4, s5, s6⟩; go_simp; with_reducible rfl)
     refine one_ (i := 17) (N := some 22) (bsA 20 262143) rfl rfl (one_of HT_.out (by kernel_rfl)) (by decide) (fun K hK => ?_)
     refine goes_ Try.func86 (by kernel_rfl) rfl #[.int .i64 a0_0, .int .i64 a0_1] (by rfl) rfl rfl (by (try simp only [List.map_toArray, List.map_cons, List.map_nil]); first | done | rfl | (simp only [List.length_drop, List.length_take]; rfl)) ?_
     with_reducible refine (spec_spWidth.calls k a0_0 a0_1 t333 _ A8.out).mono ?_
     rintro e w' ⟨rfl, ⟨nd, rfl⟩⟩
     refine ⟨_, rfl, ?_⟩
     refine hK.out _ _ ⟨(Qc BK330.out 0).trans rfl, (Qc BK330.out 1).trans rfl, (Qc BK330.out 2).trans rfl, (Qc BK330.out 3).trans rfl, (Qc BK330.out 4).trans rfl, (Qc BK330.out 5).trans rfl, (Qc BK330.out 6).trans rfl⟩ (fun hHeld => ?_)
     clear hK K
     refine norm_ (a' := ?_) ?_ ?_
     rotate_left
     ·show Act.put _ (some 22) _ = _
      simp only [Act.put, List.setIfInBounds_toArray, List.set_cons_zero, List.set_cons_succ, i64_w]
      rfl
     refine pq_ 18 23 20 524287 HT_.out (by kernel_rfl) ?_
     refine pq_ 19 24 20 1048575 HT_.out (by kernel_rfl) ?_
     refine done_ (done_of HT_.out (by kernel_rfl)) ?_
     try go_wp2
     go_meet
     case rel => exact ⟨_, ((a0_2 != t333)), (by first | rfl | (simp; done) | (simp [*]; done)), H', ⟨by first | omega | exact Nat.le_refl _⟩, ⟨by (with_reducible repeat (first | refine Qm ?_ _ | refine Qw ?_ | refine Qk ?_ _)); exact BK330.out⟩, ⟨by repeat (first | (with_reducible first | exact HB.out | apply Qa | apply Qn | apply Qd | refine Qs ?_ GE330.out) | exact HB.out)⟩⟩
    ·replace c7 := Bool.eq_false_iff.mpr c7; subst c7
     have H1 : (spec_spGood.j0 k true a0_0 a0_1 a0_2 a0_3 l0_4 a0_5 l0_6) = some r := by rw [if_neg (show ¬ (false = true) by decide)] at H; exact H
     clear H; have H := H1; clear H1; have H' := Qx H; clear H
     try go_wp2
     have n0_ := Qx (Qw BK330.out)
     have n1_ := Qx (Qd HB.out)
     clear BK330 HB; have BK330 := n0_; have HB := n1_; clear n0_ n1_
     refine start_ (n := 20) (S := fun w' => w'.cell? ⟨gb330, 0, none⟩ = some (.int .i64 a0_0) ∧ w'.cell? ⟨gb330, 1, none⟩ = some (.int .i64 a0_1) ∧ w'.cell? ⟨gb330, 2, none⟩ = some (.int .i64 a0_2) ∧ w'.cell? ⟨gb330, 3, none⟩ = some (.int .i64 a0_3) ∧ w'.cell? ⟨gb330, 4, none⟩ = some (.slice A0_4 l0_4.length c0_4) ∧ w'.cell? ⟨gb330, 5, none⟩ = some (.int .i64 a0_5) ∧ w'.cell? ⟨gb330, 6, none⟩ = some (.slice A0_6 l0_6.length c0_6)) (ds := []) #[false, false, false, false, false, false, false, false, false, false, false, false, false, false, false, false, false, false, false, false] (by kernel_rfl) rfl rfl ⟨(Qc BK330.out 0).trans rfl, (Qc BK330.out 1).trans rfl, (Qc BK330.out 2).trans rfl, (Qc BK330.out 3).trans rfl, (Qc BK330.out 4).trans rfl, (Qc BK330.out 5).trans rfl, (Qc BK330.out 6).trans rfl⟩ (fun hHeld => ?_); refine with_tabW spec_spGood.tab1 spec_spGood.bits1 (fun HT_ HW_ => ?_)
     generalize w3.drew = w10 at BK330 HB hHeld ⊢
     refine pq_ 0 5 20 1 HT_.out (by kernel_rfl) ?_
     refine tq_ 1 6 20 3 HT_.out HW_.out (by kernel_rfl) hHeld ?_ rfl (by rintro w' ⟨s0, s1, s2, s3, s4, s5, s6⟩; go_simp; with_reducible rfl)
     refine one_ (i := 2) (N := some 7) (bsA 20 7) rfl rfl (one_of HT_.out (by kernel_rfl)) (by decide) (fun K hK => ?_)
     refine goes_ Try.func64 (by kernel_rfl) rfl #[.int .i64 a0_0, .int .i64 0, .int .i64 60] (by rfl) rfl rfl (by (try simp only [List.map_toArray, List.map_cons, List.map_nil]); first | done | rfl | (simp only [List.length_drop, List.length_take]; rfl)) ?_
     with_reducible refine (spec_l1In.calls a0_0 0 60 true _ A4.out).mono ?_
     rintro e w' ⟨rfl, ⟨nd, rfl⟩⟩
     refine ⟨_, rfl, ?_⟩
     refine hK.out _ _ ⟨(Qc BK330.out 0).trans rfl, (Qc BK330.out 1).trans rfl, (Qc BK330.out 2).trans rfl, (Qc BK330.out 3).trans rfl, (Qc BK330.out 4).trans rfl, (Qc BK330.out 5).trans rfl, (Qc BK330.out 6).trans rfl⟩ (fun hHeld => ?_)
     clear hK K
     refine norm_ (a' := ?_) ?_ ?_
     rotate_left
     ·show Act.put _ (some 7) _ = _
      simp only [Act.put, List.setIfInBounds_toArray, List.set_cons_zero, List.set_cons_succ, i64_w]
      rfl
     refine pq_ 3 8 20 15 HT_.out (by kernel_rfl) ?_
     refine pq_ 4 9 20 31 HT_.out (by kernel_rfl) ?_
     refine pq_ 5 10 20 63 HT_.out (by kernel_rfl) ?_
     refine tq_ 6 11 20 127 HT_.out HW_.out (by kernel_rfl) hHeld ?_ rfl (by rintro w' ⟨s0, s1, s2, s3, s4, s5, s6⟩; go_simp; with_reducible rfl)
     refine one_ (i := 7) (N := some 12) (bsA 20 255) rfl rfl (one_of HT_.out (by kernel_rfl)) (by decide) (fun K hK => ?_)
     refine goes_ Try.func85 (by kernel_rfl) rfl #[.int .i64 a0_1] (by rfl) rfl rfl (by (try simp only [List.map_toArray, List.map_cons, List.map_nil]); first | done | rfl | (simp only [List.length_drop, List.length_take]; rfl)) ?_
     with_reducible refine (spec_spLimit.calls a0_1 false _ A6.out).mono ?_
     rintro e w' ⟨rfl, ⟨nd, rfl⟩⟩
     refine ⟨_, rfl, ?_⟩
     refine hK.out _ _ ⟨(Qc BK330.out 0).trans rfl, (Qc BK330.out 1).trans rfl, (Qc BK330.out 2).trans rfl, (Qc BK330.out 3).trans rfl, (Qc BK330.out 4).trans rfl, (Qc BK330.out 5).trans rfl, (Qc BK330.out 6).trans rfl⟩ (fun hHeld => ?_)
     clear hK K
     refine norm_ (a' := ?_) ?_ ?_
     rotate_left
     ·show Act.put _ (some 12) _ = _
      simp only [Act.put, List.setIfInBounds_toArray, List.set_cons_zero, List.set_cons_succ, i64_w]
      rfl
     refine pq_ 8 13 20 511 HT_.out (by kernel_rfl) ?_
     refine pq_ 9 14 20 1023 HT_.out (by kernel_rfl) ?_
     refine pq_ 10 15 20 2047 HT_.out (by kernel_rfl) ?_
     refine uq_ 11 16 20 4095 HT_.out (by kernel_rfl) ?_
     refine uq_ 12 17 20 8191 HT_.out (by kernel_rfl) ?_
     refine uq_ 13 18 20 16383 HT_.out (by kernel_rfl) ?_
     refine uq_ 14 19 20 32767 HT_.out (by kernel_rfl) ?_
     refine uq_ 15 20 20 65535 HT_.out (by kernel_rfl) ?_
     refine uq_ 16 21 20 131071 HT_.out (by kernel_rfl) ?_
     refine uq_ 17 22 20 262143 HT_.out (by kernel_rfl) ?_
     refine uq_ 18 23 20 524287 HT_.out (by kernel_rfl) ?_
     refine pq_ 19 24 20 1048575 HT_.out (by kernel_rfl) ?_
     refine done_ (done_of HT_.out (by kernel_rfl)) ?_
     try go_wp2
     go_meet
     case rel => exact ⟨_, (true), (by first | rfl | (simp; done) | (simp [*]; done)), H', ⟨by first | omega | exact Nat.le_refl _⟩, ⟨by (with_reducible repeat (first | refine Qm ?_ _ | refine Qw ?_ | refine Qk ?_ _)); exact BK330.out⟩, ⟨by repeat (first | (with_reducible first | exact HB.out | apply Qa | apply Qn | apply Qd | refine Qs ?_ GE330.out) | exact HB.out)⟩⟩
   ·replace c5 := Bool.eq_false_iff.mpr c5; subst c5
    have H1 : (spec_spGood.j0 k true a0_0 a0_1 a0_2 a0_3 l0_4 a0_5 l0_6) = some r := by rw [if_neg (show ¬ (false = true) by decide)] at H; exact H
    clear H; have H := H1; clear H1; have H' := Qx H; clear H
    try go_wp2
    have n0_ := Qx (Qw BK330.out)
    have n1_ := Qx (Qd HB.out)
    clear BK330 HB; have BK330 := n0_; have HB := n1_; clear n0_ n1_
    refine start_ (n := 20) (S := fun w' => w'.cell? ⟨gb330, 0, none⟩ = some (.int .i64 a0_0) ∧ w'.cell? ⟨gb330, 1, none⟩ = some (.int .i64 a0_1) ∧ w'.cell? ⟨gb330, 2, none⟩ = some (.int .i64 a0_2) ∧ w'.cell? ⟨gb330, 3, none⟩ = some (.int .i64 a0_3) ∧ w'.cell? ⟨gb330, 4, none⟩ = some (.slice A0_4 l0_4.length c0_4) ∧ w'.cell? ⟨gb330, 5, none⟩ = some (.int .i64 a0_5) ∧ w'.cell? ⟨gb330, 6, none⟩ = some (.slice A0_6 l0_6.length c0_6)) (ds := []) #[false, false, false, false, false, false, false, false, false, false, false, false, false, false, false, false, false, false, false, false] (by kernel_rfl) rfl rfl ⟨(Qc BK330.out 0).trans rfl, (Qc BK330.out 1).trans rfl, (Qc BK330.out 2).trans rfl, (Qc BK330.out 3).trans rfl, (Qc BK330.out 4).trans rfl, (Qc BK330.out 5).trans rfl, (Qc BK330.out 6).trans rfl⟩ (fun hHeld => ?_); refine with_tabW spec_spGood.tab1 spec_spGood.bits1 (fun HT_ HW_ => ?_)
    generalize w3.drew = w11 at BK330 HB hHeld ⊢
    refine pq_ 0 5 20 1 HT_.out (by kernel_rfl) ?_
    refine tq_ 1 6 20 3 HT_.out HW_.out (by kernel_rfl) hHeld ?_ rfl (by rintro w' ⟨s0, s1, s2, s3, s4, s5, s6⟩; go_simp; with_reducible rfl)
    refine one_ (i := 2) (N := some 7) (bsA 20 7) rfl rfl (one_of HT_.out (by kernel_rfl)) (by decide) (fun K hK => ?_)
    refine goes_ Try.func64 (by kernel_rfl) rfl #[.int .i64 a0_0, .int .i64 0, .int .i64 60] (by rfl) rfl rfl (by (try simp only [List.map_toArray, List.map_cons, List.map_nil]); first | done | rfl | (simp only [List.length_drop, List.length_take]; rfl)) ?_
    with_reducible refine (spec_l1In.calls a0_0 0 60 false _ A4.out).mono ?_
    rintro e w' ⟨rfl, ⟨nd, rfl⟩⟩
    refine ⟨_, rfl, ?_⟩
    refine hK.out _ _ ⟨(Qc BK330.out 0).trans rfl, (Qc BK330.out 1).trans rfl, (Qc BK330.out 2).trans rfl, (Qc BK330.out 3).trans rfl, (Qc BK330.out 4).trans rfl, (Qc BK330.out 5).trans rfl, (Qc BK330.out 6).trans rfl⟩ (fun hHeld => ?_)
    clear hK K
    refine norm_ (a' := ?_) ?_ ?_
    rotate_left
    ·show Act.put _ (some 7) _ = _
     simp only [Act.put, List.setIfInBounds_toArray, List.set_cons_zero, List.set_cons_succ, i64_w]
     rfl
    refine pq_ 3 8 20 15 HT_.out (by kernel_rfl) ?_
    refine pq_ 4 9 20 31 HT_.out (by kernel_rfl) ?_
    refine uq_ 5 10 20 63 HT_.out (by kernel_rfl) ?_
    refine uq_ 6 11 20 127 HT_.out (by kernel_rfl) ?_
    refine uq_ 7 12 20 255 HT_.out (by kernel_rfl) ?_
    refine uq_ 8 13 20 511 HT_.out (by kernel_rfl) ?_
    refine pq_ 9 14 20 1023 HT_.out (by kernel_rfl) ?_
    refine pq_ 10 15 20 2047 HT_.out (by kernel_rfl) ?_
    refine uq_ 11 16 20 4095 HT_.out (by kernel_rfl) ?_
    refine uq_ 12 17 20 8191 HT_.out (by kernel_rfl) ?_
    refine uq_ 13 18 20 16383 HT_.out (by kernel_rfl) ?_
    refine uq_ 14 19 20 32767 HT_.out (by kernel_rfl) ?_
    refine uq_ 15 20 20 65535 HT_.out (by kernel_rfl) ?_
    refine uq_ 16 21 20 131071 HT_.out (by kernel_rfl) ?_
    refine uq_ 17 22 20 262143 HT_.out (by kernel_rfl) ?_
    refine uq_ 18 23 20 524287 HT_.out (by kernel_rfl) ?_
    refine pq_ 19 24 20 1048575 HT_.out (by kernel_rfl) ?_
    refine done_ (done_of HT_.out (by kernel_rfl)) ?_
    try go_wp2
    go_meet
    case rel => exact ⟨_, (true), (by first | rfl | (simp; done) | (simp [*]; done)), H', ⟨by first | omega | exact Nat.le_refl _⟩, ⟨by (with_reducible repeat (first | refine Qm ?_ _ | refine Qw ?_ | refine Qk ?_ _)); exact BK330.out⟩, ⟨by repeat (first | (with_reducible first | exact HB.out | apply Qa | apply Qn | apply Qd | refine Qs ?_ GE330.out) | exact HB.out)⟩⟩
  case rest =>
   clear HC2
   try clear p2
   try clear c5
   try clear c6
   try clear c7
   try clear c8
   obtain ⟨kq, x24_1, rfl, HA, HJ1, BK330, HB⟩ := hcut
   cases kq with
   | zero => exact absurd HA.out (by simp [spec_spGood.j0])
   | succ kj1 =>
    have H := HA.out; clear HA; simp only [spec_spGood.j0] at H
    by_cases c12 : x24_1 = true
    ·subst c12
     have H1 : (some false) = some r := by rw [if_pos rfl] at H; exact H
     clear H; have H := H1; clear H1; obtain rfl := Option.some.inj H
     go_wp2
     go_ret
     exact ⟨by first | rfl | (simp [errW_none, errW_some] <;> rfl) | (simp [*, errW_none, errW_some] <;> rfl), by repeat (first | (with_reducible first | exact HB.out | apply Qa | apply Qn | apply Qd | refine Qs ?_ GE330.out) | exact HB.out)⟩
    ·replace c12 := Bool.eq_false_iff.mpr c12; subst c12
     have H1 : ((spec_biGood.f kj1 a0_3 l0_4).bind fun t334 => (if t334 = true then ((spec_biGood.f kj1 a0_5 l0_6).bind fun t335 => (if t335 = true then (if a0_3 = (wrap64 (a0_0 * a0_2)) then (if 0 ≤ a0_2 then (spec_spGood.j1 kj1 (a0_5 != (wrap64 ((wrap64 (a0_0 + (shr .i64 (wrap64 (a0_1 - 1)) a0_2))) + 1))) a0_0 a0_1 a0_2 a0_3 l0_4 a0_5 l0_6) else (none)) else (spec_spGood.j1 kj1 true a0_0 a0_1 a0_2 a0_3 l0_4 a0_5 l0_6)) else (spec_spGood.j1 kj1 true a0_0 a0_1 a0_2 a0_3 l0_4 a0_5 l0_6))) else (spec_spGood.j1 kj1 true a0_0 a0_1 a0_2 a0_3 l0_4 a0_5 l0_6))) = some r := by rw [if_neg (show ¬ (false = true) by decide)] at H; exact H
     clear H; have H := H1; clear H1; have HC13 := Qx H; clear H
     go_upto_region 3 with (fail)
     go_cut [61] (fun v61 wc => ∃ (kq : Nat) (x61_12 : Bool), v61 = .bool x61_12 ∧ Aside0 (spec_spGood.j1 kq x61_12 a0_0 a0_1 a0_2 a0_3 l0_4 a0_5 l0_6 = some r) ∧ Aside0 (kq ≤ kj1) ∧ Aside0 (wc.heap[gb330]? = some (.cells #[.int .i64 a0_0, .int .i64 a0_1, .int .i64 a0_2, .int .i64 a0_3, (.slice A0_4 l0_4.length c0_4), .int .i64 a0_5, (.slice A0_6 l0_6.length c0_6)] 26 (0, 0))) ∧ Aside0 (Below w.heap.size w wc))
     case first =>
      have H := HC13.out; clear HC13; replace H := Option.bind_eq_some_iff.mp H; obtain ⟨t334, A140, H⟩ := H
      have A14 := Qx A140; clear A140
      by_cases c15 : t334 = true
      ·subst c15
       have H1 : ((spec_biGood.f kj1 a0_5 l0_6).bind fun t335 => (if t335 = true then (if a0_3 = (wrap64 (a0_0 * a0_2)) then (if 0 ≤ a0_2 then (spec_spGood.j1 kj1 (a0_5 != (wrap64 ((wrap64 (a0_0 + (shr .i64 (wrap64 (a0_1 - 1)) a0_2))) + 1))) a0_0 a0_1 a0_2 a0_3 l0_4 a0_5 l0_6) else (none)) else (spec_spGood.j1 kj1 true a0_0 a0_1 a0_2 a0_3 l0_4 a0_5 l0_6)) else (spec_spGood.j1 kj1 true a0_0 a0_1 a0_2 a0_3 l0_4 a0_5 l0_6))) = some r := by rw [if_pos rfl] at H; exact H
       clear H; have H := H1; clear H1; replace H := Option.bind_eq_some_iff.mp H; obtain ⟨t335, A160, H⟩ := H
       have A16 := Qx A160; clear A160
       by_cases c17 : t335 = true
       ·subst c17
        have H1 : (if a0_3 = (wrap64 (a0_0 * a0_2)) then (if 0 ≤ a0_2 then (spec_spGood.j1 kj1 (a0_5 != (wrap64 ((wrap64 (a0_0 + (shr .i64 (wrap64 (a0_1 - 1)) a0_2))) + 1))) a0_0 a0_1 a0_2 a0_3 l0_4 a0_5 l0_6) else (none)) else (spec_spGood.j1 kj1 true a0_0 a0_1 a0_2 a0_3 l0_4 a0_5 l0_6)) = some r := by rw [if_pos rfl] at H; exact H
        clear H; have H := H1; clear H1
        by_cases c18 : a0_3 = (wrap64 (a0_0 * a0_2))
        ·rw [if_pos c18] at H
         have c18b0 : (a0_3 == (wrap64 (a0_0 * a0_2))) = true := beq_iff_eq.mpr c18
         have c18b1 : (a0_3 != (wrap64 (a0_0 * a0_2))) = false := bne_eq_false_iff_eq.mpr c18
         clear c18
         (first | rw [c18b0] | (simp only [i64_w, i32_w]; rw [c18b0]) | skip)
         by_cases c19 : 0 ≤ a0_2
         ·rw [if_pos c19] at H; have c19b0 := eq_true c19
          have c19b1 : decide (0 ≤ a0_2) = true := decide_eq_true c19
          clear c19
          obtain ⟨ji20, hji20⟩ : ∃ j_ : Int, (shr .i64 (wrap64 (a0_1 - 1)) a0_2) = j_ := ⟨_, rfl⟩
          replace H : (spec_spGood.j1 kj1 (a0_5 != (wrap64 ((wrap64 (a0_0 + (ji20))) + 1))) a0_0 a0_1 a0_2 a0_3 l0_4 a0_5 l0_6) = some r := by first | (rw [hji20] at H; exact H) | (simp only [hji20] at H ⊢; exact H)
          (try rw [hji20] at A14)
          (try rw [hji20] at A16)
          have hji20_ : ((wrap64 (a0_1 - 1)) / 2 ^ min a0_2.toNat 64) = ji20 := hji20
          have hji20z : a0_2 ≤ 64 → ((wrap64 (a0_1 - 1)) / 2 ^ a0_2.toNat) = ji20 := shr_small hji20
          have H' := Qx H; clear H
          try go_wp2
          have n0_ := Qx (Qw BK330.out)
          have n1_ := Qx (Qd HB.out)
          clear BK330 HB; have BK330 := n0_; have HB := n1_; clear n0_ n1_
          refine start_ (n := 37) (S := fun w' => w'.cell? ⟨gb330, 0, none⟩ = some (.int .i64 a0_0) ∧ w'.cell? ⟨gb330, 1, none⟩ = some (.int .i64 a0_1) ∧ w'.cell? ⟨gb330, 2, none⟩ = some (.int .i64 a0_2) ∧ w'.cell? ⟨gb330, 3, none⟩ = some (.int .i64 a0_3) ∧ w'.cell? ⟨gb330, 4, none⟩ = some (.slice A0_4 l0_4.length c0_4) ∧ w'.cell? ⟨gb330, 5, none⟩ = some (.int .i64 a0_5) ∧ w'.cell? ⟨gb330, 6, none⟩ = some (.slice A0_6 l0_6.length c0_6)) (ds := []) #[false, false, false, false, false, false, false, false, false, false, false, false, false, false, false, false, false, false, false, false, false, false, false, false, false, false, false, false, false, false, false, false, false, false, false, false, false] (by kernel_rfl) rfl rfl ⟨(Qc BK330.out 0).trans rfl, (Qc BK330.out 1).trans rfl, (Qc BK330.out 2).trans rfl, (Qc BK330.out 3).trans rfl, (Qc BK330.out 4).trans rfl, (Qc BK330.out 5).trans rfl, (Qc BK330.out 6).trans rfl⟩ (fun hHeld => ?_); refine with_tabW spec_spGood.tab3 spec_spGood.bits3 (fun HT_ HW_ => ?_)
          generalize wc.drew = w21 at BK330 HB hHeld ⊢
          refine pq_ 0 25 37 1 HT_.out (by kernel_rfl) ?_
          refine tq_ 1 26 37 3 HT_.out HW_.out (by kernel_rfl) hHeld ?_ rfl (by rintro w' ⟨s0, s1, s2, s3, s4, s5, s6⟩; go_simp; with_reducible rfl)
          refine one_ (i := 2) (N := some 27) (bsA 37 7) rfl rfl (one_of HT_.out (by kernel_rfl)) (by decide) (fun K hK => ?_)
          refine goes_ Try.func95 (by kernel_rfl) rfl #[.agg #[.int .i64 a0_3, .slice A0_4 l0_4.length c0_4]] (by rfl) rfl rfl (by (try simp only [List.map_toArray, List.map_cons, List.map_nil]); first | done | rfl | (simp only [List.length_drop, List.length_take]; rfl)) ?_
          with_reducible refine (spec_biGood.calls kj1 a0_3 _ _ l0_4 true _ ?side1 ?side2 A14.out).mono ?_
          (case side1 => repeat (first | exact (Kd.C_below HR0_4.out HB.out) | (with_reducible refine Kd.C_alloc ?_ _) | (with_reducible refine Kd.C_drewN ?_ _) | (with_reducible refine Kd.C_drew ?_)))
          (case side2 => exact HC0_4.out)
          rintro e w22 ⟨rfl, hb⟩
          refine ⟨_, rfl, ?_⟩
          have n0_ := Qx (Qb (g := gb330) (by (with_reducible repeat (first | refine Qm ?_ _ | refine Qw ?_ | refine Qk ?_ _)); exact BK330.out) hb)
          have n1_ := Qx (Qp (by repeat (first | (with_reducible first | exact HB.out | apply Qa | apply Qn | apply Qd | refine Qs ?_ GE330.out) | exact HB.out)) hb)
          clear BK330 HB; have BK330 := n0_; have HB := n1_; clear n0_ n1_; (try clear hb); (try clear hb2); (try clear hk); (try clear hi)
          refine hK.out _ _ ⟨(Qc BK330.out 0).trans rfl, (Qc BK330.out 1).trans rfl, (Qc BK330.out 2).trans rfl, (Qc BK330.out 3).trans rfl, (Qc BK330.out 4).trans rfl, (Qc BK330.out 5).trans rfl, (Qc BK330.out 6).trans rfl⟩ (fun hHeld => ?_)
          clear hK K
          refine norm_ (a' := ?_) ?_ ?_
          rotate_left
          ·show Act.put _ (some 27) _ = _
           simp only [Act.put, List.setIfInBounds_toArray, List.set_cons_zero, List.set_cons_succ, i64_w]
           rfl
          refine pq_ 3 28 37 15 HT_.out (by kernel_rfl) ?_
          refine pq_ 4 29 37 31 HT_.out (by kernel_rfl) ?_
          refine pq_ 5 30 37 63 HT_.out (by kernel_rfl) ?_
          refine tq_ 6 31 37 127 HT_.out HW_.out (by kernel_rfl) hHeld ?_ rfl (by rintro w' ⟨s0, s1, s2, s3, s4, s5, s6⟩; go_simp; with_reducible rfl)
          refine one_ (i := 7) (N := some 32) (bsA 37 255) rfl rfl (one_of HT_.out (by kernel_rfl)) (by decide) (fun K hK => ?_)
          refine goes_ Try.func95 (by kernel_rfl) rfl #[.agg #[.int .i64 a0_5, .slice A0_6 l0_6.length c0_6]] (by rfl) rfl rfl (by (try simp only [List.map_toArray, List.map_cons, List.map_nil]); first | done | rfl | (simp only [List.length_drop, List.length_take]; rfl)) ?_
          with_reducible refine (spec_biGood.calls kj1 a0_5 _ _ l0_6 true _ ?side1 ?side2 A16.out).mono ?_
          (case side1 => repeat (first | exact (Kd.C_below HR0_6.out HB.out) | (with_reducible refine Kd.C_alloc ?_ _) | (with_reducible refine Kd.C_drewN ?_ _) | (with_reducible refine Kd.C_drew ?_)))
          (case side2 => exact HC0_6.out)
          rintro e w23 ⟨rfl, hb⟩
          refine ⟨_, rfl, ?_⟩
          have n0_ := Qx (Qb (g := gb330) (by (with_reducible repeat (first | refine Qm ?_ _ | refine Qw ?_ | refine Qk ?_ _)); exact BK330.out) hb)
          have n1_ := Qx (Qp (by repeat (first | (with_reducible first | exact HB.out | apply Qa | apply Qn | apply Qd | refine Qs ?_ GE330.out) | exact HB.out)) hb)
          clear BK330 HB; have BK330 := n0_; have HB := n1_; clear n0_ n1_; (try clear hb); (try clear hb2); (try clear hk); (try clear hi)
          refine hK.out _ _ ⟨(Qc BK330.out 0).trans rfl, (Qc BK330.out 1).trans rfl, (Qc BK330.out 2).trans rfl, (Qc BK330.out 3).trans rfl, (Qc BK330.out 4).trans rfl, (Qc BK330.out 5).trans rfl, (Qc BK330.out 6).trans rfl⟩ (fun hHeld => ?_)
          clear hK K
          refine norm_ (a' := ?_) ?_ ?_
          rotate_left
          ·show Act.put _ (some 32) _ = _
           simp only [Act.put, List.setIfInBounds_toArray, List.set_cons_zero, List.set_cons_succ, i64_w]
           rfl
          refine pq_ 8 33 37 511 HT_.out (by kernel_rfl) ?_
          refine pq_ 9 34 37 1023 HT_.out (by kernel_rfl) ?_
          refine pq_ 10 35 37 2047 HT_.out (by kernel_rfl) ?_
          refine pq_ 11 36 37 4095 HT_.out (by kernel_rfl) ?_
          refine pq_ 12 37 37 8191 HT_.out (by kernel_rfl) ?_
          refine pq_ 14 39 37 24575 HT_.out (by kernel_rfl) ?_
          refine pq_ 16 41 37 90111 HT_.out (by kernel_rfl) ?_
          refine tq_ 13 38 37 98303 HT_.out HW_.out (by kernel_rfl) hHeld ?_ rfl (by rintro w' ⟨s0, s1, s2, s3, s4, s5, s6⟩; go_simp; with_reducible rfl)
          refine tq_ 15 40 37 131071 HT_.out HW_.out (by kernel_rfl) hHeld ?_ rfl (by rintro w' ⟨s0, s1, s2, s3, s4, s5, s6⟩; go_simp; with_reducible rfl)
          refine tq_ 17 42 37 262143 HT_.out HW_.out (by kernel_rfl) hHeld ?_ rfl (by rintro w' ⟨s0, s1, s2, s3, s4, s5, s6⟩; go_simp; with_reducible rfl)
          refine pq_ 18 43 37 524287 HT_.out (by kernel_rfl) ?_
          refine pq_ 19 44 37 1048575 HT_.out (by kernel_rfl) ?_
          refine pq_ 20 45 37 2097151 HT_.out (by kernel_rfl) ?_
          refine pq_ 21 46 37 4194303 HT_.out (by kernel_rfl) ?_
          refine pq_ 22 47 37 8388607 HT_.out (by kernel_rfl) ?_
          refine pq_ 23 48 37 16777215 HT_.out (by kernel_rfl) ?_
          refine pq_ 25 50 37 50331647 HT_.out (by kernel_rfl) ?_
          refine pq_ 27 52 37 184549375 HT_.out (by kernel_rfl) ?_
          refine pq_ 30 55 37 1258291199 HT_.out (by kernel_rfl) ?_
          refine tq_ 24 49 37 1275068415 HT_.out HW_.out (by kernel_rfl) hHeld ?_ rfl (by rintro w' ⟨s0, s1, s2, s3, s4, s5, s6⟩; go_simp; with_reducible rfl)
          refine tq_ 26 51 37 1342177279 HT_.out HW_.out (by kernel_rfl) hHeld ?_ rfl (by rintro w' ⟨s0, s1, s2, s3, s4, s5, s6⟩; go_simp; with_reducible rfl)
          refine tq_ 28 53 37 1610612735 HT_.out HW_.out (by kernel_rfl) hHeld ?_ rfl (by rintro w' ⟨s0, s1, s2, s3, s4, s5, s6⟩; go_simp; with_reducible rfl)
          refine pq_ 29 54 37 2147483647 HT_.out (by kernel_rfl) ?_
          refine tq_ 31 56 37 4294967295 HT_.out HW_.out (by kernel_rfl) hHeld ?_ rfl (by rintro w' ⟨s0, s1, s2, s3, s4, s5, s6⟩; go_simp; with_reducible rfl)
          refine pq_ 32 57 37 8589934591 HT_.out (by kernel_rfl) ?_
          refine pq_ 33 58 37 17179869183 HT_.out (by kernel_rfl) ?_
          refine pq_ 34 59 37 34359738367 HT_.out (by kernel_rfl) ?_
          refine pq_ 35 60 37 68719476735 HT_.out (by kernel_rfl) ?_
          refine pq_ 36 61 37 137438953471 HT_.out (by kernel_rfl) ?_
          refine done_ (done_of HT_.out (by kernel_rfl)) ?_
          try go_wp2
          go_meet
          case rel => exact ⟨_, ((a0_5 != (wrap64 ((wrap64 (a0_0 + (ji20))) + 1)))), (by first | rfl | (simp; done) | (simp only [← hji20] <;> (first | rfl | simp)) | (simp [*]; done)), H', ⟨by have := HJ1.out; first | omega | exact Nat.le_refl _⟩, ⟨by (with_reducible repeat (first | refine Qm ?_ _ | refine Qw ?_ | refine Qk ?_ _)); exact BK330.out⟩, ⟨by repeat (first | (with_reducible first | exact HB.out | apply Qa | apply Qn | apply Qd | refine Qs ?_ GE330.out) | exact HB.out)⟩⟩
         ·rw [if_neg c19] at H
          exact absurd H (by simp)
        ·rw [if_neg c18] at H
         have c18b0 : (a0_3 == (wrap64 (a0_0 * a0_2))) = false := beq_eq_false_iff_ne.mpr c18
         have c18b1 : (a0_3 != (wrap64 (a0_0 * a0_2))) = true := bne_iff_ne.mpr c18
         (first | rw [c18b0] | (simp only [i64_w, i32_w]; rw [c18b0]) | skip)
         have H' := Qx H; clear H
         try go_wp2
         have n0_ := Qx (Qw BK330.out)
         have n1_ := Qx (Qd HB.out)
         clear BK330 HB; have BK330 := n0_; have HB := n1_; clear n0_ n1_
         refine start_ (n := 37) (S := fun w' => w'.cell? ⟨gb330, 0, none⟩ = some (.int .i64 a0_0) ∧ w'.cell? ⟨gb330, 1, none⟩ = some (.int .i64 a0_1) ∧ w'.cell? ⟨gb330, 2, none⟩ = some (.int .i64 a0_2) ∧ w'.cell? ⟨gb330, 3, none⟩ = some (.int .i64 a0_3) ∧ w'.cell? ⟨gb330, 4, none⟩ = some (.slice A0_4 l0_4.length c0_4) ∧ w'.cell? ⟨gb330, 5, none⟩ = some (.int .i64 a0_5) ∧ w'.cell? ⟨gb330, 6, none⟩ = some (.slice A0_6 l0_6.length c0_6)) (ds := []) #[false, false, false, false, false, false, false, false, false, false, false, false, false, false, false, false, false, false, false, false, false, false, false, false, false, false, false, false, false, false, false, false, false, false, false, false, false] (by kernel_rfl) rfl rfl ⟨(Qc BK330.out 0).trans rfl, (Qc BK330.out 1).trans rfl, (Qc BK330.out 2).trans rfl, (Qc BK330.out 3).trans rfl, (Qc BK330.out 4).trans rfl, (Qc BK330.out 5).trans rfl, (Qc BK330.out 6).trans rfl⟩ (fun hHeld => ?_); refine with_tabW spec_spGood.tab3 spec_spGood.bits3 (fun HT_ HW_ => ?_)
         generalize wc.drew = w24 at BK330 HB hHeld ⊢
         refine pq_ 0 25 37 1 HT_.out (by kernel_rfl) ?_
         refine tq_ 1 26 37 3 HT_.out HW_.out (by kernel_rfl) hHeld ?_ rfl (by rintro w' ⟨s0, s1, s2, s3, s4, s5, s6⟩; go_simp; with_reducible rfl)
         refine one_ (i := 2) (N := some 27) (bsA 37 7) rfl rfl (one_of HT_.out (by kernel_rfl)) (by decide) (fun K hK => ?_)
         refine goes_ Try.func95 (by kernel_rfl) rfl #[.agg #[.int .i64 a0_3, .slice A0_4 l0_4.length c0_4]] (by rfl) rfl rfl (by (try simp only [List.map_toArray, List.map_cons, List.map_nil]); first | done | rfl | (simp only [List.length_drop, List.length_take]; rfl)) ?_
         with_reducible refine (spec_biGood.calls kj1 a0_3 _ _ l0_4 true _ ?side1 ?side2 A14.out).mono ?_
         (case side1 => repeat (first | exact (Kd.C_below HR0_4.out HB.out) | (with_reducible refine Kd.C_alloc ?_ _) | (with_reducible refine Kd.C_drewN ?_ _) | (with_reducible refine Kd.C_drew ?_)))
         (case side2 => exact HC0_4.out)
         rintro e w25 ⟨rfl, hb⟩
         refine ⟨_, rfl, ?_⟩
         have n0_ := Qx (Qb (g := gb330) (by (with_reducible repeat (first | refine Qm ?_ _ | refine Qw ?_ | refine Qk ?_ _)); exact BK330.out) hb)
         have n1_ := Qx (Qp (by repeat (first | (with_reducible first | exact HB.out | apply Qa | apply Qn | apply Qd | refine Qs ?_ GE330.out) | exact HB.out)) hb)
         clear BK330 HB; have BK330 := n0_; have HB := n1_; clear n0_ n1_; (try clear hb); (try clear hb2); (try clear hk); (try clear hi)
         refine hK.out _ _ ⟨(Qc BK330.out 0).trans rfl, (Qc BK330.out 1).trans rfl, (Qc BK330.out 2).trans rfl, (Qc BK330.out 3).trans rfl, (Qc BK330.out 4).trans rfl, (Qc BK330.out 5).trans rfl, (Qc BK330.out 6).trans rfl⟩ (fun hHeld => ?_)
         clear hK K
         refine norm_ (a' := ?_) ?_ ?_
         rotate_left
         ·show Act.put _ (some 27) _ = _
          simp only [Act.put, List.setIfInBounds_toArray, List.set_cons_zero, List.set_cons_succ, i64_w]
          rfl
         refine pq_ 3 28 37 15 HT_.out (by kernel_rfl) ?_
         refine pq_ 4 29 37 31 HT_.out (by kernel_rfl) ?_
         refine pq_ 5 30 37 63 HT_.out (by kernel_rfl) ?_
         refine tq_ 6 31 37 127 HT_.out HW_.out (by kernel_rfl) hHeld ?_ rfl (by rintro w' ⟨s0, s1, s2, s3, s4, s5, s6⟩; go_simp; with_reducible rfl)
         refine one_ (i := 7) (N := some 32) (bsA 37 255) rfl rfl (one_of HT_.out (by kernel_rfl)) (by decide) (fun K hK => ?_)
         refine goes_ Try.func95 (by kernel_rfl) rfl #[.agg #[.int .i64 a0_5, .slice A0_6 l0_6.length c0_6]] (by rfl) rfl rfl (by (try simp only [List.map_toArray, List.map_cons, List.map_nil]); first | done | rfl | (simp only [List.length_drop, List.length_take]; rfl)) ?_
         with_reducible refine (spec_biGood.calls kj1 a0_5 _ _ l0_6 true _ ?side1 ?side2 A16.out).mono ?_
         (case side1 => repeat (first | exact (Kd.C_below HR0_6.out HB.out) | (with_reducible refine Kd.C_alloc ?_ _) | (with_reducible refine Kd.C_drewN ?_ _) | (with_reducible refine Kd.C_drew ?_)))
         (case side2 => exact HC0_6.out)
         rintro e w26 ⟨rfl, hb⟩
         refine ⟨_, rfl, ?_⟩
         have n0_ := Qx (Qb (g := gb330) (by (with_reducible repeat (first | refine Qm ?_ _ | refine Qw ?_ | refine Qk ?_ _)); exact BK330.out) hb)
         have n1_ := Qx (Qp (by repeat (first | (with_reducible first | exact HB.out | apply Qa | apply Qn | apply Qd | refine Qs ?_ GE330.out) | exact HB.out)) hb)
         clear BK330 HB; have BK330 := n0_; have HB := n1_; clear n0_ n1_; (try clear hb); (try clear hb2); (try clear hk); (try clear hi)
         refine hK.out _ _ ⟨(Qc BK330.out 0).trans rfl, (Qc BK330.out 1).trans rfl, (Qc BK330.out 2).trans rfl, (Qc BK330.out 3).trans rfl, (Qc BK330.out 4).trans rfl, (Qc BK330.out 5).trans rfl, (Qc BK330.out 6).trans rfl⟩ (fun hHeld => ?_)
         clear hK K
         refine norm_ (a' := ?_) ?_ ?_
         rotate_left
         ·show Act.put _ (some 32) _ = _
          simp only [Act.put, List.setIfInBounds_toArray, List.set_cons_zero, List.set_cons_succ, i64_w]
          rfl
         refine pq_ 8 33 37 511 HT_.out (by kernel_rfl) ?_
         refine pq_ 9 34 37 1023 HT_.out (by kernel_rfl) ?_
         refine pq_ 10 35 37 2047 HT_.out (by kernel_rfl) ?_
         refine pq_ 11 36 37 4095 HT_.out (by kernel_rfl) ?_
         refine pq_ 12 37 37 8191 HT_.out (by kernel_rfl) ?_
         refine pq_ 14 39 37 24575 HT_.out (by kernel_rfl) ?_
         refine pq_ 16 41 37 90111 HT_.out (by kernel_rfl) ?_
         refine tq_ 13 38 37 98303 HT_.out HW_.out (by kernel_rfl) hHeld ?_ rfl (by rintro w' ⟨s0, s1, s2, s3, s4, s5, s6⟩; go_simp; with_reducible rfl)
         refine tq_ 15 40 37 131071 HT_.out HW_.out (by kernel_rfl) hHeld ?_ rfl (by rintro w' ⟨s0, s1, s2, s3, s4, s5, s6⟩; go_simp; with_reducible rfl)
         refine tq_ 17 42 37 262143 HT_.out HW_.out (by kernel_rfl) hHeld ?_ rfl (by rintro w' ⟨s0, s1, s2, s3, s4, s5, s6⟩; go_simp; with_reducible rfl)
         refine pq_ 18 43 37 524287 HT_.out (by kernel_rfl) ?_
         refine pq_ 19 44 37 1048575 HT_.out (by kernel_rfl) ?_
         refine pq_ 20 45 37 2097151 HT_.out (by kernel_rfl) ?_
         refine pq_ 21 46 37 4194303 HT_.out (by kernel_rfl) ?_
         refine uq_ 22 47 37 8388607 HT_.out (by kernel_rfl) ?_
         refine uq_ 23 48 37 16777215 HT_.out (by kernel_rfl) ?_
         refine uq_ 24 49 37 33554431 HT_.out (by kernel_rfl) ?_
         refine uq_ 25 50 37 67108863 HT_.out (by kernel_rfl) ?_
         refine uq_ 26 51 37 134217727 HT_.out (by kernel_rfl) ?_
         refine uq_ 27 52 37 268435455 HT_.out (by kernel_rfl) ?_
         refine uq_ 28 53 37 536870911 HT_.out (by kernel_rfl) ?_
         refine uq_ 29 54 37 1073741823 HT_.out (by kernel_rfl) ?_
         refine uq_ 30 55 37 2147483647 HT_.out (by kernel_rfl) ?_
         refine uq_ 31 56 37 4294967295 HT_.out (by kernel_rfl) ?_
         refine uq_ 32 57 37 8589934591 HT_.out (by kernel_rfl) ?_
         refine uq_ 33 58 37 17179869183 HT_.out (by kernel_rfl) ?_
         refine uq_ 34 59 37 34359738367 HT_.out (by kernel_rfl) ?_
         refine uq_ 35 60 37 68719476735 HT_.out (by kernel_rfl) ?_
         refine pq_ 36 61 37 137438953471 HT_.out (by kernel_rfl) ?_
         refine done_ (done_of HT_.out (by kernel_rfl)) ?_
         try go_wp2
         go_meet
         case rel => exact ⟨_, (true), (by first | rfl | (simp; done) | (simp [*]; done)), H', ⟨by have := HJ1.out; first | omega | exact Nat.le_refl _⟩, ⟨by (with_reducible repeat (first | refine Qm ?_ _ | refine Qw ?_ | refine Qk ?_ _)); exact BK330.out⟩, ⟨by repeat (first | (with_reducible first | exact HB.out | apply Qa | apply Qn | apply Qd | refine Qs ?_ GE330.out) | exact HB.out)⟩⟩
       ·replace c17 := Bool.eq_false_iff.mpr c17; subst c17
        have H1 : (spec_spGood.j1 kj1 true a0_0 a0_1 a0_2 a0_3 l0_4 a0_5 l0_6) = some r := by rw [if_neg (show ¬ (false = true) by decide)] at H; exact H
        clear H; have H := H1; clear H1; have H' := Qx H; clear H
        try go_wp2
        have n0_ := Qx (Qw BK330.out)
        have n1_ := Qx (Qd HB.out)
        clear BK330 HB; have BK330 := n0_; have HB := n1_; clear n0_ n1_
        refine start_ (n := 37) (S := fun w' => w'.cell? ⟨gb330, 0, none⟩ = some (.int .i64 a0_0) ∧ w'.cell? ⟨gb330, 1, none⟩ = some (.int .i64 a0_1) ∧ w'.cell? ⟨gb330, 2, none⟩ = some (.int .i64 a0_2) ∧ w'.cell? ⟨gb330, 3, none⟩ = some (.int .i64 a0_3) ∧ w'.cell? ⟨gb330, 4, none⟩ = some (.slice A0_4 l0_4.length c0_4) ∧ w'.cell? ⟨gb330, 5, none⟩ = some (.int .i64 a0_5) ∧ w'.cell? ⟨gb330, 6, none⟩ = some (.slice A0_6 l0_6.length c0_6)) (ds := []) #[false, false, false, false, false, false, false, false, false, false, false, false, false, false, false, false, false, false, false, false, false, false, false, false, false, false, false, false, false, false, false, false, false, false, false, false, false] (by kernel_rfl) rfl rfl ⟨(Qc BK330.out 0).trans rfl, (Qc BK330.out 1).trans rfl, (Qc BK330.out 2).trans rfl, (Qc BK330.out 3).trans rfl, (Qc BK330.out 4).trans rfl, (Qc BK330.out 5).trans rfl, (Qc BK330.out 6).trans rfl⟩ (fun hHeld => ?_); refine with_tabW spec_spGood.tab3 spec_spGood.bits3 (fun HT_ HW_ => ?_)
        generalize wc.drew = w27 at BK330 HB hHeld ⊢
        refine pq_ 0 25 37 1 HT_.out (by kernel_rfl) ?_
        refine tq_ 1 26 37 3 HT_.out HW_.out (by kernel_rfl) hHeld ?_ rfl (by rintro w' ⟨s0, s1, s2, s3, s4, s5, s6⟩; go_simp; with_reducible rfl)
        refine one_ (i := 2) (N := some 27) (bsA 37 7) rfl rfl (one_of HT_.out (by kernel_rfl)) (by decide) (fun K hK => ?_)
        refine goes_ Try.func95 (by kernel_rfl) rfl #[.agg #[.int .i64 a0_3, .slice A0_4 l0_4.length c0_4]] (by rfl) rfl rfl (by (try simp only [List.map_toArray, List.map_cons, List.map_nil]); first | done | rfl | (simp only [List.length_drop, List.length_take]; rfl)) ?_
        with_reducible refine (spec_biGood.calls kj1 a0_3 _ _ l0_4 true _ ?side1 ?side2 A14.out).mono ?_
        (case side1 => repeat (first | exact (Kd.C_below HR0_4.out HB.out) | (with_reducible refine Kd.C_alloc ?_ _) | (with_reducible refine Kd.C_drewN ?_ _) | (with_reducible refine Kd.C_drew ?_)))
        (case side2 => exact HC0_4.out)
        rintro e w28 ⟨rfl, hb⟩
        refine ⟨_, rfl, ?_⟩
        have n0_ := Qx (Qb (g := gb330) (by (with_reducible repeat (first | refine Qm ?_ _ | refine Qw ?_ | refine Qk ?_ _)); exact BK330.out) hb)
        have n1_ := Qx (Qp (by repeat (first | (with_reducible first | exact HB.out | apply Qa | apply Qn | apply Qd | refine Qs ?_ GE330.out) | exact HB.out)) hb)
        clear BK330 HB; have BK330 := n0_; have HB := n1_; clear n0_ n1_; (try clear hb); (try clear hb2); (try clear hk); (try clear hi)
        refine hK.out _ _ ⟨(Qc BK330.out 0).trans rfl, (Qc BK330.out 1).trans rfl, (Qc BK330.out 2).trans rfl, (Qc BK330.out 3).trans rfl, (Qc BK330.out 4).trans rfl, (Qc BK330.out 5).trans rfl, (Qc BK330.out 6).trans rfl⟩ (fun hHeld => ?_)
        clear hK K
        refine norm_ (a' := ?_) ?_ ?_
        rotate_left
        ·show Act.put _ (some 27) _ = _
         simp only [Act.put, List.setIfInBounds_toArray, List.set_cons_zero, List.set_cons_succ, i64_w]
         rfl
        refine pq_ 3 28 37 15 HT_.out (by kernel_rfl) ?_
        refine pq_ 4 29 37 31 HT_.out (by kernel_rfl) ?_
        refine pq_ 5 30 37 63 HT_.out (by kernel_rfl) ?_
        refine tq_ 6 31 37 127 HT_.out HW_.out (by kernel_rfl) hHeld ?_ rfl (by rintro w' ⟨s0, s1, s2, s3, s4, s5, s6⟩; go_simp; with_reducible rfl)
        refine one_ (i := 7) (N := some 32) (bsA 37 255) rfl rfl (one_of HT_.out (by kernel_rfl)) (by decide) (fun K hK => ?_)
        refine goes_ Try.func95 (by kernel_rfl) rfl #[.agg #[.int .i64 a0_5, .slice A0_6 l0_6.length c0_6]] (by rfl) rfl rfl (by (try simp only [List.map_toArray, List.map_cons, List.map_nil]); first | done | rfl | (simp only [List.length_drop, List.length_take]; rfl)) ?_
        with_reducible refine (spec_biGood.calls kj1 a0_5 _ _ l0_6 false _ ?side1 ?side2 A16.out).mono ?_
        (case side1 => repeat (first | exact (Kd.C_below HR0_6.out HB.out) | (with_reducible refine Kd.C_alloc ?_ _) | (with_reducible refine Kd.C_drewN ?_ _) | (with_reducible refine Kd.C_drew ?_)))
        (case side2 => exact HC0_6.out)
        rintro e w29 ⟨rfl, hb⟩
        refine ⟨_, rfl, ?_⟩
        have n0_ := Qx (Qb (g := gb330) (by (with_reducible repeat (first | refine Qm ?_ _ | refine Qw ?_ | refine Qk ?_ _)); exact BK330.out) hb)
        have n1_ := Qx (Qp (by repeat (first | (with_reducible first | exact HB.out | apply Qa | apply Qn | apply Qd | refine Qs ?_ GE330.out) | exact HB.out)) hb)
        clear BK330 HB; have BK330 := n0_; have HB := n1_; clear n0_ n1_; (try clear hb); (try clear hb2); (try clear hk); (try clear hi)
        refine hK.out _ _ ⟨(Qc BK330.out 0).trans rfl, (Qc BK330.out 1).trans rfl, (Qc BK330.out 2).trans rfl, (Qc BK330.out 3).trans rfl, (Qc BK330.out 4).trans rfl, (Qc BK330.out 5).trans rfl, (Qc BK330.out 6).trans rfl⟩ (fun hHeld => ?_)
        clear hK K
        refine norm_ (a' := ?_) ?_ ?_
        rotate_left
        ·show Act.put _ (some 32) _ = _
         simp only [Act.put, List.setIfInBounds_toArray, List.set_cons_zero, List.set_cons_succ, i64_w]
         rfl
        refine pq_ 8 33 37 511 HT_.out (by kernel_rfl) ?_
        refine pq_ 9 34 37 1023 HT_.out (by kernel_rfl) ?_
        refine pq_ 10 35 37 2047 HT_.out (by kernel_rfl) ?_
        refine uq_ 11 36 37 4095 HT_.out (by kernel_rfl) ?_
        refine uq_ 12 37 37 8191 HT_.out (by kernel_rfl) ?_
        refine uq_ 13 38 37 16383 HT_.out (by kernel_rfl) ?_
        refine uq_ 14 39 37 32767 HT_.out (by kernel_rfl) ?_
        refine uq_ 15 40 37 65535 HT_.out (by kernel_rfl) ?_
        refine uq_ 16 41 37 131071 HT_.out (by kernel_rfl) ?_
        refine uq_ 17 42 37 262143 HT_.out (by kernel_rfl) ?_
        refine uq_ 18 43 37 524287 HT_.out (by kernel_rfl) ?_
        refine uq_ 19 44 37 1048575 HT_.out (by kernel_rfl) ?_
        refine pq_ 20 45 37 2097151 HT_.out (by kernel_rfl) ?_
        refine pq_ 21 46 37 4194303 HT_.out (by kernel_rfl) ?_
        refine uq_ 22 47 37 8388607 HT_.out (by kernel_rfl) ?_
        refine uq_ 23 48 37 16777215 HT_.out (by kernel_rfl) ?_
        refine uq_ 24 49 37 33554431 HT_.out (by kernel_rfl) ?_
        refine uq_ 25 50 37 67108863 HT_.out (by kernel_rfl) ?_
        refine uq_ 26 51 37 134217727 HT_.out (by kernel_rfl) ?_
        refine uq_ 27 52 37 268435455 HT_.out (by kernel_rfl) ?_
        refine uq_ 28 53 37 536870911 HT_.out (by kernel_rfl) ?_
        refine uq_ 29 54 37 1073741823 HT_.out (by kernel_rfl) ?_
        refine uq_ 30 55 37 2147483647 HT_.out (by kernel_rfl) ?_
        refine uq_ 31 56 37 4294967295 HT_.out (by kernel_rfl) ?_
        refine uq_ 32 57 37 8589934591 HT_.out (by kernel_rfl) ?_
        refine uq_ 33 58 37 17179869183 HT_.out (by kernel_rfl) ?_
        refine uq_ 34 59 37 34359738367 HT_.out (by kernel_rfl) ?_
        refine uq_ 35 60 37 68719476735 HT_.out (by kernel_rfl) ?_
        refine pq_ 36 61 37 137438953471 HT_.out (by kernel_rfl) ?_
        refine done_ (done_of HT_.out (by kernel_rfl)) ?_
        try go_wp2
        go_meet
        case rel => exact ⟨_, (true), (by first | rfl | (simp; done) | (simp [*]; done)), H', ⟨by have := HJ1.out; first | omega | exact Nat.le_refl _⟩, ⟨by (with_reducible repeat (first | refine Qm ?_ _ | refine Qw ?_ | refine Qk ?_ _)); exact BK330.out⟩, ⟨by repeat (first | (with_reducible first | exact HB.out | apply Qa | apply Qn | apply Qd | refine Qs ?_ GE330.out) | exact HB.out)⟩⟩
      ·replace c15 := Bool.eq_false_iff.mpr c15; subst c15
       have H1 : (spec_spGood.j1 kj1 true a0_0 a0_1 a0_2 a0_3 l0_4 a0_5 l0_6) = some r := by rw [if_neg (show ¬ (false = true) by decide)] at H; exact H
       clear H; have H := H1; clear H1; have H' := Qx H; clear H
       try go_wp2
       have n0_ := Qx (Qw BK330.out)
       have n1_ := Qx (Qd HB.out)
       clear BK330 HB; have BK330 := n0_; have HB := n1_; clear n0_ n1_
       refine start_ (n := 37) (S := fun w' => w'.cell? ⟨gb330, 0, none⟩ = some (.int .i64 a0_0) ∧ w'.cell? ⟨gb330, 1, none⟩ = some (.int .i64 a0_1) ∧ w'.cell? ⟨gb330, 2, none⟩ = some (.int .i64 a0_2) ∧ w'.cell? ⟨gb330, 3, none⟩ = some (.int .i64 a0_3) ∧ w'.cell? ⟨gb330, 4, none⟩ = some (.slice A0_4 l0_4.length c0_4) ∧ w'.cell? ⟨gb330, 5, none⟩ = some (.int .i64 a0_5) ∧ w'.cell? ⟨gb330, 6, none⟩ = some (.slice A0_6 l0_6.length c0_6)) (ds := []) #[false, false, false, false, false, false, false, false, false, false, false, false, false, false, false, false, false, false, false, false, false, false, false, false, false, false, false, false, false, false, false, false, false, false, false, false, false] (by kernel_rfl) rfl rfl ⟨(Qc BK330.out 0).trans rfl, (Qc BK330.out 1).trans rfl, (Qc BK330.out 2).trans rfl, (Qc BK330.out 3).trans rfl, (Qc BK330.out 4).trans rfl, (Qc BK330.out 5).trans rfl, (Qc BK330.out 6).trans rfl⟩ (fun hHeld => ?_); refine with_tabW spec_spGood.tab3 spec_spGood.bits3 (fun HT_ HW_ => ?_)
       generalize wc.drew = w30 at BK330 HB hHeld ⊢
       refine pq_ 0 25 37 1 HT_.out (by kernel_rfl) ?_
       refine tq_ 1 26 37 3 HT_.out HW_.out (by kernel_rfl) hHeld ?_ rfl (by rintro w' ⟨s0, s1, s2, s3, s4, s5, s6⟩; go_simp; with_reducible rfl)
       refine one_ (i := 2) (N := some 27) (bsA 37 7) rfl rfl (one_of HT_.out (by kernel_rfl)) (by decide) (fun K hK => ?_)
       refine goes_ Try.func95 (by kernel_rfl) rfl #[.agg #[.int .i64 a0_3, .slice A0_4 l0_4.length c0_4]] (by rfl) rfl rfl (by (try simp only [List.map_toArray, List.map_cons, List.map_nil]); first | done | rfl | (simp only [List.length_drop, List.length_take]; rfl)) ?_
       with_reducible refine (spec_biGood.calls kj1 a0_3 _ _ l0_4 false _ ?side1 ?side2 A14.out).mono ?_
       (case side1 => repeat (first | exact (Kd.C_below HR0_4.out HB.out) | (with_reducible refine Kd.C_alloc ?_ _) | (with_reducible refine Kd.C_drewN ?_ _) | (with_reducible refine Kd.C_drew ?_)))
       (case side2 => exact HC0_4.out)
       rintro e w31 ⟨rfl, hb⟩
       refine ⟨_, rfl, ?_⟩
       have n0_ := Qx (Qb (g := gb330) (by (with_reducible repeat (first | refine Qm ?_ _ | refine Qw ?_ | refine Qk ?_ _)); exact BK330.out) hb)
       have n1_ := Qx (Qp (by repeat (first | (with_reducible first | exact HB.out | apply Qa | apply Qn | apply Qd | refine Qs ?_ GE330.out) | exact HB.out)) hb)
       clear BK330 HB; have BK330 := n0_; have HB := n1_; clear n0_ n1_; (try clear hb); (try clear hb2); (try clear hk); (try clear hi)
       refine hK.out _ _ ⟨(Qc BK330.out 0).trans rfl, (Qc BK330.out 1).trans rfl, (Qc BK330.out 2).trans rfl, (Qc BK330.out 3).trans rfl, (Qc BK330.out 4).trans rfl, (Qc BK330.out 5).trans rfl, (Qc BK330.out 6).trans rfl⟩ (fun hHeld => ?_)
       clear hK K
       refine norm_ (a' := ?_) ?_ ?_
       rotate_left
       ·show Act.put _ (some 27) _ = _
        simp only [Act.put, List.setIfInBounds_toArray, List.set_cons_zero, List.set_cons_succ, i64_w]
        rfl
       refine pq_ 3 28 37 15 HT_.out (by kernel_rfl) ?_
       refine pq_ 4 29 37 31 HT_.out (by kernel_rfl) ?_
       refine uq_ 5 30 37 63 HT_.out (by kernel_rfl) ?_
       refine uq_ 6 31 37 127 HT_.out (by kernel_rfl) ?_
       refine uq_ 7 32 37 255 HT_.out (by kernel_rfl) ?_
       refine uq_ 8 33 37 511 HT_.out (by kernel_rfl) ?_
       refine pq_ 9 34 37 1023 HT_.out (by kernel_rfl) ?_
       refine pq_ 10 35 37 2047 HT_.out (by kernel_rfl) ?_
       refine uq_ 11 36 37 4095 HT_.out (by kernel_rfl) ?_
       refine uq_ 12 37 37 8191 HT_.out (by kernel_rfl) ?_
       refine uq_ 13 38 37 16383 HT_.out (by kernel_rfl) ?_
       refine uq_ 14 39 37 32767 HT_.out (by kernel_rfl) ?_
       refine uq_ 15 40 37 65535 HT_.out (by kernel_rfl) ?_
       refine uq_ 16 41 37 131071 HT_.out (by kernel_rfl) ?_
       refine uq_ 17 42 37 262143 HT_.out (by kernel_rfl) ?_
       refine uq_ 18 43 37 524287 HT_.out (by kernel_rfl) ?_
       refine uq_ 19 44 37 1048575 HT_.out (by kernel_rfl) ?_
       refine pq_ 20 45 37 2097151 HT_.out (by kernel_rfl) ?_
       refine pq_ 21 46 37 4194303 HT_.out (by kernel_rfl) ?_
       refine uq_ 22 47 37 8388607 HT_.out (by kernel_rfl) ?_
       refine uq_ 23 48 37 16777215 HT_.out (by kernel_rfl) ?_
       refine uq_ 24 49 37 33554431 HT_.out (by kernel_rfl) ?_
       refine uq_ 25 50 37 67108863 HT_.out (by kernel_rfl) ?_
       refine uq_ 26 51 37 134217727 HT_.out (by kernel_rfl) ?_
       refine uq_ 27 52 37 268435455 HT_.out (by kernel_rfl) ?_
       refine uq_ 28 53 37 536870911 HT_.out (by kernel_rfl) ?_
       refine uq_ 29 54 37 1073741823 HT_.out (by kernel_rfl) ?_
       refine uq_ 30 55 37 2147483647 HT_.out (by kernel_rfl) ?_
       refine uq_ 31 56 37 4294967295 HT_.out (by kernel_rfl) ?_
       refine uq_ 32 57 37 8589934591 HT_.out (by kernel_rfl) ?_
       refine uq_ 33 58 37 17179869183 HT_.out (by kernel_rfl) ?_
       refine uq_ 34 59 37 34359738367 HT_.out (by kernel_rfl) ?_
       refine uq_ 35 60 37 68719476735 HT_.out (by kernel_rfl) ?_
       refine pq_ 36 61 37 137438953471 HT_.out (by kernel_rfl) ?_
       refine done_ (done_of HT_.out (by kernel_rfl)) ?_
       try go_wp2
       go_meet
       case rel => exact ⟨_, (true), (by first | rfl | (simp; done) | (simp [*]; done)), H', ⟨by have := HJ1.out; first | omega | exact Nat.le_refl _⟩, ⟨by (with_reducible repeat (first | refine Qm ?_ _ | refine Qw ?_ | refine Qk ?_ _)); exact BK330.out⟩, ⟨by repeat (first | (with_reducible first | exact HB.out | apply Qa | apply Qn | apply Qd | refine Qs ?_ GE330.out) | exact HB.out)⟩⟩
     case rest =>
      clear HC13
      try clear c1
      try clear p2
      try clear c9
      try clear c15
      try clear c17
      obtain ⟨kq, x61_12, rfl, HA, HJ12, BK330, HB⟩ := hcut
      cases kq with
      | zero => exact absurd HA.out (by simp [spec_spGood.j1])
      | succ kj12 =>
       have H := HA.out; clear HA; simp only [spec_spGood.j1] at H
       by_cases c32 : x61_12 = true
       ·subst c32
        have H1 : (some false) = some r := by rw [if_pos rfl] at H; exact H
        clear H; have H := H1; clear H1; obtain rfl := Option.some.inj H
        go_wp2
        go_ret
        exact ⟨by first | rfl | (simp [errW_none, errW_some] <;> rfl) | (simp [*, errW_none, errW_some] <;> rfl), by repeat (first | (with_reducible first | exact HB.out | apply Qa | apply Qn | apply Qd | refine Qs ?_ GE330.out) | exact HB.out)⟩
       ·replace c32 := Bool.eq_false_iff.mpr c32; subst c32
        have H1 : ((spec_spList.f kj12 a0_0 a0_1 a0_2 a0_3 l0_4 a0_5 l0_6).bind fun t336 => (if (t336.length : Int) = a0_0 then ((spec_spSorted.f kj12 t336 a0_1).bind fun t339 => (spec_spGood.j2 kj12 t336 (!t339) a0_0 a0_1 a0_2 a0_3 l0_4 a0_5 l0_6)) else (spec_spGood.j2 kj12 t336 true a0_0 a0_1 a0_2 a0_3 l0_4 a0_5 l0_6))) = some r := by rw [if_neg (show ¬ (false = true) by decide)] at H; exact H
        clear H; have H := H1; clear H1; replace H := Option.bind_eq_some_iff.mp H; obtain ⟨t336, A330, H⟩ := H
        have A33 := Qx A330; clear A330; have HC34 := Qx H; clear H
        obtain ⟨hcz35_0, hcz35_1, hcz35_2, hcz35_3, hcz35_4, hcz35_5, hcz35_6, hfz35_0, hfz35_1, hfz35_2, hfz35_3, hfz35_4, hfz35_5, hfz35_6⟩ := cellsQ7_g3feb (w := wc) BK330.out
        go_upto_region 6 with (first | ((with_reducible refine gate_callee (f := 65) rfl ?_); refine goesL_ (some 63) rfl rfl Try.func65 (by kernel_rfl) rfl #[.agg #[.int .i64 a0_0, .int .i64 a0_1, .int .i64 a0_2, .int .i64 a0_3, .slice A0_4 l0_4.length c0_4, .int .i64 a0_5, .slice A0_6 l0_6.length c0_6]] rfl (by (try simp only [List.map_toArray, List.map_cons, List.map_nil]); first | done | rfl | (simp only [List.length_drop, List.length_take]; rfl)) ?_; (with_reducible refine (spec_spList.calls kj12 a0_0 a0_1 a0_2 a0_3 _ _ l0_4 a0_5 _ _ l0_6 t336 _ ?side1 ?side2 ?side3 ?side4 A33.out).mono ?_); (case side1 => repeat (first | exact (Kd.C_below HR0_4.out HB.out) | (with_reducible refine Kd.C_alloc ?_ _) | (with_reducible refine Kd.C_drewN ?_ _) | (with_reducible refine Kd.C_drew ?_))); (case side2 => exact HC0_4.out); (case side3 => repeat (first | exact (Kd.C_below HR0_6.out HB.out) | (with_reducible refine Kd.C_alloc ?_ _) | (with_reducible refine Kd.C_drewN ?_ _) | (with_reducible refine Kd.C_drew ?_))); (case side4 => exact HC0_6.out); rintro e w36 ⟨v337, rfl, ho0, hb⟩; refine ⟨_, rfl, ?_⟩; have n0_ := Qx (Kd.R_lower ho0 (Qz (by repeat (first | (with_reducible first | exact HB.out | apply Qa | apply Qn | apply Qd | refine Qs ?_ GE330.out) | exact HB.out)))); have n1_ := Qx (Qb (g := gb330) (by (with_reducible repeat (first | refine Qm ?_ _ | refine Qw ?_ | refine Qk ?_ _)); exact BK330.out) hb); have n2_ := Qx (Qp (by repeat (first | (with_reducible first | exact HB.out | apply Qa | apply Qn | apply Qd | refine Qs ?_ GE330.out) | exact HB.out)) hb); clear BK330 HB; have HO338 := n0_; have BK330 := n1_; have HB := n2_; clear n0_ n1_ n2_; (try clear hb); (try clear hb2); (try clear hk); (try clear hi); (try clear ho0)))
        (try simp only [Act.put, List.setIfInBounds_toArray, List.set_cons_zero, List.set_cons_succ])
        go_cut [75] (fun v75 wc => ∃ (kq : Nat) (x75_33 : Bool), v75 = .bool x75_33 ∧ Aside0 (spec_spGood.j2 kq t336 x75_33 a0_0 a0_1 a0_2 a0_3 l0_4 a0_5 l0_6 = some r) ∧ Aside0 (kq ≤ kj12) ∧ Aside0 (Kd.R (Kd.int .i64) 3 wc w.heap.size (fun _ => True) v337 t336) ∧ Aside0 (wc.heap[gb330]? = some (.cells #[.int .i64 a0_0, .int .i64 a0_1, .int .i64 a0_2, .int .i64 a0_3, (.slice A0_4 l0_4.length c0_4), .int .i64 a0_5, (.slice A0_6 l0_6.length c0_6)] 26 (0, 0))) ∧ Aside0 (Below w.heap.size w wc))
        case first =>
         have H := HC34.out; clear HC34
         by_cases c37 : (t336.length : Int) = a0_0
         ·rw [if_pos c37] at H
          have c37b0 : ((t336.length : Int) == a0_0) = true := beq_iff_eq.mpr c37
          have c37b1 : ((t336.length : Int) != a0_0) = false := bne_eq_false_iff_eq.mpr c37
          clear c37
          (first | rw [c37b0] | (simp only [i64_w, i32_w]; rw [c37b0]) | skip)
          replace H := Option.bind_eq_some_iff.mp H; obtain ⟨t339, A380, H⟩ := H
          have A38 := Qx A380; clear A380; have H' := Qx H; clear H; obtain ⟨Ao39, co39, eo39⟩ := Kd.R_slice HO338.out; subst eo39
          obtain ⟨hcz40_0, hcz40_1, hcz40_2, hcz40_3, hcz40_4, hcz40_5, hcz40_6, hfz40_0, hfz40_1, hfz40_2, hfz40_3, hfz40_4, hfz40_5, hfz40_6⟩ := cellsQ7_g3feb (w := w36) BK330.out
          go_wp2_with (first | (go_at_call 53; (with_reducible refine (spec_spSorted.calls kj12 _ _ t336 a0_1 t339 _ ?side1 ?side2 A38.out).mono ?_); (case side1 => repeat (first | exact (Kd.R_reads' HO338.out).2.2 | (with_reducible refine Kd.C_alloc ?_ _) | (with_reducible refine Kd.C_drewN ?_ _) | (with_reducible refine Kd.C_drew ?_))); (case side2 => exact (Kd.R_reads' HO338.out).2.1); rintro e w' ⟨rfl, ⟨nd, rfl⟩⟩))
          go_meet
          case rel => exact ⟨_, (!t339), (by first | rfl | (simp; done) | (simp [*]; done)), H', ⟨by have := HJ1.out; have := HJ12.out; first | omega | exact Nat.le_refl _⟩, ⟨by (with_reducible repeat (first | apply Qra | apply Qrn | apply Qrd)); exact HO338.out⟩, ⟨by (with_reducible repeat (first | refine Qm ?_ _ | refine Qw ?_ | refine Qk ?_ _)); exact BK330.out⟩, ⟨by repeat (first | (with_reducible first | exact HB.out | apply Qa | apply Qn | apply Qd | refine Qs ?_ GE330.out) | exact HB.out)⟩⟩
         ·rw [if_neg c37] at H
          have c37b0 : ((t336.length : Int) == a0_0) = false := beq_eq_false_iff_ne.mpr c37
          have c37b1 : ((t336.length : Int) != a0_0) = true := bne_iff_ne.mpr c37
          (first | rw [c37b0] | (simp only [i64_w, i32_w]; rw [c37b0]) | skip)
          have H' := Qx H; clear H; obtain ⟨Ao41, co41, eo41⟩ := Kd.R_slice HO338.out; subst eo41
          obtain ⟨hcz42_0, hcz42_1, hcz42_2, hcz42_3, hcz42_4, hcz42_5, hcz42_6, hfz42_0, hfz42_1, hfz42_2, hfz42_3, hfz42_4, hfz42_5, hfz42_6⟩ := cellsQ7_g3feb (w := w36) BK330.out
          go_wp2
          go_meet
          case rel => exact ⟨_, (true), (by first | rfl | (simp; done) | (simp [*]; done)), H', ⟨by have := HJ1.out; have := HJ12.out; first | omega | exact Nat.le_refl _⟩, ⟨by (with_reducible repeat (first | apply Qra | apply Qrn | apply Qrd)); exact HO338.out⟩, ⟨by (with_reducible repeat (first | refine Qm ?_ _ | refine Qw ?_ | refine Qk ?_ _)); exact BK330.out⟩, ⟨by repeat (first | (with_reducible first | exact HB.out | apply Qa | apply Qn | apply Qd | refine Qs ?_ GE330.out) | exact HB.out)⟩⟩
        case rest =>
         clear HC34
         try clear c1
         try clear p2
         try clear c3
         try clear c6
         try clear c9
         try clear c15
         try clear c17
         try clear c32
         try clear c37
         try clear c37b0
         try clear c37b1
         try clear hcz35_0
         try clear hcz35_1
         try clear hcz35_2
         try clear hcz35_3
         try clear hcz35_4
         try clear hcz35_5
         try clear hcz35_6
         try clear hcz40_0
         try clear hcz40_1
         try clear hcz40_2
         try clear hcz40_3
         try clear hcz40_4
         try clear hcz40_5
         try clear hcz40_6
         try clear hcz42_0
         try clear hcz42_1
         try clear hcz42_2
         try clear hcz42_3
         try clear hcz42_4
         try clear hcz42_5
         try clear hcz42_6
         try clear hfz35_0
         try clear hfz35_1
         try clear hfz35_2
         try clear hfz35_3
         try clear hfz35_4
         try clear hfz35_5
         try clear hfz35_6
         try clear hfz40_0
         try clear hfz40_1
         try clear hfz40_2
         try clear hfz40_3
         try clear hfz40_4
         try clear hfz40_5
         try clear hfz40_6
         try clear hfz42_0
         try clear hfz42_1
         try clear hfz42_2
         try clear hfz42_3
         try clear hfz42_4
         try clear hfz42_5
         try clear hfz42_6
         try clear p2
         obtain ⟨kq, x75_33, rfl, HA, HJ33, HO_3, BK330, HB⟩ := hcut
         cases kq with
         | zero => exact absurd HA.out (by simp [spec_spGood.j2])
         | succ kj33 =>
          have H := HA.out; clear HA; simp only [spec_spGood.j2] at H
          by_cases c43 : x75_33 = true
          ·subst c43
           have H1 : (some false) = some r := by rw [if_pos rfl] at H; exact H
           clear H; have H := H1; clear H1; obtain rfl := Option.some.inj H
           go_wp2
           go_ret
           exact ⟨by first | rfl | (simp [errW_none, errW_some] <;> rfl) | (simp [*, errW_none, errW_some] <;> rfl), by repeat (first | (with_reducible first | exact HB.out | apply Qa | apply Qn | apply Qd | refine Qs ?_ GE330.out) | exact HB.out)⟩
          ·replace c43 := Bool.eq_false_iff.mpr c43; subst c43
           have H1 : ((spec_spOf.f kj33 t336 a0_1).bind fun bt340 => ((spec_biSame.f kj33 a0_3 l0_4 bt340.2.2.2.1 bt340.2.2.2.2.1).bind fun t352 => (if t352 = true then ((spec_biSame.f kj33 a0_5 l0_6 bt340.2.2.2.2.2.1 bt340.2.2.2.2.2.2).bind fun t353 => (some t353)) else (some false)))) = some r := by rw [if_neg (show ¬ (false = true) by decide)] at H; exact H
           clear H; have H := H1; clear H1; replace H := Option.bind_eq_some_iff.mp H; obtain ⟨⟨t340, t341, t342, t343, t344, t347, t348⟩, A440, H⟩ := H
           have A44 := Qx A440; clear A440; replace H := Option.bind_eq_some_iff.mp H; obtain ⟨t352, A450, H⟩ := H
           have A45 := Qx A450; clear A450
           by_cases c46 : t352 = true
           ·subst c46
            have H1 : ((spec_biSame.f kj33 a0_5 l0_6 t347 t348).bind fun t353 => (some t353)) = some r := by rw [if_pos rfl] at H; exact H
            clear H; have H := H1; clear H1; replace H := Option.bind_eq_some_iff.mp H; obtain ⟨t353, A470, H⟩ := H
            have A47 := Qx A470; clear A470; obtain rfl := Option.some.inj H
            obtain ⟨hcz48_0, hcz48_1, hcz48_2, hcz48_3, hcz48_4, hcz48_5, hcz48_6, hfz48_0, hfz48_1, hfz48_2, hfz48_3, hfz48_4, hfz48_5, hfz48_6⟩ := cellsQ7_g3feb (w := wc) BK330.out
            obtain ⟨Ao49, co49, eo49⟩ := Kd.R_slice HO_3.out; subst eo49
            go_wp2_with (first | ((with_reducible refine gate_callee (f := 54) rfl ?_); refine goesL_ (some 79) rfl rfl Try.func54 (by kernel_rfl) rfl #[.slice Ao49 t336.length co49, .int .i64 a0_1] rfl (by (try simp only [List.map_toArray, List.map_cons, List.map_nil]); first | done | rfl | (simp only [List.length_drop, List.length_take]; rfl)) ?_; (with_reducible refine (spec_spOf.calls kj33 _ _ t336 a0_1 t340 t341 t342 t343 t344 t347 t348 _ ?side1 ?side2 A44.out).mono ?_); (case side1 => repeat (first | exact (Kd.R_reads' HO_3.out).2.2 | (with_reducible refine Kd.C_alloc ?_ _) | (with_reducible refine Kd.C_drewN ?_ _) | (with_reducible refine Kd.C_drew ?_))); (case side2 => exact (Kd.R_reads' HO_3.out).2.1); rintro e w50 ⟨v345, v349, rfl, ho0, ho1, hb⟩; refine ⟨_, rfl, ?_⟩; have n0_ := Qx (Qrm (Kd.R_told (Kd.R_told (Kd.R_old (by (with_reducible repeat (first | apply Qra | apply Qrn | apply Qrd)); exact HO_3.out) hb) (Kd.R_base ho0)) (Kd.R_base ho1)) (fun _ h_ => h_.1)); have n1_ := Qx (Kd.R_lower (Kd.R_new' ho0 (Kd.R_lt (by (with_reducible repeat (first | apply Qra | apply Qrn | apply Qrd)); exact HO_3.out))) (Qz (by repeat (first | (with_reducible first | exact HB.out | apply Qa | apply Qn | apply Qd | refine Qs ?_ GE330.out) | exact HB.out)))); have n2_ := Qx (Kd.R_lower (Kd.R_new' ho1 (Kd.R_lt (by (with_reducible repeat (first | apply Qra | apply Qrn | apply Qrd)); exact HO_3.out))) (Qz (by repeat (first | (with_reducible first | exact HB.out | apply Qa | apply Qn | apply Qd | refine Qs ?_ GE330.out) | exact HB.out)))); have n3_ := Qx (Qb (g := gb330) (by (with_reducible repeat (first | refine Qm ?_ _ | refine Qw ?_ | refine Qk ?_ _)); exact BK330.out) hb); have n4_ := Qx (Qp (by repeat (first | (with_reducible first | exact HB.out | apply Qa | apply Qn | apply Qd | refine Qs ?_ GE330.out) | exact HB.out)) hb); clear HO_3 BK330 HB; have HO_3 := n0_; have HO346 := n1_; have HO350 := n2_; have BK330 := n3_; have HB := n4_; clear n0_ n1_ n2_ n3_ n4_; (try clear hb); (try clear hb2); (try clear hk); (try clear hi); (try clear ho0); (try clear ho1)) | ((with_reducible refine gate_dst (N := 4) rfl ?_); refine box_event ?hg (N := 4) ?hd (cs := #[.int .i64 0, .int .i64 0, .int .i64 0, .int .i64 0, .slice none 0 0, .int .i64 0, .slice none 0 0]) (t := 26) ?hr ?_; (case hd => rfl); (case hg => rfl); (case hr => first | (go_simp; done) | (go_simp; rfl)); intro gb351 hg w51 hbox hb; have n0_ := Qx (Qrb (by (with_reducible repeat (first | apply Qra | apply Qrn | apply Qrd)); exact HO_3.out) hb); have n1_ := Qx (Qrb (by (with_reducible repeat (first | apply Qra | apply Qrn | apply Qrd)); exact HO346.out) hb); have n2_ := Qx (Qrb (by (with_reducible repeat (first | apply Qra | apply Qrn | apply Qrd)); exact HO350.out) hb); have n3_ := Qx (Qb (g := gb330) (by (with_reducible repeat (first | refine Qm ?_ _ | refine Qw ?_ | refine Qk ?_ _)); exact BK330.out) hb); have n4_ := Qx (Qp (by repeat (first | (with_reducible first | exact HB.out | apply Qa | apply Qn | apply Qd | refine Qs ?_ GE330.out) | exact HB.out)) hb); have n5_ := Qx (hbox); have n6_ := Qx ((by rw [hg]; exact (Qz (by repeat (first | (with_reducible first | exact HB.out | apply Qa | apply Qn | apply Qd | refine Qs ?_ GE330.out) | exact HB.out))) : w.heap.size ≤ gb351)); have n7_ := n6_; have n8_ := Qx ((by rw [hg]; exact Nat.ne_of_lt (blk_lt (g := gb330) (o := .cells #[.int .i64 a0_0, .int .i64 a0_1, .int .i64 a0_2, .int .i64 a0_3, .slice A0_4 l0_4.length c0_4, .int .i64 a0_5, .slice A0_6 l0_6.length c0_6] 26 (0, 0)) (by (with_reducible repeat (first | refine Qm ?_ _ | refine Qw ?_ | refine Qk ?_ _)); exact BK330.out)) : gb330 ≠ gb351)); have n9_ := Qx ((by rw [hg]; exact Nat.ne_of_gt (blk_lt (g := gb330) (o := .cells #[.int .i64 a0_0, .int .i64 a0_1, .int .i64 a0_2, .int .i64 a0_3, .slice A0_4 l0_4.length c0_4, .int .i64 a0_5, .slice A0_6 l0_6.length c0_6] 26 (0, 0)) (by (with_reducible repeat (first | refine Qm ?_ _ | refine Qw ?_ | refine Qk ?_ _)); exact BK330.out)) : gb351 ≠ gb330)); clear HO_3 HO346 HO350 BK330 HB; have HO_3 := n0_; have HO346 := n1_; have HO350 := n2_; have BK330 := n3_; have HB := n4_; have BK351 := n5_; have GW351 := n6_; have GE351 := n7_; have NB330_351 := n8_; have NB351_330 := n9_; clear n0_ n1_ n2_ n3_ n4_ n5_ n6_ n7_ n8_ n9_ hb hbox hg; have hnb52 := NB351_330.out; have hnc52 := NB330_351.out; obtain ⟨hcz53_0, hcz53_1, hcz53_2, hcz53_3, hcz53_4, hcz53_5, hcz53_6, hfz53_0, hfz53_1, hfz53_2, hfz53_3, hfz53_4, hfz53_5, hfz53_6⟩ := cellsQ7_g3feb (w := w51) BK351.out; obtain ⟨Ao54, co54, eo54⟩ := Kd.R_slice HO346.out; subst eo54; obtain ⟨Ao55, co55, eo55⟩ := Kd.R_slice HO350.out; subst eo55; obtain ⟨hcz56_0, hcz56_1, hcz56_2, hcz56_3, hcz56_4, hcz56_5, hcz56_6, hfz56_0, hfz56_1, hfz56_2, hfz56_3, hfz56_4, hfz56_5, hfz56_6⟩ := cellsQ7_g3feb (w := w51) BK330.out) | ((with_reducible refine gate_callee (f := 96) rfl ?_); refine goesL_ (some 84) rfl rfl Try.func96 (by kernel_rfl) rfl #[.agg #[.int .i64 a0_3, .slice A0_4 l0_4.length c0_4], .agg #[.int .i64 t343, .slice Ao54 t344.length co54]] rfl (by (try simp only [List.map_toArray, List.map_cons, List.map_nil]); first | done | rfl | (simp only [List.length_drop, List.length_take]; rfl)) ?_; (with_reducible refine (spec_biSame.calls kj33 a0_3 _ _ l0_4 t343 _ _ t344 true _ ?side1 ?side2 ?side3 ?side4 A45.out).mono ?_); (case side1 => exact Kd.C_below HR0_4.out (by repeat (first | (with_reducible first | exact HB.out | apply Qa | apply Qn | apply Qd | refine Qs ?_ GE330.out | refine Qs ?_ GE351.out) | exact HB.out))); (case side2 => exact HC0_4.out); (case side3 => refine (Kd.R_reads' (e := 3) (base := w.heap.size) (ok := fun k_ => (some k_ ≠ (.slice Ao55 t348.length co55 : Value).ownBlock ∧ some k_ ≠ (.slice Ao49 t336.length co49 : Value).ownBlock)) (n := t344.length) (c := co54) ?_).2.2; exact (by (with_reducible repeat (first | apply Qra | apply Qrn | apply Qrd)); exact (Qrm (farsQ7_g3feb (Kd.R_types HO346.out BK351.out (by decide)) (fun _ hk => hk.2) (.int .i64 t340) (.int .i64 t341) (.int .i64 t342) (.int .i64 t343) (.slice Ao54 t344.length co54) (.int .i64 t347) (.slice Ao55 t348.length co55)) (fun _ h_ => h_.1)))); (case side4 => exact (Kd.R_reads' HO346.out).2.1); rintro e w57 ⟨rfl, hb⟩; refine ⟨_, rfl, ?_⟩; have n0_ := Qx (Qrb (by (with_reducible repeat (first | apply Qra | apply Qrn | apply Qrd)); exact (Qrm (farsQ7_g3feb (Kd.R_types HO_3.out BK351.out (by decide)) (fun _ hk => hk.2) (.int .i64 t340) (.int .i64 t341) (.int .i64 t342) (.int .i64 t343) (.slice Ao54 t344.length co54) (.int .i64 t347) (.slice Ao55 t348.length co55)) (fun _ h_ => h_.1))) hb); have n1_ := Qx (Qrb (by (with_reducible repeat (first | apply Qra | apply Qrn | apply Qrd)); exact (Qrm (farsQ7_g3feb (Kd.R_types HO346.out BK351.out (by decide)) (fun _ hk => hk.2) (.int .i64 t340) (.int .i64 t341) (.int .i64 t342) (.int .i64 t343) (.slice Ao54 t344.length co54) (.int .i64 t347) (.slice Ao55 t348.length co55)) (fun _ h_ => h_.1))) hb); have n2_ := Qx (Qrb (by (with_reducible repeat (first | apply Qra | apply Qrn | apply Qrd)); exact (Qrm (farsQ7_g3feb (Kd.R_types HO350.out BK351.out (by decide)) (fun _ hk => hk.2) (.int .i64 t340) (.int .i64 t341) (.int .i64 t342) (.int .i64 t343) (.slice Ao54 t344.length co54) (.int .i64 t347) (.slice Ao55 t348.length co55)) (fun _ h_ => h_.1))) hb); have n3_ := Qx (Qb (g := gb330) (o := .cells #[.int .i64 a0_0, .int .i64 a0_1, .int .i64 a0_2, .int .i64 a0_3, .slice A0_4 l0_4.length c0_4, .int .i64 a0_5, .slice A0_6 l0_6.length c0_6] 26 (0, 0)) (by (with_reducible repeat (first | refine Qm ?_ _ | refine Qw ?_ | refine Qk ?_ _)); refine Qr ?_ NB330_351.out _; (with_reducible repeat (first | refine Qm ?_ _ | refine Qw ?_ | refine Qk ?_ _)); refine Qr ?_ NB330_351.out _; (with_reducible repeat (first | refine Qm ?_ _ | refine Qw ?_ | refine Qk ?_ _)); refine Qr ?_ NB330_351.out _; (with_reducible repeat (first | refine Qm ?_ _ | refine Qw ?_ | refine Qk ?_ _)); refine Qr ?_ NB330_351.out _; (with_reducible repeat (first | refine Qm ?_ _ | refine Qw ?_ | refine Qk ?_ _)); refine Qr ?_ NB330_351.out _; (with_reducible repeat (first | refine Qm ?_ _ | refine Qw ?_ | refine Qk ?_ _)); refine Qr ?_ NB330_351.out _; (with_reducible repeat (first | refine Qm ?_ _ | refine Qw ?_ | refine Qk ?_ _)); refine Qr ?_ NB330_351.out _; (with_reducible repeat (first | refine Qm ?_ _ | refine Qw ?_ | refine Qk ?_ _)); exact BK330.out) hb); have n4_ := Qx (Qb (g := gb351) (o := .cells #[.int .i64 t340, .int .i64 t341, .int .i64 t342, .int .i64 t343, .slice Ao54 t344.length co54, .int .i64 t347, .slice Ao55 t348.length co55] 26 (0, 0)) (by (with_reducible repeat (first | refine Qm ?_ _ | refine Qw ?_ | refine Qk ?_ _)); refine Qu (cs := #[.int .i64 t340, .int .i64 t341, .int .i64 t342, .int .i64 t343, .slice Ao54 t344.length co54, .int .i64 t347, .slice none 0 0]) ?_ 6 _ rfl; (with_reducible repeat (first | refine Qm ?_ _ | refine Qw ?_ | refine Qk ?_ _)); refine Qu (cs := #[.int .i64 t340, .int .i64 t341, .int .i64 t342, .int .i64 t343, .slice Ao54 t344.length co54, .int .i64 0, .slice none 0 0]) ?_ 5 _ rfl; (with_reducible repeat (first | refine Qm ?_ _ | refine Qw ?_ | refine Qk ?_ _)); refine Qu (cs := #[.int .i64 t340, .int .i64 t341, .int .i64 t342, .int .i64 t343, .slice none 0 0, .int .i64 0, .slice none 0 0]) ?_ 4 _ rfl; (with_reducible repeat (first | refine Qm ?_ _ | refine Qw ?_ | refine Qk ?_ _)); refine Qu (cs := #[.int .i64 t340, .int .i64 t341, .int .i64 t342, .int .i64 0, .slice none 0 0, .int .i64 0, .slice none 0 0]) ?_ 3 _ rfl; (with_reducible repeat (first | refine Qm ?_ _ | refine Qw ?_ | refine Qk ?_ _)); refine Qu (cs := #[.int .i64 t340, .int .i64 t341, .int .i64 0, .int .i64 0, .slice none 0 0, .int .i64 0, .slice none 0 0]) ?_ 2 _ rfl; (with_reducible repeat (first | refine Qm ?_ _ | refine Qw ?_ | refine Qk ?_ _)); refine Qu (cs := #[.int .i64 t340, .int .i64 0, .int .i64 0, .int .i64 0, .slice none 0 0, .int .i64 0, .slice none 0 0]) ?_ 1 _ rfl; (with_reducible repeat (first | refine Qm ?_ _ | refine Qw ?_ | refine Qk ?_ _)); refine Qu (cs := #[.int .i64 0, .int .i64 0, .int .i64 0, .int .i64 0, .slice none 0 0, .int .i64 0, .slice none 0 0]) ?_ 0 _ rfl; (with_reducible repeat (first | refine Qm ?_ _ | refine Qw ?_ | refine Qk ?_ _)); exact BK351.out) hb); have n5_ := Qx (Qp (by repeat (first | (with_reducible first | exact HB.out | apply Qa | apply Qn | apply Qd | refine Qs ?_ GE330.out | refine Qs ?_ GE351.out) | exact HB.out)) hb); clear HO_3 HO346 HO350 BK330 BK351 HB; have HO_3 := n0_; have HO346 := n1_; have HO350 := n2_; have BK330 := n3_; have BK351 := n4_; have HB := n5_; clear n0_ n1_ n2_ n3_ n4_ n5_; (try clear hb); (try clear hb2); (try clear hk); (try clear hi); obtain ⟨hcz58_0, hcz58_1, hcz58_2, hcz58_3, hcz58_4, hcz58_5, hcz58_6, hfz58_0, hfz58_1, hfz58_2, hfz58_3, hfz58_4, hfz58_5, hfz58_6⟩ := cellsQ7_g3feb (w := w57) BK330.out; obtain ⟨hcz59_0, hcz59_1, hcz59_2, hcz59_3, hcz59_4, hcz59_5, hcz59_6, hfz59_0, hfz59_1, hfz59_2, hfz59_3, hfz59_4, hfz59_5, hfz59_6⟩ := cellsQ7_g3feb (w := w57) BK351.out) | (go_at_call 96; (with_reducible refine (spec_biSame.calls kj33 a0_5 _ _ l0_6 t347 _ _ t348 t353 _ ?side1 ?side2 ?side3 ?side4 A47.out).mono ?_); (case side1 => repeat (first | exact (Kd.C_below HR0_6.out HB.out) | (with_reducible refine Kd.C_alloc ?_ _) | (with_reducible refine Kd.C_drewN ?_ _) | (with_reducible refine Kd.C_drew ?_))); (case side2 => exact HC0_6.out); (case side3 => repeat (first | exact (Kd.R_reads' HO350.out).2.2 | (with_reducible refine Kd.C_alloc ?_ _) | (with_reducible refine Kd.C_drewN ?_ _) | (with_reducible refine Kd.C_drew ?_))); (case side4 => exact (Kd.R_reads' HO350.out).2.1); rintro e w60 ⟨rfl, hb⟩; have n0_ := Qx (Qrb (by (with_reducible repeat (first | apply Qra | apply Qrn | apply Qrd)); exact HO_3.out) hb); have n1_ := Qx (Qrb (by (with_reducible repeat (first | apply Qra | apply Qrn | apply Qrd)); exact HO346.out) hb); have n2_ := Qx (Qrb (by (with_reducible repeat (first | apply Qra | apply Qrn | apply Qrd)); exact HO350.out) hb); have n3_ := Qx (Qb (g := gb330) (by (with_reducible repeat (first | refine Qm ?_ _ | refine Qw ?_ | refine Qk ?_ _)); exact BK330.out) hb); have n4_ := Qx (Qb (g := gb351) (by (with_reducible repeat (first | refine Qm ?_ _ | refine Qw ?_ | refine Qk ?_ _)); exact BK351.out) hb); have n5_ := Qx (Qp (by repeat (first | (with_reducible first | exact HB.out | apply Qa | apply Qn | apply Qd | refine Qs ?_ GE330.out | refine Qs ?_ GE351.out) | exact HB.out)) hb); clear HO_3 HO346 HO350 BK330 BK351 HB; have HO_3 := n0_; have HO346 := n1_; have HO350 := n2_; have BK330 := n3_; have BK351 := n4_; have HB := n5_; clear n0_ n1_ n2_ n3_ n4_ n5_; (try clear hb); (try clear hb2); (try clear hk); (try clear hi)))
            go_ret
            exact ⟨by first | rfl | (simp [errW_none, errW_some] <;> rfl) | (simp [*, errW_none, errW_some] <;> rfl), by repeat (first | (with_reducible first | exact HB.out | apply Qa | apply Qn | apply Qd | refine Qs ?_ GE330.out | refine Qs ?_ GE351.out) | exact HB.out)⟩
           ·replace c46 := Bool.eq_false_iff.mpr c46; subst c46
            have H1 : (some false) = some r := by rw [if_neg (show ¬ (false = true) by decide)] at H; exact H
            clear H; have H := H1; clear H1; obtain rfl := Option.some.inj H
            obtain ⟨hcz61_0, hcz61_1, hcz61_2, hcz61_3, hcz61_4, hcz61_5, hcz61_6, hfz61_0, hfz61_1, hfz61_2, hfz61_3, hfz61_4, hfz61_5, hfz61_6⟩ := cellsQ7_g3feb (w := wc) BK330.out
            obtain ⟨Ao62, co62, eo62⟩ := Kd.R_slice HO_3.out; subst eo62
            go_wp2_with (first | ((with_reducible refine gate_callee (f := 54) rfl ?_); refine goesL_ (some 79) rfl rfl Try.func54 (by kernel_rfl) rfl #[.slice Ao62 t336.length co62, .int .i64 a0_1] rfl (by (try simp only [List.map_toArray, List.map_cons, List.map_nil]); first | done | rfl | (simp only [List.length_drop, List.length_take]; rfl)) ?_; (with_reducible refine (spec_spOf.calls kj33 _ _ t336 a0_1 t340 t341 t342 t343 t344 t347 t348 _ ?side1 ?side2 A44.out).mono ?_); (case side1 => repeat (first | exact (Kd.R_reads' HO_3.out).2.2 | (with_reducible refine Kd.C_alloc ?_ _) | (with_reducible refine Kd.C_drewN ?_ _) | (with_reducible refine Kd.C_drew ?_))); (case side2 => exact (Kd.R_reads' HO_3.out).2.1); rintro e w63 ⟨v345, v349, rfl, ho0, ho1, hb⟩; refine ⟨_, rfl, ?_⟩; have n0_ := Qx (Qrm (Kd.R_told (Kd.R_told (Kd.R_old (by (with_reducible repeat (first | apply Qra | apply Qrn | apply Qrd)); exact HO_3.out) hb) (Kd.R_base ho0)) (Kd.R_base ho1)) (fun _ h_ => h_.1)); have n1_ := Qx (Kd.R_lower (Kd.R_new' ho0 (Kd.R_lt (by (with_reducible repeat (first | apply Qra | apply Qrn | apply Qrd)); exact HO_3.out))) (Qz (by repeat (first | (with_reducible first | exact HB.out | apply Qa | apply Qn | apply Qd | refine Qs ?_ GE330.out) | exact HB.out)))); have n2_ := Qx (Kd.R_lower (Kd.R_new' ho1 (Kd.R_lt (by (with_reducible repeat (first | apply Qra | apply Qrn | apply Qrd)); exact HO_3.out))) (Qz (by repeat (first | (with_reducible first | exact HB.out | apply Qa | apply Qn | apply Qd | refine Qs ?_ GE330.out) | exact HB.out)))); have n3_ := Qx (Qb (g := gb330) (by (with_reducible repeat (first | refine Qm ?_ _ | refine Qw ?_ | refine Qk ?_ _)); exact BK330.out) hb); have n4_ := Qx (Qp (by repeat (first | (with_reducible first | exact HB.out | apply Qa | apply Qn | apply Qd | refine Qs ?_ GE330.out) | exact HB.out)) hb); clear HO_3 BK330 HB; have HO_3 := n0_; have HO346 := n1_; have HO350 := n2_; have BK330 := n3_; have HB := n4_; clear n0_ n1_ n2_ n3_ n4_; (try clear hb); (try clear hb2); (try clear hk); (try clear hi); (try clear ho0); (try clear ho1)) | ((with_reducible refine gate_dst (N := 4) rfl ?_); refine box_event ?hg (N := 4) ?hd (cs := #[.int .i64 0, .int .i64 0, .int .i64 0, .int .i64 0, .slice none 0 0, .int .i64 0, .slice none 0 0]) (t := 26) ?hr ?_; (case hd => rfl); (case hg => rfl); (case hr => first | (go_simp; done) | (go_simp; rfl)); intro gb351 hg w64 hbox hb; have n0_ := Qx (Qrb (by (with_reducible repeat (first | apply Qra | apply Qrn | apply Qrd)); exact HO_3.out) hb); have n1_ := Qx (Qrb (by (with_reducible repeat (first | apply Qra | apply Qrn | apply Qrd)); exact HO346.out) hb); have n2_ := Qx (Qrb (by (with_reducible repeat (first | apply Qra | apply Qrn | apply Qrd)); exact HO350.out) hb); have n3_ := Qx (Qb (g := gb330) (by (with_reducible repeat (first | refine Qm ?_ _ | refine Qw ?_ | refine Qk ?_ _)); exact BK330.out) hb); have n4_ := Qx (Qp (by repeat (first | (with_reducible first | exact HB.out | apply Qa | apply Qn | apply Qd | refine Qs ?_ GE330.out) | exact HB.out)) hb); have n5_ := Qx (hbox); have n6_ := Qx ((by rw [hg]; exact (Qz (by repeat (first | (with_reducible first | exact HB.out | apply Qa | apply Qn | apply Qd | refine Qs ?_ GE330.out) | exact HB.out))) : w.heap.size ≤ gb351)); have n7_ := n6_; have n8_ := Qx ((by rw [hg]; exact Nat.ne_of_lt (blk_lt (g := gb330) (o := .cells #[.int .i64 a0_0, .int .i64 a0_1, .int .i64 a0_2, .int .i64 a0_3, .slice A0_4 l0_4.length c0_4, .int .i64 a0_5, .slice A0_6 l0_6.length c0_6] 26 (0, 0)) (by (with_reducible repeat (first | refine Qm ?_ _ | refine Qw ?_ | refine Qk ?_ _)); exact BK330.out)) : gb330 ≠ gb351)); have n9_ := Qx ((by rw [hg]; exact Nat.ne_of_gt (blk_lt (g := gb330) (o := .cells #[.int .i64 a0_0, .int .i64 a0_1, .int .i64 a0_2, .int .i64 a0_3, .slice A0_4 l0_4.length c0_4, .int .i64 a0_5, .slice A0_6 l0_6.length c0_6] 26 (0, 0)) (by (with_reducible repeat (first | refine Qm ?_ _ | refine Qw ?_ | refine Qk ?_ _)); exact BK330.out)) : gb351 ≠ gb330)); clear HO_3 HO346 HO350 BK330 HB; have HO_3 := n0_; have HO346 := n1_; have HO350 := n2_; have BK330 := n3_; have HB := n4_; have BK351 := n5_; have GW351 := n6_; have GE351 := n7_; have NB330_351 := n8_; have NB351_330 := n9_; clear n0_ n1_ n2_ n3_ n4_ n5_ n6_ n7_ n8_ n9_ hb hbox hg; have hnb65 := NB351_330.out; have hnc65 := NB330_351.out; obtain ⟨hcz66_0, hcz66_1, hcz66_2, hcz66_3, hcz66_4, hcz66_5, hcz66_6, hfz66_0, hfz66_1, hfz66_2, hfz66_3, hfz66_4, hfz66_5, hfz66_6⟩ := cellsQ7_g3feb (w := w64) BK351.out; obtain ⟨Ao67, co67, eo67⟩ := Kd.R_slice HO346.out; subst eo67; obtain ⟨Ao68, co68, eo68⟩ := Kd.R_slice HO350.out; subst eo68; obtain ⟨hcz69_0, hcz69_1, hcz69_2, hcz69_3, hcz69_4, hcz69_5, hcz69_6, hfz69_0, hfz69_1, hfz69_2, hfz69_3, hfz69_4, hfz69_5, hfz69_6⟩ := cellsQ7_g3feb (w := w64) BK330.out) | ((with_reducible refine gate_callee (f := 96) rfl ?_); refine goesL_ (some 84) rfl rfl Try.func96 (by kernel_rfl) rfl #[.agg #[.int .i64 a0_3, .slice A0_4 l0_4.length c0_4], .agg #[.int .i64 t343, .slice Ao67 t344.length co67]] rfl (by (try simp only [List.map_toArray, List.map_cons, List.map_nil]); first | done | rfl | (simp only [List.length_drop, List.length_take]; rfl)) ?_; (with_reducible refine (spec_biSame.calls kj33 a0_3 _ _ l0_4 t343 _ _ t344 false _ ?side1 ?side2 ?side3 ?side4 A45.out).mono ?_); (case side1 => exact Kd.C_below HR0_4.out (by repeat (first | (with_reducible first | exact HB.out | apply Qa | apply Qn | apply Qd | refine Qs ?_ GE330.out | refine Qs ?_ GE351.out) | exact HB.out))); (case side2 => exact HC0_4.out); (case side3 => refine (Kd.R_reads' (e := 3) (base := w.heap.size) (ok := fun k_ => (some k_ ≠ (.slice Ao68 t348.length co68 : Value).ownBlock ∧ some k_ ≠ (.slice Ao62 t336.length co62 : Value).ownBlock)) (n := t344.length) (c := co67) ?_).2.2; exact (by (with_reducible repeat (first | apply Qra | apply Qrn | apply Qrd)); exact (Qrm (farsQ7_g3feb (Kd.R_types HO346.out BK351.out (by decide)) (fun _ hk => hk.2) (.int .i64 t340) (.int .i64 t341) (.int .i64 t342) (.int .i64 t343) (.slice Ao67 t344.length co67) (.int .i64 t347) (.slice Ao68 t348.length co68)) (fun _ h_ => h_.1)))); (case side4 => exact (Kd.R_reads' HO346.out).2.1); rintro e w70 ⟨rfl, hb⟩; refine ⟨_, rfl, ?_⟩; have n0_ := Qx (Qrb (by (with_reducible repeat (first | apply Qra | apply Qrn | apply Qrd)); exact (Qrm (farsQ7_g3feb (Kd.R_types HO_3.out BK351.out (by decide)) (fun _ hk => hk.2) (.int .i64 t340) (.int .i64 t341) (.int .i64 t342) (.int .i64 t343) (.slice Ao67 t344.length co67) (.int .i64 t347) (.slice Ao68 t348.length co68)) (fun _ h_ => h_.1))) hb); have n1_ := Qx (Qrb (by (with_reducible repeat (first | apply Qra | apply Qrn | apply Qrd)); exact (Qrm (farsQ7_g3feb (Kd.R_types HO346.out BK351.out (by decide)) (fun _ hk => hk.2) (.int .i64 t340) (.int .i64 t341) (.int .i64 t342) (.int .i64 t343) (.slice Ao67 t344.length co67) (.int .i64 t347) (.slice Ao68 t348.length co68)) (fun _ h_ => h_.1))) hb); have n2_ := Qx (Qrb (by (with_reducible repeat (first | apply Qra | apply Qrn | apply Qrd)); exact (Qrm (farsQ7_g3feb (Kd.R_types HO350.out BK351.out (by decide)) (fun _ hk => hk.2) (.int .i64 t340) (.int .i64 t341) (.int .i64 t342) (.int .i64 t343) (.slice Ao67 t344.length co67) (.int .i64 t347) (.slice Ao68 t348.length co68)) (fun _ h_ => h_.1))) hb); have n3_ := Qx (Qb (g := gb330) (o := .cells #[.int .i64 a0_0, .int .i64 a0_1, .int .i64 a0_2, .int .i64 a0_3, .slice A0_4 l0_4.length c0_4, .int .i64 a0_5, .slice A0_6 l0_6.length c0_6] 26 (0, 0)) (by (with_reducible repeat (first | refine Qm ?_ _ | refine Qw ?_ | refine Qk ?_ _)); refine Qr ?_ NB330_351.out _; (with_reducible repeat (first | refine Qm ?_ _ | refine Qw ?_ | refine Qk ?_ _)); refine Qr ?_ NB330_351.out _; (with_reducible repeat (first | refine Qm ?_ _ | refine Qw ?_ | refine Qk ?_ _)); refine Qr ?_ NB330_351.out _; (with_reducible repeat (first | refine Qm ?_ _ | refine Qw ?_ | refine Qk ?_ _)); refine Qr ?_ NB330_351.out _; (with_reducible repeat (first | refine Qm ?_ _ | refine Qw ?_ | refine Qk ?_ _)); refine Qr ?_ NB330_351.out _; (with_reducible repeat (first | refine Qm ?_ _ | refine Qw ?_ | refine Qk ?_ _)); refine Qr ?_ NB330_351.out _; (with_reducible repeat (first | refine Qm ?_ _ | refine Qw ?_ | refine Qk ?_ _)); refine Qr ?_ NB330_351.out _; (with_reducible repeat (first | refine Qm ?_ _ | refine Qw ?_ | refine Qk ?_ _)); exact BK330.out) hb); have n4_ := Qx (Qb (g := gb351) (o := .cells #[.int .i64 t340, .int .i64 t341, .int .i64 t342, .int .i64 t343, .slice Ao67 t344.length co67, .int .i64 t347, .slice Ao68 t348.length co68] 26 (0, 0)) (by (with_reducible repeat (first | refine Qm ?_ _ | refine Qw ?_ | refine Qk ?_ _)); refine Qu (cs := #[.int .i64 t340, .int .i64 t341, .int .i64 t342, .int .i64 t343, .slice Ao67 t344.length co67, .int .i64 t347, .slice none 0 0]) ?_ 6 _ rfl; (with_reducible repeat (first | refine Qm ?_ _ | refine Qw ?_ | refine Qk ?_ _)); refine Qu (cs := #[.int .i64 t340, .int .i64 t341, .int .i64 t342, .int .i64 t343, .slice Ao67 t344.length co67, .int .i64 0, .slice none 0 0]) ?_ 5 _ rfl; (with_reducible repeat (first | refine Qm ?_ _ | refine Qw ?_ | refine Qk ?_ _)); refine Qu (cs := #[.int .i64 t340, .int .i64 t341, .int .i64 t342, .int .i64 t343, .slice none 0 0, .int .i64 0, .slice none 0 0]) ?_ 4 _ rfl; (with_reducible repeat (first | refine Qm ?_ _ | refine Qw ?_ | refine Qk ?_ _)); refine Qu (cs := #[.int .i64 t340, .int .i64 t341, .int .i64 t342, .int .i64 0, .slice none 0 0, .int .i64 0, .slice none 0 0]) ?_ 3 _ rfl; (with_reducible repeat (first | refine Qm ?_ _ | refine Qw ?_ | refine Qk ?_ _)); refine Qu (cs := #[.int .i64 t340, .int .i64 t341, .int .i64 0, .int .i64 0, .slice none 0 0, .int .i64 0, .slice none 0 0]) ?_ 2 _ rfl; (with_reducible repeat (first | refine Qm ?_ _ | refine Qw ?_ | refine Qk ?_ _)); refine Qu (cs := #[.int .i64 t340, .int .i64 0, .int .i64 0, .int .i64 0, .slice none 0 0, .int .i64 0, .slice none 0 0]) ?_ 1 _ rfl; (with_reducible repeat (first | refine Qm ?_ _ | refine Qw ?_ | refine Qk ?_ _)); refine Qu (cs := #[.int .i64 0, .int .i64 0, .int .i64 0, .int .i64 0, .slice none 0 0, .int .i64 0, .slice none 0 0]) ?_ 0 _ rfl; (with_reducible repeat (first | refine Qm ?_ _ | refine Qw ?_ | refine Qk ?_ _)); exact BK351.out) hb); have n5_ := Qx (Qp (by repeat (first | (with_reducible first | exact HB.out | apply Qa | apply Qn | apply Qd | refine Qs ?_ GE330.out | refine Qs ?_ GE351.out) | exact HB.out)) hb); clear HO_3 HO346 HO350 BK330 BK351 HB; have HO_3 := n0_; have HO346 := n1_; have HO350 := n2_; have BK330 := n3_; have BK351 := n4_; have HB := n5_; clear n0_ n1_ n2_ n3_ n4_ n5_; (try clear hb); (try clear hb2); (try clear hk); (try clear hi)))
            go_ret
            exact ⟨by first | rfl | (simp [errW_none, errW_some] <;> rfl) | (simp [*, errW_none, errW_some] <;> rfl), by repeat (first | (with_reducible first | exact HB.out | apply Qa | apply Qn | apply Qd | refine Qs ?_ GE330.out | refine Qs ?_ GE351.out) | exact HB.out)⟩
/-! ### laws_toBits: function 62 -/
def laws_toBits.f (k : Nat) (a0_0 : Int) (l0_1 : List Int) : Option (Int × List Int) := (laws_toIntS.f k l0_1).bind fun t359 => (some (a0_0, t359))
theorem laws_toBits.mono : ∀ a0 a1 k, LeO (laws_toBits.f k a0 a1) (laws_toBits.f (k + 1) a0 a1) := by
  intro a0 a1 k
  unfold laws_toBits.f
  repeat' first
      | (with_reducible exact laws_toIntS.mono _ _)
      | (with_reducible exact LeO.refl _)
      | (with_reducible exact LeO.none _)
      | (with_reducible refine LeO.ite ?_ ?_)
      | (with_reducible refine LeO.bind ?_ (fun _ => ?_))
      | exact laws_toIntS.mono _ _
      | exact LeO.none _
      | refine LeO.ite ?_ ?_
      | refine LeO.bind ?_ (fun _ => ?_)
noncomputable def laws_toBits.F (a0_0 : Int) (l0_1 : List Int) : Option (Int × List Int) := lim fun k => laws_toBits.f k a0_0 l0_1
theorem laws_toBits.F_sup (a0_0 : Int) (l0_1 : List Int) : Sup (fun k => laws_toBits.f k a0_0 l0_1) (laws_toBits.F a0_0 l0_1) := Sup.of_mono fun k => laws_toBits.mono a0_0 l0_1 k
theorem laws_toBits.F_eq (a0_0 : Int) (l0_1 : List Int) : laws_toBits.F a0_0 l0_1 = (laws_toIntS.F l0_1).bind fun t359 => (some (a0_0, t359)) := by
  refine Sup.unique (laws_toBits.F_sup a0_0 l0_1) (Sup.congr (g' := fun k => (laws_toIntS.f k l0_1).bind fun t359 => (some (a0_0, t359))) (fun k => by first | rfl | simp only [laws_toBits.f]) ?_)
  repeat' first
    | (with_reducible exact laws_toIntS.F_sup _)
    | (with_reducible refine Sup.ite ?_ ?_)
    | (with_reducible refine Sup.bind ?_ (fun _ => ?_))
    | (with_reducible exact Sup.const _)
    | exact laws_toIntS.F_sup _
    | exact Sup.const _
set_option maxHeartbeats 8000000 in
set_option maxRecDepth 100000 in
theorem laws_toBits.calls (k : Nat) (a0_0 : Int) (A0_1 : Option Addr) (c0_1 : Nat) (l0_1 : List Int) (r1 : Int) (r2 : List Int) (w : World) (hr0_1 : Kd.C (Kd.int .i64) w A0_1 l0_1.length l0_1) (hc0_1 : l0_1.length ≤ c0_1) (h : laws_toBits.f k a0_0 l0_1 = some (r1, r2)) :
    Calls Try.prog 62 #[.agg #[.int .i64 a0_0, .slice A0_1 l0_1.length c0_1]] w fun e w' => ∃ v1_ : Value, e = .returned (.agg #[.int .i64 r1, v1_]) ∧ Kd.R (Kd.int .i64) 3 w' w.heap.size (fun _ => True) v1_ r2 ∧ Below w.heap.size w w' := by
  have hu35 := Try.underlying35; have hu24 := Try.underlying24; have HR0_1 := Qx hr0_1; have HC0_1 := Qx hc0_1; clear hr0_1 hc0_1
  have HB := Qx (Below.refl w.heap.size w)
  have H : ((laws_toIntS.f k l0_1).bind fun t359 => (some (a0_0, t359))) = some (r1, r2) := h
  clear h; replace H := Option.bind_eq_some_iff.mp H; obtain ⟨t359, A20, H⟩ := H
  have A2 := Qx A20; clear A20; simp only [Option.some.injEq, Prod.mk.injEq] at H; obtain ⟨rfl, rfl⟩ := H
  go_enter Try.func62, Try.ntmps62
  go_wp2_with (first | ((with_reducible refine gate_dst (N := 1) rfl ?_); refine box_event ?hg (N := 1) ?hd (cs := #[.int .i64 a0_0, .slice A0_1 l0_1.length c0_1]) (t := 35) ?hr ?_; (case hd => rfl); (case hg => rfl); (case hr => first | (go_simp; done) | (go_simp; rfl)); intro gb356 hg w3 hbox hb; have n0_ := Qx (Qp (by repeat (first | (with_reducible first | exact HB.out | apply Qa | apply Qn | apply Qd) | exact HB.out)) hb); have n1_ := Qx (hbox); have n2_ := Qx ((by rw [hg]; exact (Qz (by repeat (first | (with_reducible first | exact HB.out | apply Qa | apply Qn | apply Qd) | exact HB.out))) : w.heap.size ≤ gb356)); have n3_ := n2_; clear HB; have HB := n0_; have BK356 := n1_; have GW356 := n2_; have GE356 := n3_; clear n0_ n1_ n2_ n3_ hb hbox hg) | ((with_reducible refine gate_dst (N := 2) rfl ?_); refine box_event ?hg (N := 2) ?hd (cs := #[.int .i64 0, .slice none 0 0]) (t := 24) ?hr ?_; (case hd => rfl); (case hg => rfl); (case hr => first | (go_simp; done) | (go_simp; rfl)); intro gb357 hg w4 hbox hb; have n0_ := Qx (Qb (g := gb356) (by (with_reducible repeat (first | refine Qm ?_ _ | refine Qw ?_ | refine Qk ?_ _)); exact BK356.out) hb); have n1_ := Qx (Qp (by repeat (first | (with_reducible first | exact HB.out | apply Qa | apply Qn | apply Qd | refine Qs ?_ GE356.out) | exact HB.out)) hb); have n2_ := Qx (hbox); have n3_ := Qx ((by rw [hg]; exact (Qz (by repeat (first | (with_reducible first | exact HB.out | apply Qa | apply Qn | apply Qd | refine Qs ?_ GE356.out) | exact HB.out))) : w.heap.size ≤ gb357)); have n4_ := n3_; have n5_ := Qx ((by rw [hg]; exact Nat.ne_of_lt (blk_lt (g := gb356) (o := .cells #[.int .i64 a0_0, .slice A0_1 l0_1.length c0_1] 35 (0, 0)) (by (with_reducible repeat (first | refine Qm ?_ _ | refine Qw ?_ | refine Qk ?_ _)); exact BK356.out)) : gb356 ≠ gb357)); have n6_ := Qx ((by rw [hg]; exact Nat.ne_of_gt (blk_lt (g := gb356) (o := .cells #[.int .i64 a0_0, .slice A0_1 l0_1.length c0_1] 35 (0, 0)) (by (with_reducible repeat (first | refine Qm ?_ _ | refine Qw ?_ | refine Qk ?_ _)); exact BK356.out)) : gb357 ≠ gb356)); clear BK356 HB; have BK356 := n0_; have HB := n1_; have BK357 := n2_; have GW357 := n3_; have GE357 := n4_; have NB356_357 := n5_; have NB357_356 := n6_; clear n0_ n1_ n2_ n3_ n4_ n5_ n6_ hb hbox hg) | ((with_reducible refine gate_dst (N := 3) rfl ?_); refine box_event ?hg (N := 3) ?hd (cs := #[.int .i64 0, .slice none 0 0]) (t := 24) ?hr ?_; (case hd => rfl); (case hg => rfl); (case hr => first | (go_simp; done) | (go_simp; rfl)); intro gb358 hg w5 hbox hb; have n0_ := Qx (Qb (g := gb356) (by (with_reducible repeat (first | refine Qm ?_ _ | refine Qw ?_ | refine Qk ?_ _)); exact BK356.out) hb); have n1_ := Qx (Qb (g := gb357) (by (with_reducible repeat (first | refine Qm ?_ _ | refine Qw ?_ | refine Qk ?_ _)); exact BK357.out) hb); have n2_ := Qx (Qp (by repeat (first | (with_reducible first | exact HB.out | apply Qa | apply Qn | apply Qd | refine Qs ?_ GE356.out | refine Qs ?_ GE357.out) | exact HB.out)) hb); have n3_ := Qx (hbox); have n4_ := Qx ((by rw [hg]; exact (Qz (by repeat (first | (with_reducible first | exact HB.out | apply Qa | apply Qn | apply Qd | refine Qs ?_ GE356.out | refine Qs ?_ GE357.out) | exact HB.out))) : w.heap.size ≤ gb358)); have n5_ := n4_; have n6_ := Qx ((by rw [hg]; exact Nat.ne_of_lt (blk_lt (g := gb356) (o := .cells #[.int .i64 a0_0, .slice A0_1 l0_1.length c0_1] 35 (0, 0)) (by (with_reducible repeat (first | refine Qm ?_ _ | refine Qw ?_ | refine Qk ?_ _)); exact BK356.out)) : gb356 ≠ gb358)); have n7_ := Qx ((by rw [hg]; exact Nat.ne_of_gt (blk_lt (g := gb356) (o := .cells #[.int .i64 a0_0, .slice A0_1 l0_1.length c0_1] 35 (0, 0)) (by (with_reducible repeat (first | refine Qm ?_ _ | refine Qw ?_ | refine Qk ?_ _)); exact BK356.out)) : gb358 ≠ gb356)); have n8_ := Qx ((by rw [hg]; exact Nat.ne_of_lt (blk_lt (g := gb357) (o := .cells #[.int .i64 0, .slice none 0 0] 24 (0, 0)) (by (with_reducible repeat (first | refine Qm ?_ _ | refine Qw ?_ | refine Qk ?_ _)); exact BK357.out)) : gb357 ≠ gb358)); have n9_ := Qx ((by rw [hg]; exact Nat.ne_of_gt (blk_lt (g := gb357) (o := .cells #[.int .i64 0, .slice none 0 0] 24 (0, 0)) (by (with_reducible repeat (first | refine Qm ?_ _ | refine Qw ?_ | refine Qk ?_ _)); exact BK357.out)) : gb358 ≠ gb357)); clear BK356 BK357 HB; have BK356 := n0_; have BK357 := n1_; have HB := n2_; have BK358 := n3_; have GW358 := n4_; have GE358 := n5_; have NB356_358 := n6_; have NB358_356 := n7_; have NB357_358 := n8_; have NB358_357 := n9_; clear n0_ n1_ n2_ n3_ n4_ n5_ n6_ n7_ n8_ n9_ hb hbox hg; have hnb6 := NB356_357.out; have hnc6 := NB357_356.out; have hnb7 := NB356_358.out; have hnc7 := NB358_356.out; obtain ⟨hcz8_0, hcz8_1, hfz8_0, hfz8_1⟩ := cellsQ2_g3feb (w := w5) BK356.out; have hnb9 := NB358_357.out; have hnc9 := NB357_358.out; obtain ⟨hcz10_0, hcz10_1, hfz10_0, hfz10_1⟩ := cellsQ2_g3feb (w := w5) BK358.out) | ((with_reducible refine gate_callee (f := 17) rfl ?_); refine goesL_ (some 9) rfl rfl Try.func17 (by kernel_rfl) rfl #[.slice A0_1 l0_1.length c0_1] rfl (by (try simp only [List.map_toArray, List.map_cons, List.map_nil]); first | done | rfl | (simp only [List.length_drop, List.length_take]; rfl)) ?_; (with_reducible refine (laws_toIntS.calls k _ _ l0_1 t359 _ ?side1 ?side2 A2.out).mono ?_); (case side1 => exact Kd.C_below HR0_1.out (by repeat (first | (with_reducible first | exact HB.out | apply Qa | apply Qn | apply Qd | refine Qs ?_ GE356.out | refine Qs ?_ GE357.out | refine Qs ?_ GE358.out) | exact HB.out))); (case side2 => exact HC0_1.out); rintro e w11 ⟨v360, rfl, ho0, hb⟩; refine ⟨_, rfl, ?_⟩; have n0_ := Qx (Kd.R_lower ho0 (Qz (by repeat (first | (with_reducible first | exact HB.out | apply Qa | apply Qn | apply Qd | refine Qs ?_ GE356.out | refine Qs ?_ GE357.out | refine Qs ?_ GE358.out) | exact HB.out)))); have n1_ := Qx (Qb (g := gb356) (o := .cells #[.int .i64 a0_0, .slice A0_1 l0_1.length c0_1] 35 (0, 0)) (by (with_reducible repeat (first | refine Qm ?_ _ | refine Qw ?_ | refine Qk ?_ _)); refine Qr ?_ NB356_358.out _; (with_reducible repeat (first | refine Qm ?_ _ | refine Qw ?_ | refine Qk ?_ _)); exact BK356.out) hb); have n2_ := Qx (Qb (g := gb357) (o := .cells #[.int .i64 0, .slice none 0 0] 24 (0, 0)) (by (with_reducible repeat (first | refine Qm ?_ _ | refine Qw ?_ | refine Qk ?_ _)); refine Qr ?_ NB357_358.out _; (with_reducible repeat (first | refine Qm ?_ _ | refine Qw ?_ | refine Qk ?_ _)); exact BK357.out) hb); have n3_ := Qx (Qb (g := gb358) (o := .cells #[.int .i64 a0_0, .slice none 0 0] 24 (0, 0)) (by (with_reducible repeat (first | refine Qm ?_ _ | refine Qw ?_ | refine Qk ?_ _)); refine Qu (cs := #[.int .i64 0, .slice none 0 0]) ?_ 0 _ rfl; (with_reducible repeat (first | refine Qm ?_ _ | refine Qw ?_ | refine Qk ?_ _)); exact BK358.out) hb); have n4_ := Qx (Qp (by repeat (first | (with_reducible first | exact HB.out | apply Qa | apply Qn | apply Qd | refine Qs ?_ GE356.out | refine Qs ?_ GE357.out | refine Qs ?_ GE358.out) | exact HB.out)) hb); clear BK356 BK357 BK358 HB; have HO361 := n0_; have BK356 := n1_; have BK357 := n2_; have BK358 := n3_; have HB := n4_; clear n0_ n1_ n2_ n3_ n4_; (try clear hb); (try clear hb2); (try clear hk); (try clear hi); (try clear ho0); obtain ⟨Ao12, co12, eo12⟩ := Kd.R_slice HO361.out; subst eo12; obtain ⟨hcz13_0, hcz13_1, hfz13_0, hfz13_1⟩ := cellsQ2_g3feb (w := w11) BK358.out; obtain ⟨hcz14_0, hcz14_1, hfz14_0, hfz14_1⟩ := cellsQ2_g3feb (w := w11) BK357.out))
  refine bodyPost_ret (results_cell_row rfl _ _ gb357 24 #[.int .i64 a0_0, .slice Ao12 t359.length co12] (0, 0) _ rfl (by (with_reducible repeat (first | refine Qm ?_ _ | refine Qw ?_ | refine Qk ?_ _)); refine Qu (cs := #[.int .i64 a0_0, .slice none 0 0]) ?_ 1 _ rfl; (with_reducible repeat (first | refine Qm ?_ _ | refine Qw ?_ | refine Qk ?_ _)); refine Qu (cs := #[.int .i64 0, .slice none 0 0]) ?_ 0 _ rfl; (with_reducible repeat (first | refine Qm ?_ _ | refine Qw ?_ | refine Qk ?_ _)); refine Qr ?_ NB357_358.out _; (with_reducible repeat (first | refine Qm ?_ _ | refine Qw ?_ | refine Qk ?_ _)); exact BK357.out) Try.underlying24 rfl (by kernel_rfl)) rfl ?_
  exact ⟨_, by first | rfl | (simp [errW_none, errW_some] <;> rfl) | (simp [*, errW_none, errW_some] <;> rfl), by (with_reducible repeat (first | apply Qra | apply Qrn | apply Qrd)); exact Qrm (Qrf (p := ⟨gb357, 1, none⟩) (Qrf (p := ⟨gb357, 0, none⟩) (Qrf (p := ⟨gb358, 1, none⟩) (Kd.R_types (Kd.R_types HO361.out BK358.out (by decide)) BK357.out (by decide)) (fun _ hk => hk.1.2) (.slice Ao12 t359.length co12)) (fun _ hk => hk.2) (.int .i64 a0_0)) (fun _ hk => hk.2) (.slice Ao12 t359.length co12)) (fun _ hk => trivial), by repeat (first | (with_reducible first | exact HB.out | apply Qa | apply Qn | apply Qd | refine Qs ?_ GE356.out | refine Qs ?_ GE357.out | refine Qs ?_ GE358.out) | exact HB.out)⟩
/-! ### laws_toSparse: function 26 -/
def laws_toSparse.f (k : Nat) (a0_0 : Int) (a0_1 : Int) (a0_2 : Int) (a0_3 : Int) (l0_4 : List Int) (a0_5 : Int) (l0_6 : List Int) : Option (Int × Int × Int × Int × List Int × Int × List Int) := (laws_toBits.f k a0_3 l0_4).bind fun bt365 => ((laws_toBits.f k a0_5 l0_6).bind fun bt369 => (some (a0_0, a0_1, a0_2, bt365.1, bt365.2, bt369.1, bt369.2)))
theorem laws_toSparse.mono : ∀ a0 a1 a2 a3 a4 a5 a6 k, LeO (laws_toSparse.f k a0 a1 a2 a3 a4 a5 a6) (laws_toSparse.f (k + 1) a0 a1 a2 a3 a4 a5 a6) := by
  intro a0 a1 a2 a3 a4 a5 a6 k
  unfold laws_toSparse.f
  repeat' first
      | (with_reducible exact laws_toBits.mono _ _ _)
      | (with_reducible exact LeO.refl _)
      | (with_reducible exact LeO.none _)
      | (with_reducible refine LeO.ite ?_ ?_)
      | (with_reducible refine LeO.bind ?_ (fun _ => ?_))
      | exact laws_toBits.mono _ _ _
      | exact LeO.none _
      | refine LeO.ite ?_ ?_
      | refine LeO.bind ?_ (fun _ => ?_)
noncomputable def laws_toSparse.F (a0_0 : Int) (a0_1 : Int) (a0_2 : Int) (a0_3 : Int) (l0_4 : List Int) (a0_5 : Int) (l0_6 : List Int) : Option (Int × Int × Int × Int × List Int × Int × List Int) := lim fun k => laws_toSparse.f k a0_0 a0_1 a0_2 a0_3 l0_4 a0_5 l0_6
theorem laws_toSparse.F_sup (a0_0 : Int) (a0_1 : Int) (a0_2 : Int) (a0_3 : Int) (l0_4 : List Int) (a0_5 : Int) (l0_6 : List Int) : Sup (fun k => laws_toSparse.f k a0_0 a0_1 a0_2 a0_3 l0_4 a0_5 l0_6) (laws_toSparse.F a0_0 a0_1 a0_2 a0_3 l0_4 a0_5 l0_6) := Sup.of_mono fun k => laws_toSparse.mono a0_0 a0_1 a0_2 a0_3 l0_4 a0_5 l0_6 k
theorem laws_toSparse.F_eq (a0_0 : Int) (a0_1 : Int) (a0_2 : Int) (a0_3 : Int) (l0_4 : List Int) (a0_5 : Int) (l0_6 : List Int) : laws_toSparse.F a0_0 a0_1 a0_2 a0_3 l0_4 a0_5 l0_6 = (laws_toBits.F a0_3 l0_4).bind fun bt365 => ((laws_toBits.F a0_5 l0_6).bind fun bt369 => (some (a0_0, a0_1, a0_2, bt365.1, bt365.2, bt369.1, bt369.2))) := by
  refine Sup.unique (laws_toSparse.F_sup a0_0 a0_1 a0_2 a0_3 l0_4 a0_5 l0_6) (Sup.congr (g' := fun k => (laws_toBits.f k a0_3 l0_4).bind fun bt365 => ((laws_toBits.f k a0_5 l0_6).bind fun bt369 => (some (a0_0, a0_1, a0_2, bt365.1, bt365.2, bt369.1, bt369.2)))) (fun k => by first | rfl | simp only [laws_toSparse.f]) ?_)
  repeat' first
    | (with_reducible exact laws_toBits.F_sup _ _)
    | (with_reducible refine Sup.ite ?_ ?_)
    | (with_reducible refine Sup.bind ?_ (fun _ => ?_))
    | (with_reducible exact Sup.const _)
    | exact laws_toBits.F_sup _ _
    | exact Sup.const _
set_option maxHeartbeats 8000000 in
set_option maxRecDepth 100000 in
theorem laws_toSparse.calls (k : Nat) (a0_0 : Int) (a0_1 : Int) (a0_2 : Int) (a0_3 : Int) (A0_4 : Option Addr) (c0_4 : Nat) (l0_4 : List Int) (a0_5 : Int) (A0_6 : Option Addr) (c0_6 : Nat) (l0_6 : List Int) (r1 : Int) (r2 : Int) (r3 : Int) (r4 : Int) (r5 : List Int) (r6 : Int) (r7 : List Int) (w : World) (hr0_4 : Kd.C (Kd.int .i64) w A0_4 l0_4.length l0_4) (hc0_4 : l0_4.length ≤ c0_4) (hr0_6 : Kd.C (Kd.int .i64) w A0_6 l0_6.length l0_6) (hc0_6 : l0_6.length ≤ c0_6) (h : laws_toSparse.f k a0_0 a0_1 a0_2 a0_3 l0_4 a0_5 l0_6 = some (r1, r2, r3, r4, r5, r6, r7)) :
    Calls Try.prog 26 #[.agg #[.int .i64 a0_0, .int .i64 a0_1, .int .i64 a0_2, .int .i64 a0_3, .slice A0_4 l0_4.length c0_4, .int .i64 a0_5, .slice A0_6 l0_6.length c0_6]] w fun e w' => ∃ v4_ v6_ : Value, e = .returned (.agg #[.int .i64 r1, .int .i64 r2, .int .i64 r3, .int .i64 r4, v4_, .int .i64 r6, v6_]) ∧ Kd.R (Kd.int .i64) 3 w' w.heap.size (fun k_ => some k_ ≠ (v6_ : Value).ownBlock) v4_ r5 ∧ Kd.R (Kd.int .i64) 3 w' w.heap.size (fun k_ => some k_ ≠ (v4_ : Value).ownBlock) v6_ r7 ∧ Below w.heap.size w w' := by
  have hu37 := Try.underlying37; have hu26 := Try.underlying26; have hu35 := Try.underlying35; have hu24 := Try.underlying24; have HR0_4 := Qx hr0_4; have HC0_4 := Qx hc0_4; clear hr0_4 hc0_4; have HR0_6 := Qx hr0_6; have HC0_6 := Qx hc0_6; clear hr0_6 hc0_6
  have HB := Qx (Below.refl w.heap.size w)
  have H : ((laws_toBits.f k a0_3 l0_4).bind fun bt365 => ((laws_toBits.f k a0_5 l0_6).bind fun bt369 => (some (a0_0, a0_1, a0_2, bt365.1, bt365.2, bt369.1, bt369.2)))) = some (r1, r2, r3, r4, r5, r6, r7) := h
  clear h; replace H := Option.bind_eq_some_iff.mp H; obtain ⟨⟨t365, t366⟩, A20, H⟩ := H
  have A2 := Qx A20; clear A20; replace H := Option.bind_eq_some_iff.mp H; obtain ⟨⟨t369, t370⟩, A30, H⟩ := H
  have A3 := Qx A30; clear A30; simp only [Option.some.injEq, Prod.mk.injEq] at H; obtain ⟨rfl, rfl, rfl, rfl, rfl, rfl, rfl⟩ := H
  go_enter Try.func26, Try.ntmps26
  go_wp2_with (first | ((with_reducible refine gate_dst (N := 1) rfl ?_); refine box_event ?hg (N := 1) ?hd (cs := #[.int .i64 a0_0, .int .i64 a0_1, .int .i64 a0_2, .int .i64 a0_3, .slice A0_4 l0_4.length c0_4, .int .i64 a0_5, .slice A0_6 l0_6.length c0_6]) (t := 37) ?hr ?_; (case hd => rfl); (case hg => rfl); (case hr => first | (go_simp; done) | (go_simp; rfl)); intro gb362 hg w4 hbox hb; have n0_ := Qx (Qp (by repeat (first | (with_reducible first | exact HB.out | apply Qa | apply Qn | apply Qd) | exact HB.out)) hb); have n1_ := Qx (hbox); have n2_ := Qx ((by rw [hg]; exact (Qz (by repeat (first | (with_reducible first | exact HB.out | apply Qa | apply Qn | apply Qd) | exact HB.out))) : w.heap.size ≤ gb362)); have n3_ := n2_; clear HB; have HB := n0_; have BK362 := n1_; have GW362 := n2_; have GE362 := n3_; clear n0_ n1_ n2_ n3_ hb hbox hg) | ((with_reducible refine gate_dst (N := 2) rfl ?_); refine box_event ?hg (N := 2) ?hd (cs := #[.int .i64 0, .int .i64 0, .int .i64 0, .int .i64 0, .slice none 0 0, .int .i64 0, .slice none 0 0]) (t := 26) ?hr ?_; (case hd => rfl); (case hg => rfl); (case hr => first | (go_simp; done) | (go_simp; rfl)); intro gb363 hg w5 hbox hb; have n0_ := Qx (Qb (g := gb362) (by (with_reducible repeat (first | refine Qm ?_ _ | refine Qw ?_ | refine Qk ?_ _)); exact BK362.out) hb); have n1_ := Qx (Qp (by repeat (first | (with_reducible first | exact HB.out | apply Qa | apply Qn | apply Qd | refine Qs ?_ GE362.out) | exact HB.out)) hb); have n2_ := Qx (hbox); have n3_ := Qx ((by rw [hg]; exact (Qz (by repeat (first | (with_reducible first | exact HB.out | apply Qa | apply Qn | apply Qd | refine Qs ?_ GE362.out) | exact HB.out))) : w.heap.size ≤ gb363)); have n4_ := n3_; have n5_ := Qx ((by rw [hg]; exact Nat.ne_of_lt (blk_lt (g := gb362) (o := .cells #[.int .i64 a0_0, .int .i64 a0_1, .int .i64 a0_2, .int .i64 a0_3, .slice A0_4 l0_4.length c0_4, .int .i64 a0_5, .slice A0_6 l0_6.length c0_6] 37 (0, 0)) (by (with_reducible repeat (first | refine Qm ?_ _ | refine Qw ?_ | refine Qk ?_ _)); exact BK362.out)) : gb362 ≠ gb363)); have n6_ := Qx ((by rw [hg]; exact Nat.ne_of_gt (blk_lt (g := gb362) (o := .cells #[.int .i64 a0_0, .int .i64 a0_1, .int .i64 a0_2, .int .i64 a0_3, .slice A0_4 l0_4.length c0_4, .int .i64 a0_5, .slice A0_6 l0_6.length c0_6] 37 (0, 0)) (by (with_reducible repeat (first | refine Qm ?_ _ | refine Qw ?_ | refine Qk ?_ _)); exact BK362.out)) : gb363 ≠ gb362)); clear BK362 HB; have BK362 := n0_; have HB := n1_; have BK363 := n2_; have GW363 := n3_; have GE363 := n4_; have NB362_363 := n5_; have NB363_362 := n6_; clear n0_ n1_ n2_ n3_ n4_ n5_ n6_ hb hbox hg) | ((with_reducible refine gate_dst (N := 3) rfl ?_); refine box_event ?hg (N := 3) ?hd (cs := #[.int .i64 0, .int .i64 0, .int .i64 0, .int .i64 0, .slice none 0 0, .int .i64 0, .slice none 0 0]) (t := 26) ?hr ?_; (case hd => rfl); (case hg => rfl); (case hr => first | (go_simp; done) | (go_simp; rfl)); intro gb364 hg w6 hbox hb; have n0_ := Qx (Qb (g := gb362) (by (with_reducible repeat (first | refine Qm ?_ _ | refine Qw ?_ | refine Qk ?_ _)); exact BK362.out) hb); have n1_ := Qx (Qb (g := gb363) (by (with_reducible repeat (first | refine Qm ?_ _ | refine Qw ?_ | refine Qk ?_ _)); exact BK363.out) hb); have n2_ := Qx (Qp (by repeat (first | (with_reducible first | exact HB.out | apply Qa | apply Qn | apply Qd | refine Qs ?_ GE362.out | refine Qs ?_ GE363.out) | exact HB.out)) hb); have n3_ := Qx (hbox); have n4_ := Qx ((by rw [hg]; exact (Qz (by repeat (first | (with_reducible first | exact HB.out | apply Qa | apply Qn | apply Qd | refine Qs ?_ GE362.out | refine Qs ?_ GE363.out) | exact HB.out))) : w.heap.size ≤ gb364)); have n5_ := n4_; have n6_ := Qx ((by rw [hg]; exact Nat.ne_of_lt (blk_lt (g := gb362) (o := .cells #[.int .i64 a0_0, .int .i64 a0_1, .int .i64 a0_2, .int .i64 a0_3, .slice A0_4 l0_4.length c0_4, .int .i64 a0_5, .slice A0_6 l0_6.length c0_6] 37 (0, 0)) (by (with_reducible repeat (first | refine Qm ?_ _ | refine Qw ?_ | refine Qk ?_ _)); exact BK362.out)) : gb362 ≠ gb364)); have n7_ := Qx ((by rw [hg]; exact Nat.ne_of_gt (blk_lt (g := gb362) (o := .cells #[.int .i64 a0_0, .int .i64 a0_1, .int .i64 a0_2, .int .i64 a0_3, .slice A0_4 l0_4.length c0_4, .int .i64 a0_5, .slice A0_6 l0_6.length c0_6] 37 (0, 0)) (by (with_reducible repeat (first | refine Qm ?_ _ | refine Qw ?_ | refine Qk ?_ _)); exact BK362.out)) : gb364 ≠ gb362)); have n8_ := Qx ((by rw [hg]; exact Nat.ne_of_lt (blk_lt (g := gb363) (o := .cells #[.int .i64 0, .int .i64 0, .int .i64 0, .int .i64 0, .slice none 0 0, .int .i64 0, .slice none 0 0] 26 (0, 0)) (by (with_reducible repeat (first | refine Qm ?_ _ | refine Qw ?_ | refine Qk ?_ _)); exact BK363.out)) : gb363 ≠ gb364)); have n9_ := Qx ((by rw [hg]; exact Nat.ne_of_gt (blk_lt (g := gb363) (o := .cells #[.int .i64 0, .int .i64 0, .int .i64 0, .int .i64 0, .slice none 0 0, .int .i64 0, .slice none 0 0] 26 (0, 0)) (by (with_reducible repeat (first | refine Qm ?_ _ | refine Qw ?_ | refine Qk ?_ _)); exact BK363.out)) : gb364 ≠ gb363)); clear BK362 BK363 HB; have BK362 := n0_; have BK363 := n1_; have HB := n2_; have BK364 := n3_; have GW364 := n4_; have GE364 := n5_; have NB362_364 := n6_; have NB364_362 := n7_; have NB363_364 := n8_; have NB364_363 := n9_; clear n0_ n1_ n2_ n3_ n4_ n5_ n6_ n7_ n8_ n9_ hb hbox hg; have hnb7 := NB362_363.out; have hnc7 := NB363_362.out; have hnb8 := NB362_364.out; have hnc8 := NB364_362.out; obtain ⟨hcz9_0, hcz9_1, hcz9_2, hcz9_3, hcz9_4, hcz9_5, hcz9_6, hfz9_0, hfz9_1, hfz9_2, hfz9_3, hfz9_4, hfz9_5, hfz9_6⟩ := cellsQ7_g3feb (w := w6) BK362.out; have hnb10 := NB364_363.out; have hnc10 := NB363_364.out; obtain ⟨hcz11_0, hcz11_1, hcz11_2, hcz11_3, hcz11_4, hcz11_5, hcz11_6, hfz11_0, hfz11_1, hfz11_2, hfz11_3, hfz11_4, hfz11_5, hfz11_6⟩ := cellsQ7_g3feb (w := w6) BK364.out) | ((with_reducible refine gate_callee (f := 62) rfl ?_); refine goesL_ (some 15) rfl rfl Try.func62 (by kernel_rfl) rfl #[.agg #[.int .i64 a0_3, .slice A0_4 l0_4.length c0_4]] rfl (by (try simp only [List.map_toArray, List.map_cons, List.map_nil]); first | done | rfl | (simp only [List.length_drop, List.length_take]; rfl)) ?_; (with_reducible refine (laws_toBits.calls k a0_3 _ _ l0_4 t365 t366 _ ?side1 ?side2 A2.out).mono ?_); (case side1 => exact Kd.C_below HR0_4.out (by repeat (first | (with_reducible first | exact HB.out | apply Qa | apply Qn | apply Qd | refine Qs ?_ GE362.out | refine Qs ?_ GE363.out | refine Qs ?_ GE364.out) | exact HB.out))); (case side2 => exact HC0_4.out); rintro e w12 ⟨v367, rfl, ho0, hb⟩; refine ⟨_, rfl, ?_⟩; have n0_ := Qx (Kd.R_lower ho0 (Qz (by repeat (first | (with_reducible first | exact HB.out | apply Qa | apply Qn | apply Qd | refine Qs ?_ GE362.out | refine Qs ?_ GE363.out | refine Qs ?_ GE364.out) | exact HB.out)))); have n1_ := Qx (Qb (g := gb362) (o := .cells #[.int .i64 a0_0, .int .i64 a0_1, .int .i64 a0_2, .int .i64 a0_3, .slice A0_4 l0_4.length c0_4, .int .i64 a0_5, .slice A0_6 l0_6.length c0_6] 37 (0, 0)) (by (with_reducible repeat (first | refine Qm ?_ _ | refine Qw ?_ | refine Qk ?_ _)); refine Qr ?_ NB362_364.out _; (with_reducible repeat (first | refine Qm ?_ _ | refine Qw ?_ | refine Qk ?_ _)); refine Qr ?_ NB362_364.out _; (with_reducible repeat (first | refine Qm ?_ _ | refine Qw ?_ | refine Qk ?_ _)); refine Qr ?_ NB362_364.out _; (with_reducible repeat (first | refine Qm ?_ _ | refine Qw ?_ | refine Qk ?_ _)); exact BK362.out) hb); have n2_ := Qx (Qb (g := gb363) (o := .cells #[.int .i64 0, .int .i64 0, .int .i64 0, .int .i64 0, .slice none 0 0, .int .i64 0, .slice none 0 0] 26 (0, 0)) (by (with_reducible repeat (first | refine Qm ?_ _ | refine Qw ?_ | refine Qk ?_ _)); refine Qr ?_ NB363_364.out _; (with_reducible repeat (first | refine Qm ?_ _ | refine Qw ?_ | refine Qk ?_ _)); refine Qr ?_ NB363_364.out _; (with_reducible repeat (first | refine Qm ?_ _ | refine Qw ?_ | refine Qk ?_ _)); refine Qr ?_ NB363_364.out _; (with_reducible repeat (first | refine Qm ?_ _ | refine Qw ?_ | refine Qk ?_ _)); exact BK363.out) hb); have n3_ := Qx (Qb (g := gb364) (o := .cells #[.int .i64 a0_0, .int .i64 a0_1, .int .i64 a0_2, .int .i64 0, .slice none 0 0, .int .i64 0, .slice none 0 0] 26 (0, 0)) (by (with_reducible repeat (first | refine Qm ?_ _ | refine Qw ?_ | refine Qk ?_ _)); refine Qu (cs := #[.int .i64 a0_0, .int .i64 a0_1, .int .i64 0, .int .i64 0, .slice none 0 0, .int .i64 0, .slice none 0 0]) ?_ 2 _ rfl; (with_reducible repeat (first | refine Qm ?_ _ | refine Qw ?_ | refine Qk ?_ _)); refine Qu (cs := #[.int .i64 a0_0, .int .i64 0, .int .i64 0, .int .i64 0, .slice none 0 0, .int .i64 0, .slice none 0 0]) ?_ 1 _ rfl; (with_reducible repeat (first | refine Qm ?_ _ | refine Qw ?_ | refine Qk ?_ _)); refine Qu (cs := #[.int .i64 0, .int .i64 0, .int .i64 0, .int .i64 0, .slice none 0 0, .int .i64 0, .slice none 0 0]) ?_ 0 _ rfl; (with_reducible repeat (first | refine Qm ?_ _ | refine Qw ?_ | refine Qk ?_ _)); exact BK364.out) hb); have n4_ := Qx (Qp (by repeat (first | (with_reducible first | exact HB.out | apply Qa | apply Qn | apply Qd | refine Qs ?_ GE362.out | refine Qs ?_ GE363.out | refine Qs ?_ GE364.out) | exact HB.out)) hb); clear BK362 BK363 BK364 HB; have HO368 := n0_; have BK362 := n1_; have BK363 := n2_; have BK364 := n3_; have HB := n4_; clear n0_ n1_ n2_ n3_ n4_; (try clear hb); (try clear hb2); (try clear hk); (try clear hi); (try clear ho0); obtain ⟨hcz13_0, hcz13_1, hcz13_2, hcz13_3, hcz13_4, hcz13_5, hcz13_6, hfz13_0, hfz13_1, hfz13_2, hfz13_3, hfz13_4, hfz13_5, hfz13_6⟩ := cellsQ7_g3feb (w := w12) BK364.out; obtain ⟨Ao14, co14, eo14⟩ := Kd.R_slice HO368.out; subst eo14; obtain ⟨hcz15_0, hcz15_1, hcz15_2, hcz15_3, hcz15_4, hcz15_5, hcz15_6, hfz15_0, hfz15_1, hfz15_2, hfz15_3, hfz15_4, hfz15_5, hfz15_6⟩ := cellsQ7_g3feb (w := w12) BK362.out) | ((with_reducible refine gate_callee (f := 62) rfl ?_); refine goesL_ (some 19) rfl rfl Try.func62 (by kernel_rfl) rfl #[.agg #[.int .i64 a0_5, .slice A0_6 l0_6.length c0_6]] rfl (by (try simp only [List.map_toArray, List.map_cons, List.map_nil]); first | done | rfl | (simp only [List.length_drop, List.length_take]; rfl)) ?_; (with_reducible refine (laws_toBits.calls k a0_5 _ _ l0_6 t369 t370 _ ?side1 ?side2 A3.out).mono ?_); (case side1 => exact Kd.C_below HR0_6.out (by repeat (first | (with_reducible first | exact HB.out | apply Qa | apply Qn | apply Qd | refine Qs ?_ GE362.out | refine Qs ?_ GE363.out | refine Qs ?_ GE364.out) | exact HB.out))); (case side2 => exact HC0_6.out); rintro e w16 ⟨v371, rfl, ho0, hb⟩; refine ⟨_, rfl, ?_⟩; have n0_ := Qx (Kd.R_elder' (by (with_reducible repeat (first | apply Qra | apply Qrn | apply Qrd)); exact (Qrm (Qrf (p := ⟨gb364, 4, none⟩) (Qrf (p := ⟨gb364, 3, none⟩) (Kd.R_types HO368.out BK364.out (by decide)) (fun _ hk => hk.2) (.int .i64 t365)) (fun _ hk => hk.2) (.slice Ao14 t366.length co14)) (fun _ h_ => h_.1))) (Kd.R_base ho0) hb); have n1_ := Qx (Kd.R_lower (Kd.R_new' ho0 (Kd.R_lt (by (with_reducible repeat (first | apply Qra | apply Qrn | apply Qrd)); exact (Qrm (Qrf (p := ⟨gb364, 4, none⟩) (Qrf (p := ⟨gb364, 3, none⟩) (Kd.R_types HO368.out BK364.out (by decide)) (fun _ hk => hk.2) (.int .i64 t365)) (fun _ hk => hk.2) (.slice Ao14 t366.length co14)) (fun _ h_ => h_.1))))) (Qz (by repeat (first | (with_reducible first | exact HB.out | apply Qa | apply Qn | apply Qd | refine Qs ?_ GE362.out | refine Qs ?_ GE363.out | refine Qs ?_ GE364.out) | exact HB.out)))); have n2_ := Qx (Qb (g := gb362) (o := .cells #[.int .i64 a0_0, .int .i64 a0_1, .int .i64 a0_2, .int .i64 a0_3, .slice A0_4 l0_4.length c0_4, .int .i64 a0_5, .slice A0_6 l0_6.length c0_6] 37 (0, 0)) (by (with_reducible repeat (first | refine Qm ?_ _ | refine Qw ?_ | refine Qk ?_ _)); refine Qr ?_ NB362_364.out _; (with_reducible repeat (first | refine Qm ?_ _ | refine Qw ?_ | refine Qk ?_ _)); refine Qr ?_ NB362_364.out _; (with_reducible repeat (first | refine Qm ?_ _ | refine Qw ?_ | refine Qk ?_ _)); exact BK362.out) hb); have n3_ := Qx (Qb (g := gb363) (o := .cells #[.int .i64 0, .int .i64 0, .int .i64 0, .int .i64 0, .slice none 0 0, .int .i64 0, .slice none 0 0] 26 (0, 0)) (by (with_reducible repeat (first | refine Qm ?_ _ | refine Qw ?_ | refine Qk ?_ _)); refine Qr ?_ NB363_364.out _; (with_reducible repeat (first | refine Qm ?_ _ | refine Qw ?_ | refine Qk ?_ _)); refine Qr ?_ NB363_364.out _; (with_reducible repeat (first | refine Qm ?_ _ | refine Qw ?_ | refine Qk ?_ _)); exact BK363.out) hb); have n4_ := Qx (Qb (g := gb364) (o := .cells #[.int .i64 a0_0, .int .i64 a0_1, .int .i64 a0_2, .int .i64 t365, .slice Ao14 t366.length co14, .int .i64 0, .slice none 0 0] 26 (0, 0)) (by (with_reducible repeat (first | refine Qm ?_ _ | refine Qw ?_ | refine Qk ?_ _)); refine Qu (cs := #[.int .i64 a0_0, .int .i64 a0_1, .int .i64 a0_2, .int .i64 t365, .slice none 0 0, .int .i64 0, .slice none 0 0]) ?_ 4 _ rfl; (with_reducible repeat (first | refine Qm ?_ _ | refine Qw ?_ | refine Qk ?_ _)); refine Qu (cs := #[.int .i64 a0_0, .int .i64 a0_1, .int .i64 a0_2, .int .i64 0, .slice none 0 0, .int .i64 0, .slice none 0 0]) ?_ 3 _ rfl; (with_reducible repeat (first | refine Qm ?_ _ | refine Qw ?_ | refine Qk ?_ _)); exact BK364.out) hb); have n5_ := Qx (Qp (by repeat (first | (with_reducible first | exact HB.out | apply Qa | apply Qn | apply Qd | refine Qs ?_ GE362.out | refine Qs ?_ GE363.out | refine Qs ?_ GE364.out) | exact HB.out)) hb); clear HO368 BK362 BK363 BK364 HB; have HO368 := n0_; have HO372 := n1_; have BK362 := n2_; have BK363 := n3_; have BK364 := n4_; have HB := n5_; clear n0_ n1_ n2_ n3_ n4_ n5_; (try clear hb); (try clear hb2); (try clear hk); (try clear hi); (try clear ho0); obtain ⟨hcz17_0, hcz17_1, hcz17_2, hcz17_3, hcz17_4, hcz17_5, hcz17_6, hfz17_0, hfz17_1, hfz17_2, hfz17_3, hfz17_4, hfz17_5, hfz17_6⟩ := cellsQ7_g3feb (w := w16) BK364.out; obtain ⟨Ao18, co18, eo18⟩ := Kd.R_slice HO372.out; subst eo18; obtain ⟨hcz19_0, hcz19_1, hcz19_2, hcz19_3, hcz19_4, hcz19_5, hcz19_6, hfz19_0, hfz19_1, hfz19_2, hfz19_3, hfz19_4, hfz19_5, hfz19_6⟩ := cellsQ7_g3feb (w := w16) BK363.out))
  refine bodyPost_ret (results_cell_row rfl _ _ gb363 26 #[.int .i64 a0_0, .int .i64 a0_1, .int .i64 a0_2, .int .i64 t365, .slice Ao14 t366.length co14, .int .i64 t369, .slice Ao18 t370.length co18] (0, 0) _ rfl (by (with_reducible repeat (first | refine Qm ?_ _ | refine Qw ?_ | refine Qk ?_ _)); refine Qu (cs := #[.int .i64 a0_0, .int .i64 a0_1, .int .i64 a0_2, .int .i64 t365, .slice Ao14 t366.length co14, .int .i64 t369, .slice none 0 0]) ?_ 6 _ rfl; (with_reducible repeat (first | refine Qm ?_ _ | refine Qw ?_ | refine Qk ?_ _)); refine Qu (cs := #[.int .i64 a0_0, .int .i64 a0_1, .int .i64 a0_2, .int .i64 t365, .slice Ao14 t366.length co14, .int .i64 0, .slice none 0 0]) ?_ 5 _ rfl; (with_reducible repeat (first | refine Qm ?_ _ | refine Qw ?_ | refine Qk ?_ _)); refine Qu (cs := #[.int .i64 a0_0, .int .i64 a0_1, .int .i64 a0_2, .int .i64 t365, .slice none 0 0, .int .i64 0, .slice none 0 0]) ?_ 4 _ rfl; (with_reducible repeat (first | refine Qm ?_ _ | refine Qw ?_ | refine Qk ?_ _)); refine Qu (cs := #[.int .i64 a0_0, .int .i64 a0_1, .int .i64 a0_2, .int .i64 0, .slice none 0 0, .int .i64 0, .slice none 0 0]) ?_ 3 _ rfl; (with_reducible repeat (first | refine Qm ?_ _ | refine Qw ?_ | refine Qk ?_ _)); refine Qu (cs := #[.int .i64 a0_0, .int .i64 a0_1, .int .i64 0, .int .i64 0, .slice none 0 0, .int .i64 0, .slice none 0 0]) ?_ 2 _ rfl; (with_reducible repeat (first | refine Qm ?_ _ | refine Qw ?_ | refine Qk ?_ _)); refine Qu (cs := #[.int .i64 a0_0, .int .i64 0, .int .i64 0, .int .i64 0, .slice none 0 0, .int .i64 0, .slice none 0 0]) ?_ 1 _ rfl; (with_reducible repeat (first | refine Qm ?_ _ | refine Qw ?_ | refine Qk ?_ _)); refine Qu (cs := #[.int .i64 0, .int .i64 0, .int .i64 0, .int .i64 0, .slice none 0 0, .int .i64 0, .slice none 0 0]) ?_ 0 _ rfl; (with_reducible repeat (first | refine Qm ?_ _ | refine Qw ?_ | refine Qk ?_ _)); refine Qr ?_ NB363_364.out _; (with_reducible repeat (first | refine Qm ?_ _ | refine Qw ?_ | refine Qk ?_ _)); refine Qr ?_ NB363_364.out _; (with_reducible repeat (first | refine Qm ?_ _ | refine Qw ?_ | refine Qk ?_ _)); exact BK363.out) Try.underlying26 rfl (by kernel_rfl)) rfl ?_
  exact ⟨_, _, by first | rfl | (simp [errW_none, errW_some] <;> rfl) | (simp [*, errW_none, errW_some] <;> rfl), by (with_reducible repeat (first | apply Qra | apply Qrn | apply Qrd)); exact Qrm (Qrf (p := ⟨gb363, 6, none⟩) (Qrf (p := ⟨gb363, 5, none⟩) (Qrf (p := ⟨gb363, 4, none⟩) (Qrf (p := ⟨gb363, 3, none⟩) (Qrf (p := ⟨gb363, 2, none⟩) (Qrf (p := ⟨gb363, 1, none⟩) (Qrf (p := ⟨gb363, 0, none⟩) (Qrf (p := ⟨gb364, 6, none⟩) (Qrf (p := ⟨gb364, 5, none⟩) (Kd.R_types (Kd.R_types HO368.out BK364.out (by decide)) BK363.out (by decide)) (fun _ hk => hk.1.2) (.int .i64 t369)) (fun _ hk => hk.1.2) (.slice Ao18 t370.length co18)) (fun _ hk => hk.2) (.int .i64 a0_0)) (fun _ hk => hk.2) (.int .i64 a0_1)) (fun _ hk => hk.2) (.int .i64 a0_2)) (fun _ hk => hk.2) (.int .i64 t365)) (fun _ hk => hk.2) (.slice Ao14 t366.length co14)) (fun _ hk => hk.2) (.int .i64 t369)) (fun _ hk => hk.2) (.slice Ao18 t370.length co18)) (fun _ hk => hk.1.1.2), by (with_reducible repeat (first | apply Qra | apply Qrn | apply Qrd)); exact Qrm (Qrf (p := ⟨gb363, 6, none⟩) (Qrf (p := ⟨gb363, 5, none⟩) (Qrf (p := ⟨gb363, 4, none⟩) (Qrf (p := ⟨gb363, 3, none⟩) (Qrf (p := ⟨gb363, 2, none⟩) (Qrf (p := ⟨gb363, 1, none⟩) (Qrf (p := ⟨gb363, 0, none⟩) (Qrf (p := ⟨gb364, 6, none⟩) (Qrf (p := ⟨gb364, 5, none⟩) (Kd.R_types (Kd.R_types HO372.out BK364.out (by decide)) BK363.out (by decide)) (fun _ hk => hk.1.2) (.int .i64 t369)) (fun _ hk => hk.1.2) (.slice Ao18 t370.length co18)) (fun _ hk => hk.2) (.int .i64 a0_0)) (fun _ hk => hk.2) (.int .i64 a0_1)) (fun _ hk => hk.2) (.int .i64 a0_2)) (fun _ hk => hk.2) (.int .i64 t365)) (fun _ hk => hk.2) (.slice Ao14 t366.length co14)) (fun _ hk => hk.2) (.int .i64 t369)) (fun _ hk => hk.2) (.slice Ao18 t370.length co18)) (fun _ hk => hk.1.1.2), by repeat (first | (with_reducible first | exact HB.out | apply Qa | apply Qn | apply Qd | refine Qs ?_ GE362.out | refine Qs ?_ GE363.out | refine Qs ?_ GE364.out) | exact HB.out)⟩
/-! ### impl_IsBits: function 97 -/
mutual
def impl_IsBits.j0 : Nat → Bool → Int → List Int → Option (Bool)
  | 0, _, _, _ => none
  | k + 1, x18, x374000, x374001 => if x18 = true then (some false) else (impl_IsBits.l0 k x374001 (x374001.length : Int) 0 x374000 x374001)
def impl_IsBits.l0 : Nat → List Int → Int → Int → Int → List Int → Option (Bool)
  | 0, _, _, _, _, _ => none
  | k + 1, x20, x21, x22, x374000, x374001 => if x22 < x21 then (if 0 ≤ x22 then (if x22 < (x20.length : Int) then ((impl_in.f (rd x20 x22) 0 65535).bind fun t377 => (if t377 = true then (impl_IsBits.l0 k x20 x21 (wrap64 (x22 + 1)) x374000 x374001) else (some false))) else (none)) else (none)) else (if (Int.tmod x374000 16) = 0 then (some true) else (if 0 ≤ (wrap64 ((x374001.length : Int) - 1)) then (if (wrap64 ((x374001.length : Int) - 1)) < (x374001.length : Int) then (if 0 ≤ (Int.tmod x374000 16) then (some ((shr .i64 (rd x374001 (wrap64 ((x374001.length : Int) - 1))) (Int.tmod x374000 16)) == 0)) else (none)) else (none)) else (none)))
end
def impl_IsBits.f (k : Nat) (a0_0 : Int) (l0_1 : List Int) : Option (Bool) := (impl_in.f a0_0 0 4096).bind fun t374 => (if t374 = true then ((impl_words.f a0_0).bind fun t375 => (impl_IsBits.j0 k ((l0_1.length : Int) != t375) a0_0 l0_1)) else (impl_IsBits.j0 k true a0_0 l0_1))
theorem impl_IsBits.mono_l : ∀ k, (∀ y0 y1 y2, LeO (impl_IsBits.j0 k y0 y1 y2) (impl_IsBits.j0 (k + 1) y0 y1 y2)) ∧ (∀ y0 y1 y2 y3 y4, LeO (impl_IsBits.l0 k y0 y1 y2 y3 y4) (impl_IsBits.l0 (k + 1) y0 y1 y2 y3 y4))
  | 0 => ⟨fun _ _ _ r h => by simp [impl_IsBits.j0] at h, fun _ _ _ _ _ r h => by simp [impl_IsBits.l0] at h⟩
  | k + 1 => by
    obtain ⟨ih0, ih1⟩ := impl_IsBits.mono_l k
    refine ⟨?_, ?_⟩
    · intro y0 y1 y2
      unfold impl_IsBits.j0
      repeat' first
      | (with_reducible exact ih0 _ _ _)
      | (with_reducible exact ih1 _ _ _ _ _)
      | (with_reducible exact LeO.refl _)
      | (with_reducible exact LeO.none _)
      | (with_reducible refine LeO.ite ?_ ?_)
      | (with_reducible refine LeO.bind ?_ (fun _ => ?_))
      | exact ih0 _ _ _
      | exact ih1 _ _ _ _ _
      | exact LeO.none _
      | refine LeO.ite ?_ ?_
      | refine LeO.bind ?_ (fun _ => ?_)
    · intro y0 y1 y2 y3 y4
      unfold impl_IsBits.l0
      repeat' first
      | (with_reducible exact ih0 _ _ _)
      | (with_reducible exact ih1 _ _ _ _ _)
      | (with_reducible exact LeO.refl _)
      | (with_reducible exact LeO.none _)
      | (with_reducible refine LeO.ite ?_ ?_)
      | (with_reducible refine LeO.bind ?_ (fun _ => ?_))
      | exact ih0 _ _ _
      | exact ih1 _ _ _ _ _
      | exact LeO.none _
      | refine LeO.ite ?_ ?_
      | refine LeO.bind ?_ (fun _ => ?_)
theorem impl_IsBits.mono : ∀ a0 a1 k, LeO (impl_IsBits.f k a0 a1) (impl_IsBits.f (k + 1) a0 a1) := by
  intro a0 a1 k
  obtain ⟨ih0, ih1⟩ := impl_IsBits.mono_l k
  unfold impl_IsBits.f
  repeat' first
      | (with_reducible exact ih0 _ _ _)
      | (with_reducible exact ih1 _ _ _ _ _)
      | (with_reducible exact LeO.refl _)
      | (with_reducible exact LeO.none _)
      | (with_reducible refine LeO.ite ?_ ?_)
      | (with_reducible refine LeO.bind ?_ (fun _ => ?_))
      | exact ih0 _ _ _
      | exact ih1 _ _ _ _ _
      | exact LeO.none _
      | refine LeO.ite ?_ ?_
      | refine LeO.bind ?_ (fun _ => ?_)
noncomputable def impl_IsBits.J0 (y0 : Bool) (y1 : Int) (y2 : List Int) : Option (Bool) := lim fun k => impl_IsBits.j0 k y0 y1 y2
theorem impl_IsBits.J0_sup (y0 : Bool) (y1 : Int) (y2 : List Int) : Sup (fun k => impl_IsBits.j0 k y0 y1 y2) (impl_IsBits.J0 y0 y1 y2) := Sup.of_mono fun k => (impl_IsBits.mono_l k).1 y0 y1 y2
noncomputable def impl_IsBits.L0 (y0 : List Int) (y1 : Int) (y2 : Int) (y3 : Int) (y4 : List Int) : Option (Bool) := lim fun k => impl_IsBits.l0 k y0 y1 y2 y3 y4
theorem impl_IsBits.L0_sup (y0 : List Int) (y1 : Int) (y2 : Int) (y3 : Int) (y4 : List Int) : Sup (fun k => impl_IsBits.l0 k y0 y1 y2 y3 y4) (impl_IsBits.L0 y0 y1 y2 y3 y4) := Sup.of_mono fun k => (impl_IsBits.mono_l k).2 y0 y1 y2 y3 y4
noncomputable def impl_IsBits.F (a0_0 : Int) (l0_1 : List Int) : Option (Bool) := lim fun k => impl_IsBits.f k a0_0 l0_1
theorem impl_IsBits.F_sup (a0_0 : Int) (l0_1 : List Int) : Sup (fun k => impl_IsBits.f k a0_0 l0_1) (impl_IsBits.F a0_0 l0_1) := Sup.of_mono fun k => impl_IsBits.mono a0_0 l0_1 k
theorem impl_IsBits.J0_eq (x18 : Bool) (x374000 : Int) (x374001 : List Int) : impl_IsBits.J0 x18 x374000 x374001 = if x18 = true then (some false) else (impl_IsBits.L0 x374001 (x374001.length : Int) 0 x374000 x374001) := by
  refine Sup.unique (impl_IsBits.J0_sup x18 x374000 x374001) (Sup.shift (fun k => (impl_IsBits.mono_l k).1 x18 x374000 x374001) (Sup.congr (g' := fun k => if x18 = true then (some false) else (impl_IsBits.l0 k x374001 (x374001.length : Int) 0 x374000 x374001)) (fun k => by first | rfl | simp only [impl_IsBits.j0]) ?_))
  repeat' first
    | (with_reducible exact impl_IsBits.J0_sup _ _ _)
    | (with_reducible exact impl_IsBits.L0_sup _ _ _ _ _)
    | (with_reducible refine Sup.ite ?_ ?_)
    | (with_reducible refine Sup.bind ?_ (fun _ => ?_))
    | (with_reducible exact Sup.const _)
    | exact impl_IsBits.J0_sup _ _ _
    | exact impl_IsBits.L0_sup _ _ _ _ _
    | exact Sup.const _
theorem impl_IsBits.L0_eq (x20 : List Int) (x21 : Int) (x22 : Int) (x374000 : Int) (x374001 : List Int) : impl_IsBits.L0 x20 x21 x22 x374000 x374001 = if x22 < x21 then (if 0 ≤ x22 then (if x22 < (x20.length : Int) then ((impl_in.f (rd x20 x22) 0 65535).bind fun t377 => (if t377 = true then (impl_IsBits.L0 x20 x21 (wrap64 (x22 + 1)) x374000 x374001) else (some false))) else (none)) else (none)) else (if (Int.tmod x374000 16) = 0 then (some true) else (if 0 ≤ (wrap64 ((x374001.length : Int) - 1)) then (if (wrap64 ((x374001.length : Int) - 1)) < (x374001.length : Int) then (if 0 ≤ (Int.tmod x374000 16) then (some ((shr .i64 (rd x374001 (wrap64 ((x374001.length : Int) - 1))) (Int.tmod x374000 16)) == 0)) else (none)) else (none)) else (none))) := by
  refine Sup.unique (impl_IsBits.L0_sup x20 x21 x22 x374000 x374001) (Sup.shift (fun k => (impl_IsBits.mono_l k).2 x20 x21 x22 x374000 x374001) (Sup.congr (g' := fun k => if x22 < x21 then (if 0 ≤ x22 then (if x22 < (x20.length : Int) then ((impl_in.f (rd x20 x22) 0 65535).bind fun t377 => (if t377 = true then (impl_IsBits.l0 k x20 x21 (wrap64 (x22 + 1)) x374000 x374001) else (some false))) else (none)) else (none)) else (if (Int.tmod x374000 16) = 0 then (some true) else (if 0 ≤ (wrap64 ((x374001.length : Int) - 1)) then (if (wrap64 ((x374001.length : Int) - 1)) < (x374001.length : Int) then (if 0 ≤ (Int.tmod x374000 16) then (some ((shr .i64 (rd x374001 (wrap64 ((x374001.length : Int) - 1))) (Int.tmod x374000 16)) == 0)) else (none)) else (none)) else (none)))) (fun k => by first | rfl | simp only [impl_IsBits.l0]) ?_))
  repeat' first
    | (with_reducible exact impl_IsBits.J0_sup _ _ _)
    | (with_reducible exact impl_IsBits.L0_sup _ _ _ _ _)
    | (with_reducible refine Sup.ite ?_ ?_)
    | (with_reducible refine Sup.bind ?_ (fun _ => ?_))
    | (with_reducible exact Sup.const _)
    | exact impl_IsBits.J0_sup _ _ _
    | exact impl_IsBits.L0_sup _ _ _ _ _
    | exact Sup.const _
theorem impl_IsBits.F_eq (a0_0 : Int) (l0_1 : List Int) : impl_IsBits.F a0_0 l0_1 = (impl_in.f a0_0 0 4096).bind fun t374 => (if t374 = true then ((impl_words.f a0_0).bind fun t375 => (impl_IsBits.J0 ((l0_1.length : Int) != t375) a0_0 l0_1)) else (impl_IsBits.J0 true a0_0 l0_1)) := by
  refine Sup.unique (impl_IsBits.F_sup a0_0 l0_1) (Sup.congr (g' := fun k => (impl_in.f a0_0 0 4096).bind fun t374 => (if t374 = true then ((impl_words.f a0_0).bind fun t375 => (impl_IsBits.j0 k ((l0_1.length : Int) != t375) a0_0 l0_1)) else (impl_IsBits.j0 k true a0_0 l0_1))) (fun k => by first | rfl | simp only [impl_IsBits.f]) ?_)
  repeat' first
    | (with_reducible exact impl_IsBits.J0_sup _ _ _)
    | (with_reducible exact impl_IsBits.L0_sup _ _ _ _ _)
    | (with_reducible refine Sup.ite ?_ ?_)
    | (with_reducible refine Sup.bind ?_ (fun _ => ?_))
    | (with_reducible exact Sup.const _)
    | exact impl_IsBits.J0_sup _ _ _
    | exact impl_IsBits.L0_sup _ _ _ _ _
    | exact Sup.const _
set_option maxHeartbeats 8000000 in
set_option maxRecDepth 100000 in
theorem impl_IsBits.calls (k : Nat) (a0_0 : Int) (A0_1 : Option Addr) (c0_1 : Nat) (l0_1 : List Int) (r : Bool) (w : World) (hr0_1 : Kd.C (Kd.int .i64) w A0_1 l0_1.length l0_1) (hc0_1 : l0_1.length ≤ c0_1) (h : impl_IsBits.f k a0_0 l0_1 = some r) :
    Calls Try.prog 97 #[.agg #[.int .i64 a0_0, .slice A0_1 l0_1.length c0_1]] w fun e w' => e = .returned (.bool r) ∧ Below w.heap.size w w' := by
  have hu24 := Try.underlying24; have HR0_1 := Qx hr0_1; have HC0_1 := Qx hc0_1; clear hr0_1 hc0_1
  have HB := Qx (Below.refl w.heap.size w)
  have H : ((impl_in.f a0_0 0 4096).bind fun t374 => (if t374 = true then ((impl_words.f a0_0).bind fun t375 => (impl_IsBits.j0 k ((l0_1.length : Int) != t375) a0_0 l0_1)) else (impl_IsBits.j0 k true a0_0 l0_1))) = some r := h
  clear h; have HC2 := Qx H; clear H
  go_enter Try.func97, Try.ntmps97
  go_upto_region 1 with (first | ((with_reducible refine gate_dst (N := 1) rfl ?_); (try (refine gate_guard (by rfl) ?_; dsimp only)); refine box_event ?hg (N := 1) ?hd (cs := #[.int .i64 a0_0, .slice A0_1 l0_1.length c0_1]) (t := 24) ?hr ?_; (case hd => rfl); (case hg => rfl); (case hr => first | (go_simp; done) | (go_simp; rfl)); intro gb373 hg w3 hbox hb; have n0_ := Qx (Qp (by repeat (first | (with_reducible first | exact HB.out | apply Qa | apply Qn | apply Qd) | exact HB.out)) hb); have n1_ := Qx (hbox); have n2_ := Qx ((by rw [hg]; exact (Qz (by repeat (first | (with_reducible first | exact HB.out | apply Qa | apply Qn | apply Qd) | exact HB.out))) : w.heap.size ≤ gb373)); have n3_ := n2_; clear HB; have HB := n0_; have BK373 := n1_; have GW373 := n2_; have GE373 := n3_; clear n0_ n1_ n2_ n3_ hb hbox hg))
  repeat (go_quiet (first | ((with_reducible refine gate_dst (N := 1) rfl ?_); (try (refine gate_guard (by rfl) ?_; dsimp only)); refine box_event ?hg (N := 1) ?hd (cs := #[.int .i64 a0_0, .slice A0_1 l0_1.length c0_1]) (t := 24) ?hr ?_; (case hd => rfl); (case hg => rfl); (case hr => first | (go_simp; done) | (go_simp; rfl)); intro gb373 hg w3 hbox hb; have n0_ := Qx (Qp (by repeat (first | (with_reducible first | exact HB.out | apply Qa | apply Qn | apply Qd) | exact HB.out)) hb); have n1_ := Qx (hbox); have n2_ := Qx ((by rw [hg]; exact (Qz (by repeat (first | (with_reducible first | exact HB.out | apply Qa | apply Qn | apply Qd) | exact HB.out))) : w.heap.size ≤ gb373)); have n3_ := n2_; clear HB; have HB := n0_; have BK373 := n1_; have GW373 := n2_; have GE373 := n3_; clear n0_ n1_ n2_ n3_ hb hbox hg)); go_upto_region 1 with (first | ((with_reducible refine gate_dst (N := 1) rfl ?_); (try (refine gate_guard (by rfl) ?_; dsimp only)); refine box_event ?hg (N := 1) ?hd (cs := #[.int .i64 a0_0, .slice A0_1 l0_1.length c0_1]) (t := 24) ?hr ?_; (case hd => rfl); (case hg => rfl); (case hr => first | (go_simp; done) | (go_simp; rfl)); intro gb373 hg w3 hbox hb; have n0_ := Qx (Qp (by repeat (first | (with_reducible first | exact HB.out | apply Qa | apply Qn | apply Qd) | exact HB.out)) hb); have n1_ := Qx (hbox); have n2_ := Qx ((by rw [hg]; exact (Qz (by repeat (first | (with_reducible first | exact HB.out | apply Qa | apply Qn | apply Qd) | exact HB.out))) : w.heap.size ≤ gb373)); have n3_ := n2_; clear HB; have HB := n0_; have BK373 := n1_; have GW373 := n2_; have GE373 := n3_; clear n0_ n1_ n2_ n3_ hb hbox hg)))
  (try simp only [Act.put, List.setIfInBounds_toArray, List.set_cons_zero, List.set_cons_succ])
  go_cut [18] (fun v18 wc => ∃ (kq : Nat) (x18_1 : Bool), v18 = .bool x18_1 ∧ Aside0 (impl_IsBits.j0 kq x18_1 a0_0 l0_1 = some r) ∧ Aside0 (kq ≤ k) ∧ Aside0 (wc.heap[gb373]? = some (.cells #[.int .i64 a0_0, (.slice A0_1 l0_1.length c0_1)] 24 (0, 0))) ∧ Aside0 (Below w.heap.size w wc))
  case first =>
   have H := HC2.out; clear HC2; replace H := Option.bind_eq_some_iff.mp H; obtain ⟨t374, A40, H⟩ := H
   have A4 := Qx A40; clear A40
   by_cases c5 : t374 = true
   ·subst c5
    have H1 : ((impl_words.f a0_0).bind fun t375 => (impl_IsBits.j0 k ((l0_1.length : Int) != t375) a0_0 l0_1)) = some r := by rw [if_pos rfl] at H; exact H
    clear H; have H := H1; clear H1; replace H := Option.bind_eq_some_iff.mp H; obtain ⟨t375, A60, H⟩ := H
    have A6 := Qx A60; clear A60; have H' := Qx H; clear H
    obtain ⟨hcz7_0, hcz7_1, hfz7_0, hfz7_1⟩ := cellsQ2_g3feb (w := w3) BK373.out
    go_wp2_with (first | (go_at_call 66; (with_reducible refine (impl_in.calls a0_0 0 4096 true _ A4.out).mono ?_); rintro e w' ⟨rfl, ⟨nd, rfl⟩⟩; (try first | exact ⟨rfl, _, World.drewN_drewN _ _ _⟩ | exact ⟨rfl, _, Eq.trans (World.drewN_drewN _ _ _) (congrArg (World.drewN _) (Nat.add_assoc _ _ _))⟩)) | (go_at_call 115; (with_reducible refine (impl_words.calls a0_0 t375 _ A6.out).mono ?_); rintro e w' ⟨rfl, ⟨nd, rfl⟩⟩; (try first | exact ⟨rfl, _, World.drewN_drewN _ _ _⟩ | exact ⟨rfl, _, Eq.trans (World.drewN_drewN _ _ _) (congrArg (World.drewN _) (Nat.add_assoc _ _ _))⟩)))
    repeat (go_quiet (first | (go_at_call 66; (with_reducible refine (impl_in.calls a0_0 0 4096 true _ A4.out).mono ?_); rintro e w' ⟨rfl, ⟨nd, rfl⟩⟩; (try first | exact ⟨rfl, _, World.drewN_drewN _ _ _⟩ | exact ⟨rfl, _, Eq.trans (World.drewN_drewN _ _ _) (congrArg (World.drewN _) (Nat.add_assoc _ _ _))⟩)) | (go_at_call 115; (with_reducible refine (impl_words.calls a0_0 t375 _ A6.out).mono ?_); rintro e w' ⟨rfl, ⟨nd, rfl⟩⟩; (try first | exact ⟨rfl, _, World.drewN_drewN _ _ _⟩ | exact ⟨rfl, _, Eq.trans (World.drewN_drewN _ _ _) (congrArg (World.drewN _) (Nat.add_assoc _ _ _))⟩))); try go_wp2_with (first | (go_at_call 66; (with_reducible refine (impl_in.calls a0_0 0 4096 true _ A4.out).mono ?_); rintro e w' ⟨rfl, ⟨nd, rfl⟩⟩; (try first | exact ⟨rfl, _, World.drewN_drewN _ _ _⟩ | exact ⟨rfl, _, Eq.trans (World.drewN_drewN _ _ _) (congrArg (World.drewN _) (Nat.add_assoc _ _ _))⟩)) | (go_at_call 115; (with_reducible refine (impl_words.calls a0_0 t375 _ A6.out).mono ?_); rintro e w' ⟨rfl, ⟨nd, rfl⟩⟩; (try first | exact ⟨rfl, _, World.drewN_drewN _ _ _⟩ | exact ⟨rfl, _, Eq.trans (World.drewN_drewN _ _ _) (congrArg (World.drewN _) (Nat.add_assoc _ _ _))⟩))))
    go_meet
    case rel => exact ⟨_, (((l0_1.length : Int) != t375)), (by first | rfl | (simp; done) | (simp [*]; done)), H', ⟨by first | omega | exact Nat.le_refl _⟩, ⟨by (with_reducible repeat (first | refine Qm ?_ _ | refine Qw ?_ | refine Qk ?_ _)); exact BK373.out⟩, ⟨by repeat (first | (with_reducible first | exact HB.out | apply Qa | apply Qn | apply Qd | refine Qs ?_ GE373.out) | exact HB.out)⟩⟩
   ·replace c5 := Bool.eq_false_iff.mpr c5; subst c5
    have H1 : (impl_IsBits.j0 k true a0_0 l0_1) = some r := by rw [if_neg (show ¬ (false = true) by decide)] at H; exact H
    clear H; have H := H1; clear H1; have H' := Qx H; clear H
    obtain ⟨hcz8_0, hcz8_1, hfz8_0, hfz8_1⟩ := cellsQ2_g3feb (w := w3) BK373.out
    go_wp2_with (first | (go_at_call 66; (with_reducible refine (impl_in.calls a0_0 0 4096 false _ A4.out).mono ?_); rintro e w' ⟨rfl, ⟨nd, rfl⟩⟩; (try first | exact ⟨rfl, _, World.drewN_drewN _ _ _⟩ | exact ⟨rfl, _, Eq.trans (World.drewN_drewN _ _ _) (congrArg (World.drewN _) (Nat.add_assoc _ _ _))⟩)))
    repeat (go_quiet (first | (go_at_call 66; (with_reducible refine (impl_in.calls a0_0 0 4096 false _ A4.out).mono ?_); rintro e w' ⟨rfl, ⟨nd, rfl⟩⟩; (try first | exact ⟨rfl, _, World.drewN_drewN _ _ _⟩ | exact ⟨rfl, _, Eq.trans (World.drewN_drewN _ _ _) (congrArg (World.drewN _) (Nat.add_assoc _ _ _))⟩))); try go_wp2_with (first | (go_at_call 66; (with_reducible refine (impl_in.calls a0_0 0 4096 false _ A4.out).mono ?_); rintro e w' ⟨rfl, ⟨nd, rfl⟩⟩; (try first | exact ⟨rfl, _, World.drewN_drewN _ _ _⟩ | exact ⟨rfl, _, Eq.trans (World.drewN_drewN _ _ _) (congrArg (World.drewN _) (Nat.add_assoc _ _ _))⟩))))
    go_meet
    case rel => exact ⟨_, (true), (by first | rfl | (simp; done) | (simp [*]; done)), H', ⟨by first | omega | exact Nat.le_refl _⟩, ⟨by (with_reducible repeat (first | refine Qm ?_ _ | refine Qw ?_ | refine Qk ?_ _)); exact BK373.out⟩, ⟨by repeat (first | (with_reducible first | exact HB.out | apply Qa | apply Qn | apply Qd | refine Qs ?_ GE373.out) | exact HB.out)⟩⟩
  case rest =>
   clear HC2
   try clear p2
   try clear c5
   try clear hcz7_0
   try clear hcz7_1
   try clear hcz8_0
   try clear hcz8_1
   try clear hfz7_0
   try clear hfz7_1
   try clear hfz8_0
   try clear hfz8_1
   obtain ⟨kq, x18_1, rfl, HA, HJ1, BK373, HB⟩ := hcut
   cases kq with
   | zero => exact absurd HA.out (by simp [impl_IsBits.j0])
   | succ kj1 =>
    have H := HA.out; clear HA; simp only [impl_IsBits.j0] at H
    by_cases c9 : x18_1 = true
    ·subst c9
     have H1 : (some false) = some r := by rw [if_pos rfl] at H; exact H
     clear H; have H := H1; clear H1; obtain rfl := Option.some.inj H
     go_wp2
     repeat (go_quiet (fail); try go_wp2)
     go_ret
     exact ⟨by first | rfl | (simp [errW_none, errW_some] <;> rfl) | (simp [*, errW_none, errW_some] <;> rfl), by repeat (first | (with_reducible first | exact HB.out | apply Qa | apply Qn | apply Qd | refine Qs ?_ GE373.out) | exact HB.out)⟩
    ·replace c9 := Bool.eq_false_iff.mpr c9; subst c9
     have H1 : (impl_IsBits.l0 kj1 l0_1 (l0_1.length : Int) 0 a0_0 l0_1) = some r := by rw [if_neg (show ¬ (false = true) by decide)] at H; exact H
     clear H; have H := H1; clear H1; have H' := Qx H; clear H
     obtain ⟨hcz10_0, hcz10_1, hfz10_0, hfz10_1⟩ := cellsQ2_g3feb (w := wc) BK373.out
     go_wp2
     repeat (go_quiet (fail); try go_wp2)
     go_loopg [22] kj1 (fun kq v22 w' => ∃ (x22_2 : Int), v22 = .int .i64 x22_2 ∧ Aside0 (impl_IsBits.l0 kq l0_1 (l0_1.length : Int) x22_2 a0_0 l0_1 = some r) ∧ Aside0 (kq ≤ kj1) ∧ Aside0 (w'.heap[gb373]? = some (.cells #[.int .i64 a0_0, (.slice A0_1 l0_1.length c0_1)] 24 (0, 0))) ∧ Aside0 (Below w.heap.size w w'))
     case atStart => exact ⟨(0), (by first | rfl | (simp; done) | (simp [*]; done)), H', ⟨Nat.le_refl _⟩, ⟨by (with_reducible repeat (first | refine Qm ?_ _ | refine Qw ?_ | refine Qk ?_ _)); exact BK373.out⟩, ⟨by repeat (first | (with_reducible first | exact HB.out | apply Qa | apply Qn | apply Qd | refine Qs ?_ GE373.out) | exact HB.out)⟩⟩
     case round =>
      clear H'
      try clear p2
      try clear c5
      try clear c9
      try clear hcz10_0
      try clear hcz10_1
      try clear hcz7_0
      try clear hcz7_1
      try clear hcz8_0
      try clear hcz8_1
      try clear hfz10_0
      try clear hfz10_1
      try clear hfz7_0
      try clear hfz7_1
      try clear hfz8_0
      try clear hfz8_1
      try clear p2
      obtain ⟨x22_2, rfl, HA, HK2, BK373, HB⟩ := hrel
      cases gk with
      | zero => exact absurd HA.out (by simp [impl_IsBits.l0])
      | succ k2 =>
       have H := HA.out; clear HA; simp only [impl_IsBits.l0] at H
       by_cases c11 : x22_2 < (l0_1.length : Int)
       ·rw [if_pos c11] at H
        have c11b0 : decide (x22_2 < (l0_1.length : Int)) = true := decide_eq_true c11
        clear c11
        by_cases c12 : 0 ≤ x22_2
        ·rw [if_pos c12] at H
         have c12b0 : decide (0 ≤ x22_2) = true := decide_eq_true c12
         clear c12
         by_cases c13 : x22_2 < (l0_1.length : Int)
         ·rw [if_pos c13] at H
          have c13b0 : decide (x22_2 < (l0_1.length : Int)) = true := decide_eq_true c13
          clear c13; replace H := Option.bind_eq_some_iff.mp H; obtain ⟨t377, A140, H⟩ := H
          have A14 := Qx A140; clear A140
          by_cases c15 : t377 = true
          ·subst c15
           have H1 : (impl_IsBits.l0 k2 l0_1 (l0_1.length : Int) (wrap64 (x22_2 + 1)) a0_0 l0_1) = some r := by rw [if_pos rfl] at H; exact H
           clear H; have H := H1; clear H1; have H' := Qx H; clear H
           have p376 : 0 ≤ (x22_2 : Int) := of_decide_eq_true (by first | (with_reducible assumption) | assumption)
           have q376 : x22_2 < (l0_1.length : Int) := of_decide_eq_true (by first | (with_reducible assumption) | assumption)
           obtain ⟨ad376, e376, hx376_0⟩ := Kd.at_int HR0_1.out x22_2 p376 q376
           cases e376
           replace hx376_0 := (HB.out.cell (World.block_lt_of_cell? w _ hx376_0)).trans hx376_0
           replace p376 := eq_true p376; replace q376 := eq_true q376
           go_wp2_with (first | (go_at_call 66; (with_reducible refine (impl_in.calls (rd l0_1 x22_2) 0 65535 true _ A14.out).mono ?_); rintro e w' ⟨rfl, ⟨nd, rfl⟩⟩; (try first | exact ⟨rfl, _, World.drewN_drewN _ _ _⟩ | exact ⟨rfl, _, Eq.trans (World.drewN_drewN _ _ _) (congrArg (World.drewN _) (Nat.add_assoc _ _ _))⟩)))
           repeat (go_quiet (first | (go_at_call 66; (with_reducible refine (impl_in.calls (rd l0_1 x22_2) 0 65535 true _ A14.out).mono ?_); rintro e w' ⟨rfl, ⟨nd, rfl⟩⟩; (try first | exact ⟨rfl, _, World.drewN_drewN _ _ _⟩ | exact ⟨rfl, _, Eq.trans (World.drewN_drewN _ _ _) (congrArg (World.drewN _) (Nat.add_assoc _ _ _))⟩))); try go_wp2_with (first | (go_at_call 66; (with_reducible refine (impl_in.calls (rd l0_1 x22_2) 0 65535 true _ A14.out).mono ?_); rintro e w' ⟨rfl, ⟨nd, rfl⟩⟩; (try first | exact ⟨rfl, _, World.drewN_drewN _ _ _⟩ | exact ⟨rfl, _, Eq.trans (World.drewN_drewN _ _ _) (congrArg (World.drewN _) (Nat.add_assoc _ _ _))⟩))))
           go_roundg k2
           case measure => have := HJ1.out; have := HK2.out; omega
           case rel => exact ⟨(wrap64 (x22_2 + 1)), (by first | rfl | (simp; done) | (simp [*]; done)), H', ⟨by have := HJ1.out; have := HK2.out; omega⟩, ⟨by (with_reducible repeat (first | refine Qm ?_ _ | refine Qw ?_ | refine Qk ?_ _)); exact BK373.out⟩, ⟨by repeat (first | (with_reducible first | exact HB.out | apply Qa | apply Qn | apply Qd | refine Qs ?_ GE373.out) | exact HB.out)⟩⟩
          ·replace c15 := Bool.eq_false_iff.mpr c15; subst c15
           have H1 : (some false) = some r := by rw [if_neg (show ¬ (false = true) by decide)] at H; exact H
           clear H; have H := H1; clear H1; obtain rfl := Option.some.inj H
           have p376 : 0 ≤ (x22_2 : Int) := of_decide_eq_true (by first | (with_reducible assumption) | assumption)
           have q376 : x22_2 < (l0_1.length : Int) := of_decide_eq_true (by first | (with_reducible assumption) | assumption)
           obtain ⟨ad376, e376, hx376_0⟩ := Kd.at_int HR0_1.out x22_2 p376 q376
           cases e376
           replace hx376_0 := (HB.out.cell (World.block_lt_of_cell? w _ hx376_0)).trans hx376_0
           replace p376 := eq_true p376; replace q376 := eq_true q376
           go_wp2_with (first | (go_at_call 66; (with_reducible refine (impl_in.calls (rd l0_1 x22_2) 0 65535 false _ A14.out).mono ?_); rintro e w' ⟨rfl, ⟨nd, rfl⟩⟩; (try first | exact ⟨rfl, _, World.drewN_drewN _ _ _⟩ | exact ⟨rfl, _, Eq.trans (World.drewN_drewN _ _ _) (congrArg (World.drewN _) (Nat.add_assoc _ _ _))⟩)))
           repeat (go_quiet (first | (go_at_call 66; (with_reducible refine (impl_in.calls (rd l0_1 x22_2) 0 65535 false _ A14.out).mono ?_); rintro e w' ⟨rfl, ⟨nd, rfl⟩⟩; (try first | exact ⟨rfl, _, World.drewN_drewN _ _ _⟩ | exact ⟨rfl, _, Eq.trans (World.drewN_drewN _ _ _) (congrArg (World.drewN _) (Nat.add_assoc _ _ _))⟩))); try go_wp2_with (first | (go_at_call 66; (with_reducible refine (impl_in.calls (rd l0_1 x22_2) 0 65535 false _ A14.out).mono ?_); rintro e w' ⟨rfl, ⟨nd, rfl⟩⟩; (try first | exact ⟨rfl, _, World.drewN_drewN _ _ _⟩ | exact ⟨rfl, _, Eq.trans (World.drewN_drewN _ _ _) (congrArg (World.drewN _) (Nat.add_assoc _ _ _))⟩))))
           go_ret
           exact ⟨by first | rfl | (simp [errW_none, errW_some] <;> rfl) | (simp [*, errW_none, errW_some] <;> rfl), by repeat (first | (with_reducible first | exact HB.out | apply Qa | apply Qn | apply Qd | refine Qs ?_ GE373.out) | exact HB.out)⟩
         ·rw [if_neg c13] at H
          exact absurd H (by simp)
        ·rw [if_neg c12] at H
         exact absurd H (by simp)
       ·rw [if_neg c11] at H
        have c11b0 : decide (x22_2 < (l0_1.length : Int)) = false := decide_eq_false c11
        clear c11
        by_cases c16 : (Int.tmod a0_0 16) = 0
        ·rw [if_pos c16] at H
         have c16b0 : ((Int.tmod a0_0 16) == 0) = true := beq_iff_eq.mpr c16
         have c16b1 : ((Int.tmod a0_0 16) != 0) = false := bne_eq_false_iff_eq.mpr c16
         clear c16; obtain rfl := Option.some.inj H
         obtain ⟨hcz17_0, hcz17_1, hfz17_0, hfz17_1⟩ := cellsQ2_g3feb (w := wr) BK373.out
         go_wp2
         repeat (go_quiet (fail); try go_wp2)
         go_ret
         exact ⟨by first | rfl | (simp [errW_none, errW_some] <;> rfl) | (simp [*, errW_none, errW_some] <;> rfl), by repeat (first | (with_reducible first | exact HB.out | apply Qa | apply Qn | apply Qd | refine Qs ?_ GE373.out) | exact HB.out)⟩
        ·rw [if_neg c16] at H
         have c16b0 : ((Int.tmod a0_0 16) == 0) = false := beq_eq_false_iff_ne.mpr c16
         have c16b1 : ((Int.tmod a0_0 16) != 0) = true := bne_iff_ne.mpr c16
         obtain ⟨ji18, hji18⟩ : ∃ j_ : Int, (wrap64 ((l0_1.length : Int) - 1)) = j_ := ⟨_, rfl⟩
         replace H : (if 0 ≤ (ji18) then (if (ji18) < (l0_1.length : Int) then (if 0 ≤ (Int.tmod a0_0 16) then (some ((shr .i64 (rd l0_1 (ji18)) (Int.tmod a0_0 16)) == 0)) else (none)) else (none)) else (none)) = some r := by first | (rw [hji18] at H; exact H) | (simp only [hji18] at H ⊢; exact H)
         have hji18w : (IntKind.i64.wrap ((l0_1.length : Int) - 1)) = ji18 := (i64_w _).trans hji18
         by_cases c19 : 0 ≤ (ji18)
         ·rw [if_pos c19] at H
          have c19b0 : decide (0 ≤ (ji18)) = true := decide_eq_true c19
          clear c19
          by_cases c20 : (ji18) < (l0_1.length : Int)
          ·rw [if_pos c20] at H
           have c20b0 : decide ((ji18) < (l0_1.length : Int)) = true := decide_eq_true c20
           clear c20
           obtain ⟨ji21, hji21⟩ : ∃ j_ : Int, (Int.tmod a0_0 16) = j_ := ⟨_, rfl⟩
           replace H : (if 0 ≤ (ji21) then (some ((shr .i64 (rd l0_1 (ji18)) (ji21)) == 0)) else (none)) = some r := by first | (rw [hji21] at H; exact H) | (simp only [hji21] at H ⊢; exact H)
           (try rw [hji21] at c16b0)
           (try rw [hji21] at c16b1)
           by_cases c22 : 0 ≤ (ji21)
           ·rw [if_pos c22] at H; have c22b0 := eq_true c22
            have c22b1 : decide (0 ≤ (ji21)) = true := decide_eq_true c22
            clear c22
            obtain ⟨ji23, hji23⟩ : ∃ j_ : Int, (shr .i64 (rd l0_1 (ji18)) (ji21)) = j_ := ⟨_, rfl⟩
            replace H : (some ((ji23) == 0)) = some r := by first | (rw [hji23] at H; exact H) | (simp only [hji23] at H ⊢; exact H)
            have hji23_ : ((rd l0_1 (ji18)) / 2 ^ min (ji21).toNat 64) = ji23 := hji23
            have hji23z : (ji21) ≤ 64 → ((rd l0_1 (ji18)) / 2 ^ (ji21).toNat) = ji23 := shr_small hji23
            obtain rfl := Option.some.inj H
            obtain ⟨hcz24_0, hcz24_1, hfz24_0, hfz24_1⟩ := cellsQ2_g3feb (w := wr) BK373.out
            have p378 : 0 ≤ ((ji18) : Int) := of_decide_eq_true (by first | (with_reducible assumption) | assumption)
            have q378 : (ji18) < (l0_1.length : Int) := of_decide_eq_true (by first | (with_reducible assumption) | assumption)
            obtain ⟨ad378, e378, hx378_0⟩ := Kd.at_int HR0_1.out (ji18) p378 q378
            cases e378
            replace hx378_0 := (HB.out.cell (World.block_lt_of_cell? w _ hx378_0)).trans hx378_0
            replace p378 := eq_true p378; replace q378 := eq_true q378
            go_wp2
            repeat (go_quiet (fail); try go_wp2)
            go_ret
            exact ⟨by first | rfl | (simp [errW_none, errW_some] <;> rfl) | (simp only [← hji18, ← hji21, ← hji23]; first | rfl | (simp [errW_none, errW_some] <;> rfl)) | (simp [*, errW_none, errW_some] <;> rfl), by repeat (first | (with_reducible first | exact HB.out | apply Qa | apply Qn | apply Qd | refine Qs ?_ GE373.out) | exact HB.out)⟩
           ·rw [if_neg c22] at H
            exact absurd H (by simp)
          ·rw [if_neg c20] at H
           exact absurd H (by simp)
         ·rw [if_neg c19] at H
          exact absurd H (by simp)
/-! ### slices_Equal_int_int: function 119 -/
def slices_Equal_int_int.l0 : Nat → List Int → List Int → Int → Int → Option (Bool)
  | 0, _, _, _, _ => none
  | k + 1, x0, x1, x12, x13 => if x13 < x12 then (if 0 ≤ x13 then (if x13 < (x0.length : Int) then (if x13 < (x1.length : Int) then (if (rd x0 x13) = (rd x1 x13) then (slices_Equal_int_int.l0 k x0 x1 x12 (wrap64 (x13 + 1))) else (some false)) else (none)) else (none)) else (none)) else (some true)
def slices_Equal_int_int.f (k : Nat) (l0 : List Int) (l1 : List Int) : Option (Bool) := if (l0.length : Int) = (l1.length : Int) then (slices_Equal_int_int.l0 k l0 l1 (l0.length : Int) 0) else (some false)
theorem slices_Equal_int_int.mono_l : ∀ k, (∀ y0 y1 y2 y3, LeO (slices_Equal_int_int.l0 k y0 y1 y2 y3) (slices_Equal_int_int.l0 (k + 1) y0 y1 y2 y3))
  | 0 => fun _ _ _ _ r h => by simp [slices_Equal_int_int.l0] at h
  | k + 1 => by
    have ih0 := slices_Equal_int_int.mono_l k
    · intro y0 y1 y2 y3
      unfold slices_Equal_int_int.l0
      repeat' first
      | (with_reducible exact ih0 _ _ _ _)
      | (with_reducible exact LeO.refl _)
      | (with_reducible exact LeO.none _)
      | (with_reducible refine LeO.ite ?_ ?_)
      | (with_reducible refine LeO.bind ?_ (fun _ => ?_))
      | exact ih0 _ _ _ _
      | exact LeO.none _
      | refine LeO.ite ?_ ?_
      | refine LeO.bind ?_ (fun _ => ?_)
theorem slices_Equal_int_int.mono : ∀ a0 a1 k, LeO (slices_Equal_int_int.f k a0 a1) (slices_Equal_int_int.f (k + 1) a0 a1) := by
  intro a0 a1 k
  have ih0 := slices_Equal_int_int.mono_l k
  unfold slices_Equal_int_int.f
  repeat' first
      | (with_reducible exact ih0 _ _ _ _)
      | (with_reducible exact LeO.refl _)
      | (with_reducible exact LeO.none _)
      | (with_reducible refine LeO.ite ?_ ?_)
      | (with_reducible refine LeO.bind ?_ (fun _ => ?_))
      | exact ih0 _ _ _ _
      | exact LeO.none _
      | refine LeO.ite ?_ ?_
      | refine LeO.bind ?_ (fun _ => ?_)
noncomputable def slices_Equal_int_int.L0 (y0 : List Int) (y1 : List Int) (y2 : Int) (y3 : Int) : Option (Bool) := lim fun k => slices_Equal_int_int.l0 k y0 y1 y2 y3
theorem slices_Equal_int_int.L0_sup (y0 : List Int) (y1 : List Int) (y2 : Int) (y3 : Int) : Sup (fun k => slices_Equal_int_int.l0 k y0 y1 y2 y3) (slices_Equal_int_int.L0 y0 y1 y2 y3) := Sup.of_mono fun k => slices_Equal_int_int.mono_l k y0 y1 y2 y3
noncomputable def slices_Equal_int_int.F (l0 : List Int) (l1 : List Int) : Option (Bool) := lim fun k => slices_Equal_int_int.f k l0 l1
theorem slices_Equal_int_int.F_sup (l0 : List Int) (l1 : List Int) : Sup (fun k => slices_Equal_int_int.f k l0 l1) (slices_Equal_int_int.F l0 l1) := Sup.of_mono fun k => slices_Equal_int_int.mono l0 l1 k
theorem slices_Equal_int_int.L0_eq (x0 : List Int) (x1 : List Int) (x12 : Int) (x13 : Int) : slices_Equal_int_int.L0 x0 x1 x12 x13 = if x13 < x12 then (if 0 ≤ x13 then (if x13 < (x0.length : Int) then (if x13 < (x1.length : Int) then (if (rd x0 x13) = (rd x1 x13) then (slices_Equal_int_int.L0 x0 x1 x12 (wrap64 (x13 + 1))) else (some false)) else (none)) else (none)) else (none)) else (some true) := by
  refine Sup.unique (slices_Equal_int_int.L0_sup x0 x1 x12 x13) (Sup.shift (fun k => slices_Equal_int_int.mono_l k x0 x1 x12 x13) (Sup.congr (g' := fun k => if x13 < x12 then (if 0 ≤ x13 then (if x13 < (x0.length : Int) then (if x13 < (x1.length : Int) then (if (rd x0 x13) = (rd x1 x13) then (slices_Equal_int_int.l0 k x0 x1 x12 (wrap64 (x13 + 1))) else (some false)) else (none)) else (none)) else (none)) else (some true)) (fun k => by first | rfl | simp only [slices_Equal_int_int.l0]) ?_))
  repeat' first
    | (with_reducible exact slices_Equal_int_int.L0_sup _ _ _ _)
    | (with_reducible refine Sup.ite ?_ ?_)
    | (with_reducible refine Sup.bind ?_ (fun _ => ?_))
    | (with_reducible exact Sup.const _)
    | exact slices_Equal_int_int.L0_sup _ _ _ _
    | exact Sup.const _
theorem slices_Equal_int_int.F_eq (l0 : List Int) (l1 : List Int) : slices_Equal_int_int.F l0 l1 = if (l0.length : Int) = (l1.length : Int) then (slices_Equal_int_int.L0 l0 l1 (l0.length : Int) 0) else (some false) := by
  refine Sup.unique (slices_Equal_int_int.F_sup l0 l1) (Sup.congr (g' := fun k => if (l0.length : Int) = (l1.length : Int) then (slices_Equal_int_int.l0 k l0 l1 (l0.length : Int) 0) else (some false)) (fun k => by first | rfl | simp only [slices_Equal_int_int.f]) ?_)
  repeat' first
    | (with_reducible exact slices_Equal_int_int.L0_sup _ _ _ _)
    | (with_reducible refine Sup.ite ?_ ?_)
    | (with_reducible refine Sup.bind ?_ (fun _ => ?_))
    | (with_reducible exact Sup.const _)
    | exact slices_Equal_int_int.L0_sup _ _ _ _
    | exact Sup.const _
set_option maxHeartbeats 8000000 in
set_option maxRecDepth 100000 in
theorem slices_Equal_int_int.calls (k : Nat) (A0 : Option Addr) (c0 : Nat) (l0 : List Int) (A1 : Option Addr) (c1 : Nat) (l1 : List Int) (r : Bool) (w : World) (hr0 : Kd.C (Kd.int .i64) w A0 l0.length l0) (hc0 : l0.length ≤ c0) (hr1 : Kd.C (Kd.int .i64) w A1 l1.length l1) (hc1 : l1.length ≤ c1) (h : slices_Equal_int_int.f k l0 l1 = some r) :
    Calls Try.prog 119 #[.slice A0 l0.length c0, .slice A1 l1.length c1] w fun e w' => e = .returned (.bool r) ∧ Drawn0 w w' := by
  have HR0 := Qx hr0; have HC0 := Qx hc0; clear hr0 hc0; have HR1 := Qx hr1; have HC1 := Qx hc1; clear hr1 hc1
  have H : (if (l0.length : Int) = (l1.length : Int) then (slices_Equal_int_int.l0 k l0 l1 (l0.length : Int) 0) else (some false)) = some r := h
  clear h
  by_cases c3 : (l0.length : Int) = (l1.length : Int)
  ·rw [if_pos c3] at H
   have c3b0 : ((l0.length : Int) == (l1.length : Int)) = true := beq_iff_eq.mpr c3
   have c3b1 : ((l0.length : Int) != (l1.length : Int)) = false := bne_eq_false_iff_eq.mpr c3
   have c3b2 : (l0.length == l1.length) = true := by first | simpa using c3 | (simp at c3 ⊢; omega)
   clear c3; have H' := Qx H; clear H
   go_enter Try.func119, Try.ntmps119
   go_wp2
   repeat (go_quiet (fail); try go_wp2)
   go_loopg [13] k (fun kq v13 w' => ∃ (x13_1 : Int), v13 = .int .i64 x13_1 ∧ Aside0 (slices_Equal_int_int.l0 kq l0 l1 (l0.length : Int) x13_1 = some r) ∧ Aside0 (kq ≤ k) ∧ Drawn0 w w')
   case atStart => exact ⟨(0), (by first | rfl | (simp; done) | (simp [*]; done)), H', ⟨Nat.le_refl _⟩, by repeat (first | exact Drawn0.refl _ | apply Drawn0.step)⟩
   case round =>
    clear H'
    try clear c1
    try clear p2
    try clear c3
    try clear c3b0
    try clear c3b1
    try clear c3b2
    obtain ⟨x13_1, rfl, HA, HK1, ⟨m1, rfl⟩⟩ := hrel
    cases gk with
    | zero => exact absurd HA.out (by simp [slices_Equal_int_int.l0])
    | succ k1 =>
     have H := HA.out; clear HA; simp only [slices_Equal_int_int.l0] at H
     by_cases c4 : x13_1 < (l0.length : Int)
     ·rw [if_pos c4] at H
      have c4b0 : decide (x13_1 < (l0.length : Int)) = true := decide_eq_true c4
      clear c4
      by_cases c5 : 0 ≤ x13_1
      ·rw [if_pos c5] at H
       have c5b0 : decide (0 ≤ x13_1) = true := decide_eq_true c5
       clear c5
       by_cases c6 : x13_1 < (l0.length : Int)
       ·rw [if_pos c6] at H
        have c6b0 : decide (x13_1 < (l0.length : Int)) = true := decide_eq_true c6
        clear c6
        by_cases c7 : x13_1 < (l1.length : Int)
        ·rw [if_pos c7] at H
         have c7b0 : decide (x13_1 < (l1.length : Int)) = true := decide_eq_true c7
         clear c7
         by_cases c8 : (rd l0 x13_1) = (rd l1 x13_1)
         ·rw [if_pos c8] at H
          have c8b0 : ((rd l0 x13_1) == (rd l1 x13_1)) = true := beq_iff_eq.mpr c8
          have c8b1 : ((rd l0 x13_1) != (rd l1 x13_1)) = false := bne_eq_false_iff_eq.mpr c8
          clear c8; have H' := Qx H; clear H
          have p379 : 0 ≤ (x13_1 : Int) := of_decide_eq_true (by first | (with_reducible assumption) | assumption)
          have q379 : x13_1 < (l0.length : Int) := of_decide_eq_true (by first | (with_reducible assumption) | assumption)
          obtain ⟨ad379, e379, hx379_0⟩ := Kd.at_int HR0.out x13_1 p379 q379
          cases e379
          replace p379 := eq_true p379; replace q379 := eq_true q379
          have p380 : 0 ≤ (x13_1 : Int) := of_decide_eq_true (by first | (with_reducible assumption) | assumption)
          have q380 : x13_1 < (l1.length : Int) := of_decide_eq_true (by first | (with_reducible assumption) | assumption)
          obtain ⟨ad380, e380, hx380_0⟩ := Kd.at_int HR1.out x13_1 p380 q380
          cases e380
          replace p380 := eq_true p380; replace q380 := eq_true q380
          go_wp2
          repeat (go_quiet (fail); try go_wp2)
          go_roundg k1
          case measure => have := HK1.out; omega
          case rel => exact ⟨(wrap64 (x13_1 + 1)), (by first | rfl | (simp; done) | (simp [*]; done)), H', ⟨by have := HK1.out; omega⟩, by repeat (first | exact Drawn0.refl _ | apply Drawn0.step)⟩
         ·rw [if_neg c8] at H
          have c8b0 : ((rd l0 x13_1) == (rd l1 x13_1)) = false := beq_eq_false_iff_ne.mpr c8
          have c8b1 : ((rd l0 x13_1) != (rd l1 x13_1)) = true := bne_iff_ne.mpr c8
          obtain rfl := Option.some.inj H
          have p379 : 0 ≤ (x13_1 : Int) := of_decide_eq_true (by first | (with_reducible assumption) | assumption)
          have q379 : x13_1 < (l0.length : Int) := of_decide_eq_true (by first | (with_reducible assumption) | assumption)
          obtain ⟨ad379, e379, hx379_0⟩ := Kd.at_int HR0.out x13_1 p379 q379
          cases e379
          replace p379 := eq_true p379; replace q379 := eq_true q379
          have p380 : 0 ≤ (x13_1 : Int) := of_decide_eq_true (by first | (with_reducible assumption) | assumption)
          have q380 : x13_1 < (l1.length : Int) := of_decide_eq_true (by first | (with_reducible assumption) | assumption)
          obtain ⟨ad380, e380, hx380_0⟩ := Kd.at_int HR1.out x13_1 p380 q380
          cases e380
          replace p380 := eq_true p380; replace q380 := eq_true q380
          go_wp2
          repeat (go_quiet (fail); try go_wp2)
          go_ret
          exact ⟨by first | rfl | (simp; done) | (simp [*]; done), by repeat (first | exact Drawn0.refl _ | apply Drawn0.step)⟩
        ·rw [if_neg c7] at H
         exact absurd H (by simp)
       ·rw [if_neg c6] at H
        exact absurd H (by simp)
      ·rw [if_neg c5] at H
       exact absurd H (by simp)
     ·rw [if_neg c4] at H
      have c4b0 : decide (x13_1 < (l0.length : Int)) = false := decide_eq_false c4
      clear c4; obtain rfl := Option.some.inj H
      go_wp2
      repeat (go_quiet (fail); try go_wp2)
      go_ret
      exact ⟨by first | rfl | (simp; done) | (simp [*]; done), by repeat (first | exact Drawn0.refl _ | apply Drawn0.step)⟩
  ·rw [if_neg c3] at H
   have c3b0 : ((l0.length : Int) == (l1.length : Int)) = false := beq_eq_false_iff_ne.mpr c3
   have c3b1 : ((l0.length : Int) != (l1.length : Int)) = true := bne_iff_ne.mpr c3
   have c3b2 : (l0.length == l1.length) = false := by first | simpa using c3 | (simp at c3 ⊢; omega)
   obtain rfl := Option.some.inj H
   go_enter Try.func119, Try.ntmps119
   go_wp2
   repeat (go_quiet (fail); try go_wp2)
   go_ret
   exact ⟨by first | rfl | (simp; done) | (simp [*]; done), by repeat (first | exact Drawn0.refl _ | apply Drawn0.step)⟩
end Go.Proofs.Ytdlbdocpofnfjaa.X
